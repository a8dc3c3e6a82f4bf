/-
  WordOk of the program; slices.ContainsFunc at strings; FillPattern.
-/
import Derived.Test.YtnnboeeogbgmdaaVarsOf
import Derived.Test.YtnnboeeogbgmdaaStrHelp
import Derived.Test.YtnnboeeogbgmdaaFuncInts
namespace Go.Proofs.Ytnnboeeogbgmdaa
open Go.RowKit
set_option linter.unusedVariables false
set_option maxHeartbeats 400000 in
theorem implWordOk_any (k : Int) (s : ByteArray) (w : World) (hs : s.size ≤ maxLen) :
    Calls Try.prog 38 #[.int .i64 k, .string s] w fun e w' => e = .returned (.bool (wordOkB k s)) ∧ w = w' := by
  cases hk : inB k 1 4
  · have F := Lib.hid (wordOk_notk (s := s) hk)
    unfold maxLen at hs
    go_enter Try.func38, Try.ntmps38
    go_wp2_with (go_at_call 28; refine (within_any _ _ _ _).mono ?_; rintro e w' ⟨h2, rfl⟩; rw [hk] at h2; subst h2)
    go_ret
    exact ⟨ret_bool F.out.symm, rfl⟩
  have ⟨hk1, hk2⟩ := inB_bounds hk
  by_cases hl : 16 < s.size
  · have F := Lib.hid (wordOk_long (k := k) hl)
    unfold maxLen at hs
    go_enter Try.func38, Try.ntmps38
    go_wp2_with (go_at_call 28; refine (within_any _ _ _ _).mono ?_; rintro e w' ⟨h2, rfl⟩; rw [hk] at h2; subst h2)
    go_ret
    exact ⟨ret_bool F.out.symm, rfl⟩
  · have G := Lib.hid (wordOk_all (s := s) hk (by omega))
    have HS := Lib.hid hs
    unfold maxLen at hs
    go_enter Try.func38, Try.ntmps38
    go_wp2_with (first | (go_at_call 28; refine (within_any _ _ _ _).mono ?_; rintro e w' ⟨h2, rfl⟩; rw [hk] at h2; subst h2) | (go_at_call 45; refine (hasLetters_any _ _ _ HS.out (by omega) (by omega)).mono ?_; rintro e w' ⟨rfl, rfl⟩))
    go_ret
    exact ⟨ret_bool G.out.symm, rfl⟩
/-- a value that does not fill a variable -/
def badW (s : ByteArray) : Bool := s.toList.isEmpty || !wordOkB 4 s
set_option maxHeartbeats 400000 in
theorem badW_any (s : ByteArray) (w : World) (hs : s.size ≤ maxLen) :
    Calls Try.prog 37 #[.string s] w fun e w' => e = .returned (.bool (badW s)) ∧ Below w.heap.size w w' := by
  cases h : s.toList.isEmpty
  · have F : Hid (badW s = !wordOkB 4 s) := Lib.hid (by simp [badW, h])
    go_enter Try.func37, Try.ntmps37
    go_wp2_with (go_at_call 38; refine (implWordOk_any _ _ _ hs).mono ?_; rintro e w' ⟨rfl, rfl⟩)
    go_ret
    exact ⟨ret_bool F.out.symm, Below.refl _ _⟩
  · have F : Hid (badW s = true) := Lib.hid (by simp [badW, h])
    go_enter Try.func37, Try.ntmps37
    go_wp2_with fail
    go_ret
    exact ⟨ret_bool F.out.symm, Below.refl _ _⟩
/-- a function value that answers p for the strings of a list -/
def PredStrs (B : Nat) (g : Nat) (caps : Array Value) (p : ByteArray → Bool) (l : List ByteArray) (w : World) : Prop :=
  ∀ j, j < l.length → ∀ W, Below B w W → Calls Try.prog g (#[.string (nthS l j)] ++ caps) W fun e W' => e = .returned (.bool (p (nthS l j))) ∧ Below W.heap.size W W'
def idxS (p : ByteArray → Bool) (l : List ByteArray) : Int := match l.findIdx? p with | some i => i | none => -1
def noneToS (p : ByteArray → Bool) (l : List ByteArray) (j : Nat) : Prop := ∀ i, i < j → p (nthS l i) = false
theorem noneToS_succ {p : ByteArray → Bool} {l : List ByteArray} {j : Nat} (h : noneToS p l j) (hj : p (nthS l j) = false) : noneToS p l (j + 1) := fun i hi => by
  by_cases e : i = j
  · rw [e]; exact hj
  · exact h i (by omega)
theorem idxS_at {p : ByteArray → Bool} {l : List ByteArray} {j : Nat} (h : noneToS p l j) (hlt : j < l.length) (hj : p (nthS l j) = true) : idxS p l = j := by
  have : l.findIdx? p = some j := by
    rw [List.findIdx?_eq_some_iff_getElem]
    refine ⟨hlt, by rw [← nthS_lt hlt]; exact hj, fun i hi => ?_⟩
    have := h i hi
    rw [nthS_lt (by omega)] at this
    simp [this]
  simp [idxS, this]
theorem idxS_none {p : ByteArray → Bool} {l : List ByteArray} {j : Nat} (h : noneToS p l j) (hlt : ¬ j < l.length) : idxS p l = -1 := by
  have : l.findIdx? p = none := by
    rw [List.findIdx?_eq_none_iff]
    intro x hx
    obtain ⟨i, hi, rfl⟩ := List.getElem_of_mem hx
    rw [← nthS_lt hi]
    exact h i (by omega)
  simp [idxS, this]
theorem idxS_nonneg (p : ByteArray → Bool) (l : List ByteArray) : decide (0 ≤ idxS p l) = l.any p := by
  unfold idxS
  cases h : l.findIdx? p
  · rw [List.findIdx?_eq_none_iff] at h
    have : l.any p = false := by rw [List.any_eq_false]; intro x hx; simp [h x hx]
    simp [this]
  · rename_i i
    rw [List.findIdx?_eq_some_iff_getElem] at h
    obtain ⟨hi, hp, _⟩ := h
    have : l.any p = true := by rw [List.any_eq_true]; exact ⟨l[i], List.getElem_mem hi, hp⟩
    simp [this]
set_option maxHeartbeats 400000 in
theorem indexFuncStrs_any (g : Nat) (caps : Array Value) (p : ByteArray → Bool) (l : List ByteArray) (a : Option Addr) (cap : Nat) (w : World) (hl : StrsIn w a l) (hlen : l.length ≤ 2 ^ 47)
    (B : Nat) (hB : B ≤ w.heap.size) (hf : PredStrs B g caps p l w) (eg : ∀ args w, (callFunc g args).run Try.prog w = .ok (.enter g args) w) :
    Calls Try.prog 65 #[.slice a l.length cap, .func (.func g) #[] caps] w fun e w' => e = .returned (.int .i64 (idxS p l)) ∧ Below w.heap.size w w' := by
  have HF := Lib.hid hf
  clear hf
  go_enter Try.func65, Try.ntmps65
  go_wp2
  go_loopw [8] (fun i wr => ∃ j : Nat, j ≤ l.length ∧ i = .int .i64 j ∧ noneToS p l j ∧ Below w.heap.size w wr) (fun i _ => l.length - (intOf i).toNat)
  case atStart => exact ⟨0, Nat.zero_le _, rfl, fun _ h => absurd h (Nat.not_lt_zero _), Below.refl _ _⟩
  case round =>
    obtain ⟨j, hj, rfl, hall, hbel⟩ := hrel
    have H := Lib.hid hall
    clear hall
    by_cases hlt : j < l.length
    · obtain ⟨b, off, rfl, hb, hc⟩ := hl.cell hlt
      have h1 : wr.cell? ⟨b, off + j, none⟩ = some (.string (nthS l j)) := by rw [hbel.cell hb]; exact hc j hlt
      clear hc
      cases hp : p (nthS l j)
      · have F := Lib.hid (noneToS_succ H.out hp)
        go_wp2_with fail
        refine (HF.out j hlt _ (hbel.mono hB)).mono ?_
        rintro e w2 ⟨rfl, hb2⟩
        have hbel2 := Below.now hbel hb2
        clear hb2 h1 hbel
        go_wp2_with fail
        go_roundw
        case rel => exact ⟨j + 1, by omega, by go_num, F.out, hbel2⟩
        case measure => simp [intOf]; omega
      · have F := Lib.hid (idxS_at H.out hlt hp)
        go_wp2_with fail
        refine (HF.out j hlt _ (hbel.mono hB)).mono ?_
        rintro e w2 ⟨rfl, hb2⟩
        have hbel2 := Below.now hbel hb2
        clear hb2 h1 hbel
        go_wp2_with fail
        go_ret
        exact ⟨ret_int F.out.symm, hbel2⟩
    · have F := Lib.hid (idxS_none H.out hlt)
      go_wp2_with fail
      go_ret
      exact ⟨ret_int F.out.symm, hbel⟩
set_option maxHeartbeats 400000 in
theorem containsFuncStrs_any (g : Nat) (caps : Array Value) (p : ByteArray → Bool) (l : List ByteArray) (a : Option Addr) (cap : Nat) (w : World) (hl : StrsIn w a l) (hlen : l.length ≤ 2 ^ 47)
    (B : Nat) (hB : B ≤ w.heap.size) (hf : PredStrs B g caps p l w) (eg : ∀ args w, (callFunc g args).run Try.prog w = .ok (.enter g args) w) :
    Calls Try.prog 36 #[.slice a l.length cap, .func (.func g) #[] caps] w fun e w' => e = .returned (.bool (l.any p)) ∧ Below w.heap.size w w' := by
  have HC := Lib.hid (indexFuncStrs_any g caps p l a cap w hl hlen B hB hf eg)
  have HI := Lib.hid (idxS_nonneg p l)
  clear hf eg hl
  go_enter Try.func36, Try.ntmps36
  go_wp2_with fail
  refine HC.out.mono ?_
  rintro e w2 ⟨rfl, hb2⟩
  go_wp2_with fail
  go_ret
  exact ⟨ret_bool HI.out, hb2⟩
end Go.Proofs.Ytnnboeeogbgmdaa
