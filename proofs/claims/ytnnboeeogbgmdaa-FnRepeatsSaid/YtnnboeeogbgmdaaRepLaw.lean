/-
  What 'FnRepeats' asks, in plain data.
-/
import Derived.Test.YtnnboeeogbgmdaaRepPl
import Derived.Test.YtnnboeeogbgmdaaMakeLong2
namespace Go.Proofs.Ytnnboeeogbgmdaa
open Go.RowKit
set_option linter.unusedVariables false
theorem rep_some {len : Nat → Nat} {l : List UInt8} (h : 0 < repE (repFst len l)) : repFst len l = some (repE (repFst len l), repH (repFst len l)) := by
  cases hr : repFst len l with
  | none => rw [hr] at h; exact absurd h (by decide)
  | some x => rfl
theorem sqFacts {s : ByteArray} (hok : longOkB 4 s = true) (h0 : 0 < repE (powR 2 s)) :
    1 ≤ repH (powR 2 s) ∧ repE (powR 2 s) ≤ s.size ∧ 2 * repH (powR 2 s) ≤ repE (powR 2 s) ∧
    s.extract (repE (powR 2 s) - 2 * repH (powR 2 s)) (repE (powR 2 s) - repH (powR 2 s)) = s.extract (repE (powR 2 s) - repH (powR 2 s)) (repE (powR 2 s)) ∧
    noRep (powR 2 (s.extract 0 (repE (powR 2 s) - 1))) (s.extract 0 (repE (powR 2 s) - 1)) = true := by
  have hP := powR_ok 2 hok
  rw [hP] at h0 ⊢
  obtain ⟨a, b, c, d, p, q⟩ := repFst_out (powLen_ge (by omega)) (rep_some h0)
  generalize repE (repFst (powLen 2) (bl s)) = e at *
  generalize repH (repFst (powLen 2) (bl s)) = h at *
  unfold powLen at d p q
  rw [bl_len] at c
  refine ⟨b, c, d, ?_, ?_⟩
  · rw [← tx_bl (s.extract (e - 2 * h) (e - h)), ← tx_bl (s.extract (e - h) e)]
    congr 1
    rw [bl_cut, bl_cut]
    refine List.ext_getElem? fun i => ?_
    rw [List.getElem?_take, List.getElem?_take, List.getElem?_drop, List.getElem?_drop]
    by_cases hi : i < h
    · rw [if_pos (by omega), if_pos (by omega), gb_some (by rw [bl_len]; omega), gb_some (by rw [bl_len]; omega), p (e - h + i) (by omega) (by omega), show e - h + i - h = e - 2 * h + i by omega]
    · rw [if_neg (by omega), if_neg (by omega)]
  · rw [noRep_pow (by omega) (longOk_cut hok _ _)]
    rintro ⟨h', e', h1, h2, h3, h4⟩
    rw [len_cut (by omega)] at h2
    refine q e' h' (by omega) h1 h3 (fun j x y => ?_)
    have := h4 j x y
    rw [gb_cut s 0 (e - 1) j (by omega) (by omega), gb_cut s 0 (e - 1) (j - h') (by omega) (by omega), Nat.zero_add, Nat.zero_add] at this
    exact this
theorem sf_iff {s : ByteArray} (hok : longOkB 4 s = true) : noRep (powR 2 s) s = decide (repE (powR 2 s) = 0) := noRep_yes hok
theorem cubFacts {s : ByteArray} (hok : longOkB 4 s = true) : (noRep (powR 3 s) s = true → repE (powR 3 s) = 0) ∧ (noRep (powR 3 s) s = false → 1 ≤ repE (powR 3 s) ∧ 1 ≤ repH (powR 3 s)) := by
  rw [noRep_yes hok]
  refine ⟨fun h => of_decide_eq_true h, fun h => ?_⟩
  have hE := of_decide_eq_false h
  have hP := powR_ok 3 hok
  rw [hP] at hE ⊢
  obtain ⟨a, b, c, d, p, q⟩ := repFst_out (powLen_ge (by omega)) (rep_some (len := powLen 3) (l := bl s) (by omega))
  exact ⟨a, b⟩
/-- what the greatest power tells -/
theorem pFacts {s : ByteArray} {g : Nat} (hok : longOkB 4 s = true) (hg : ∀ n, 2 ≤ n → (n ≤ g ↔ hasPow n (bl s))) :
    (noRep (powR 2 s) s = true → ¬ 2 ≤ g ∧ noRep (powR 3 s) s = true ∧ noRep (ovR s) s = true) ∧ (noRep (powR 2 s) s = false → 2 ≤ g) ∧ (noRep (powR 3 s) s = true → ¬ 3 ≤ g) ∧ (noRep (powR 3 s) s = false → 3 ≤ g) := by
  have h2 := noRep_pow (n := 2) (by omega) hok
  have h3 := noRep_pow (n := 3) (by omega) hok
  have ho := noRep_ov hok
  refine ⟨fun h => ?_, fun h => ?_, fun h => ?_, fun h => ?_⟩
  · have hn := h2.1 h
    have hov : ¬ hasOv (bl s) := fun x => hn (ov_pow x)
    exact ⟨fun x => hn ((hg 2 (by omega)).1 x), h3.2 (fun x => hov (pow_ov x)), ho.2 hov⟩
  · refine (hg 2 (by omega)).2 (Classical.byContradiction fun x => ?_)
    rw [h2.2 x] at h; cases h
  · exact fun x => h3.1 h ((hg 3 (by omega)).1 x)
  · refine (hg 3 (by omega)).2 (Classical.byContradiction fun x => ?_)
    rw [h3.2 x] at h; cases h
theorem bool_iff {a b : Bool} {P : Prop} (h1 : a = true ↔ P) (h2 : b = true ↔ P) : a = b := by
  rw [Bool.eq_iff_iff, h1, h2]
theorem vFacts {v : ByteArray} (hok : longOkB 4 v = true) (hs : v.size ≤ 16) :
    avoidB ⟨#[88, 88]⟩ v = noRep (powR 2 v) v ∧ avoidB ⟨#[88, 88, 88]⟩ v = noRep (powR 3 v) v ∧ noRep (ovR v) v = (avoidB ⟨#[88, 89, 88, 89, 88]⟩ v && avoidB ⟨#[88, 88, 88]⟩ v) := by
  have a1 := avoid_iff (p := pXX) (by decide) hok hs
  have a2 := avoid_iff (p := pXXX) (by decide) hok hs
  have a3 := avoid_iff (p := pXY) (by decide) hok hs
  rw [fitXX hok hs] at a1
  rw [fitXXX hok hs] at a2
  refine ⟨bool_iff a1 (noRep_pow (by omega) hok), bool_iff a2 (noRep_pow (by omega) hok), ?_⟩
  rw [Bool.eq_iff_iff, noRep_ov hok, Bool.and_eq_true]
  have b3 : avoidB ⟨#[88, 89, 88, 89, 88]⟩ v = true ↔ ¬ hasFit pXY v := a3
  have b2 : avoidB ⟨#[88, 88, 88]⟩ v = true ↔ ¬ hasPow 3 (bl v) := a2
  rw [b3, b2, ← fitOv hok hs, fitXXX hok hs]
  exact not_or
set_option maxHeartbeats 400000 in
theorem greatestPower_empty (w : World) : Calls Try.prog 22 #[.string ⟨#[]⟩] w fun e w' => e = .returned (.int .i64 0) ∧ w = w' := by
  go_enter Try.func22, Try.ntmps22
  go_wp2_with fail
  go_ret
  exact ⟨rfl, rfl⟩
end Go.Proofs.Ytnnboeeogbgmdaa
