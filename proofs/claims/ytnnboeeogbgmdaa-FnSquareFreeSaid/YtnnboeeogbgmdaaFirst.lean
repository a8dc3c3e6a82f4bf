/-
  The first part of a word that fits.
-/
import Derived.Test.YtnnboeeogbgmdaaCountF
namespace Go.Proofs.Ytnnboeeogbgmdaa
open Go.RowKit
set_option linter.unusedVariables false
def fitB (p s : ByteArray) (i k : Nat) : Bool := decide (0 < fitN p (s.extract i k))
/-- the first end of a part that begins at i and fits -/
def inF (p s : ByteArray) (i : Nat) : Option Nat := (List.range (s.size + 1)).find? fun k => decide (i ≤ k) && fitB p s i k
def outF (p s : ByteArray) : Option (Nat × Nat) := (List.range (s.size + 1)).findSome? fun i => (inF p s i).map fun k => (i, k)
def noIn (p s : ByteArray) (i k : Nat) : Prop := ∀ k', i ≤ k' → k' < k → fitB p s i k' = false
def noOut (p s : ByteArray) (i : Nat) : Prop := ∀ i', i' < i → inF p s i' = none
theorem inF_at {p s : ByteArray} {i k : Nat} (h : noIn p s i k) (hik : i ≤ k) (hk : k ≤ s.size) (hp : fitB p s i k = true) : inF p s i = some k := by
  unfold inF
  rw [List.find?_eq_some_iff_getElem]
  refine ⟨by simp [hik, hp], k, by simp; omega, by simp, fun j hj => ?_⟩
  by_cases hij : i ≤ j
  · simp [h j hij hj]
  · simp [hij]
theorem inF_none {p s : ByteArray} {i k : Nat} (h : noIn p s i k) (hk : s.size < k) : inF p s i = none := by
  unfold inF
  rw [List.find?_eq_none]
  intro j hj
  have := List.mem_range.1 hj
  by_cases hij : i ≤ j
  · simp [h j hij (by omega)]
  · simp [hij]
theorem findSome_at {α : Type} {f : Nat → Option α} {i : Nat} {x : α} (h : ∀ i', i' < i → f i' = none) (hx : f i = some x) : ∀ n, i < n → (List.range n).findSome? f = some x
  | 0, hi => absurd hi (Nat.not_lt_zero _)
  | n + 1, hi => by
    rw [List.range_succ, List.findSome?_append]
    by_cases e : i = n
    · subst e
      have : (List.range i).findSome? f = none := by
        rw [List.findSome?_eq_none_iff]
        exact fun j hj => h j (List.mem_range.1 hj)
      rw [this]; simp [hx]
    · rw [findSome_at h hx n (by omega)]; rfl
theorem outF_at {p s : ByteArray} {i k : Nat} (h : noOut p s i) (hi : i ≤ s.size) (hk : inF p s i = some k) : outF p s = some (i, k) := by
  unfold outF
  exact findSome_at (fun i' hi' => by rw [h i' hi']; rfl) (by rw [hk]; rfl) _ (by omega)
theorem outF_none {p s : ByteArray} {i : Nat} (h : noOut p s i) (hi : s.size < i) : outF p s = none := by
  unfold outF
  rw [List.findSome?_eq_none_iff]
  intro j hj
  have := List.mem_range.1 hj
  rw [h j (by omega)]; rfl
theorem noIn_start (p s : ByteArray) (i : Nat) : noIn p s i i := fun k' h1 h2 => absurd h2 (by omega)
theorem noIn_succ {p s : ByteArray} {i k : Nat} (h : noIn p s i k) (hk : fitB p s i k = false) : noIn p s i (k + 1) := fun k' h1 h2 => by
  by_cases e : k' = k
  · rw [e]; exact hk
  · exact h k' h1 (by omega)
theorem noOut_start (p s : ByteArray) : noOut p s 0 := fun i' h => absurd h (Nat.not_lt_zero _)
theorem noOut_succ {p s : ByteArray} {i : Nat} (h : noOut p s i) (hi : inF p s i = none) : noOut p s (i + 1) := fun i' h' => by
  by_cases e : i' = i
  · rw [e]; exact hi
  · exact h i' (by omega)
def fstI (r : Option (Nat × Nat)) : Int := match r with | some x => ((x.1 : Nat) : Int) | none => 0
def fstN (r : Option (Nat × Nat)) : Int := match r with | some x => ((x.2 : Nat) : Int) - ((x.1 : Nat) : Int) | none => 0
/-- what the search for a first part answers -/
def RetFst (r : Option (Nat × Nat)) (w : World) (e : Ending) (w' : World) : Prop := e = .returned (.tuple #[.int .i64 (fstI r), .int .i64 (fstN r), .bool r.isSome]) ∧ Below w.heap.size w w'
theorem RetFst.yes {r : Option (Nat × Nat)} {i k : Nat} {w w' : World} (h : r = some (i, k)) (hb : Below w.heap.size w w') : RetFst r w (.returned (.tuple #[.int .i64 (i : Nat), .int .i64 ((k : Nat) - (i : Nat)), .bool true])) w' := by
  subst h; exact ⟨rfl, hb⟩
theorem RetFst.no {r : Option (Nat × Nat)} {w w' : World} (h : r = none) (hb : Below w.heap.size w w') : RetFst r w (.returned (.tuple #[.int .i64 0, .int .i64 0, .bool false])) w' := by
  subst h; exact ⟨rfl, hb⟩
set_option maxRecDepth 20000 in
set_option maxHeartbeats 2000000 in
theorem firstFit_any (p s : ByteArray) (w : World) (hp8 : p.size ≤ 8) (hs : s.size ≤ 16) : Calls Try.prog 49 #[.string p, .string s] w (RetFst (outF p s) w) := by
  have HX := Lib.hid (noOut_start p s)
  have hb0 := Below.refl w.heap.size w
  go_enter Try.func49, Try.ntmps49
  go_wp2_with fail
  go_loopw [12] (fun x wr => ∃ i : Nat, i ≤ s.size + 1 ∧ x = .int .i64 i ∧ noOut p s i ∧ Below w.heap.size w wr) (fun x _ => s.size + 1 - (intOf x).toNat)
  case atStart => exact ⟨0, Nat.zero_le _, rfl, HX.out, hb0⟩
  case round =>
    clear HX hb0
    obtain ⟨i, hi, rfl, hno, hbw⟩ := hrel
    have HO := Lib.hid hno
    clear hno
    by_cases hlt : i < s.size + 1
    · have HI0 := Lib.hid (noIn_start p s i)
      have q0 : (i : Int) < (s.size : Int) + 1 := by omega
      go_wp2_with fail
      clear q0
      go_loopw [8] (fun x wr => ∃ k : Nat, i ≤ k ∧ k ≤ s.size + 1 ∧ x = .int .i64 k ∧ noIn p s i k ∧ Below w.heap.size w wr) (fun x _ => s.size + 1 - (intOf x).toNat)
      case atStart => exact ⟨i, Nat.le_refl _, by omega, rfl, HI0.out, hbw⟩
      case round =>
        clear HI0 hbw
        obtain ⟨k, hik, hk, rfl, hni, hbw⟩ := hrel
        have HI := Lib.hid hni
        clear hni
        by_cases hkl : k ≤ s.size
        · have hs1 : (0 : Int) ≤ (i : Int) := by omega
          have hs2 : (i : Int) ≤ (k : Int) := by omega
          have hs3 : (k : Int) ≤ (s.size : Int) := by omega
          have HC := Lib.hid (fitsOf_any p (s.extract i k) wr hp8 (by rw [ByteArray.size_extract]; omega))
          have HY : Hid (0 < fitN p (s.extract i k) → outF p s = some (i, k)) := Lib.hid (fun h => outF_at HO.out (by omega) (inF_at HI.out hik hkl (by simp [fitB, h])))
          have HN : Hid (¬ 0 < fitN p (s.extract i k) → noIn p s i (k + 1)) := Lib.hid (fun h => noIn_succ HI.out (by simp [fitB]; omega))
          generalize hn : fitN p (s.extract i k) = n at *
          clear hn
          go_wp2_with fail
          refine (HC.out).mono ?_
          rintro e w2 ⟨a2, c2, rfl, hb2⟩
          have hbw2 := Below.now hbw hb2
          clear hb2 hbw HC
          by_cases hpos : 0 < n
          · have F := Lib.hid (HY.out hpos)
            go_wp2_with fail
            exact bodyPost_ret (v := .tuple #[.int .i64 (i : Nat), .int .i64 ((k : Nat) - (i : Nat)), .bool true]) (by simp [results, Try.results49, go_sem]) rfl (RetFst.yes F.out hbw2)
          · have F := Lib.hid (HN.out hpos)
            go_wp2_with fail
            go_roundw
            case rel => exact ⟨k + 1, by omega, by omega, by go_num, F.out, hbw2⟩
            case measure => simp [intOf]; omega
        · have F := Lib.hid (noOut_succ HO.out (inF_none HI.out (by omega)))
          go_wp2_with fail
          go_roundw
          case rel => exact ⟨i + 1, by omega, by go_num, F.out, hbw⟩
          case measure => simp [intOf]; omega
    · have F := Lib.hid (outF_none HO.out (by omega))
      have q0 : ¬ (i : Int) < (s.size : Int) + 1 := by omega
      go_wp2_with fail
      exact bodyPost_ret (v := .tuple #[.int .i64 0, .int .i64 0, .bool false]) (by simp [results, Try.results49, go_sem]) rfl (RetFst.no F.out hbw)
end Go.Proofs.Ytnnboeeogbgmdaa
