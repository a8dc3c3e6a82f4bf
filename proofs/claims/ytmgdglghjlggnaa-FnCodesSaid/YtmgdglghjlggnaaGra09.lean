/-
  slices.IndexFunc and slices.ContainsFunc at slices of slices of strings, for every function value that keeps what was there.
-/
import Derived.Test.YtmgdglghjlggnaaGra07
namespace Go.Proofs.Ytmgdglghjlggnaa
open Go.RowKit
set_option linter.unusedVariables false
/-- a function value that tells q of each cell, in every world that is as w below block B -/
def PredAt (B : Nat) (g : Nat) (caps : Array Value) (q : Nat → Prop) (vs : List Value) (w : World) : Prop :=
  ∀ j v, vs[j]? = some v → ∀ W, Below B w W → Calls Try.prog g (#[v] ++ caps) W (RetP (q j) W)
/-- a number that tells whether P -/
def RetIdx (P : Prop) (w : World) (e : Ending) (w' : World) : Prop := ∃ i : Int, (0 ≤ i ↔ P) ∧ e = .returned (.int .i64 i) ∧ Below w.heap.size w w'
set_option maxHeartbeats 400000 in
theorem indexFuncSets_any (g : Nat) (caps : Array Value) (q : Nat → Prop) (vs : List Value) (a : Option Addr) (cap : Nat) (w : World) (hl : CellsIn w a vs) (hlen : vs.length ≤ 2 ^ 47)
    (B : Nat) (hB : B ≤ w.heap.size) (hf : PredAt B g caps q vs w) (eg : ∀ args w, (callFunc g args).run Try.prog w = .ok (.enter g args) w) :
    Calls Try.prog 39 #[.slice a vs.length cap, .func (.func g) #[] caps] w (RetIdx (∃ j, j < vs.length ∧ q j) w) := by
  have HF := Lib.hid hf
  have HL := Lib.hid hl
  clear hf hl
  go_enter Try.func39, Try.ntmps39
  go_wp2
  go_loopw [8] (fun i wr => ∃ j : Nat, j ≤ vs.length ∧ i = .int .i64 j ∧ Hid (∀ j', j' < j → ¬ q j') ∧ Below w.heap.size w wr) (fun i _ => vs.length - (intOf i).toNat)
  case atStart => exact ⟨0, Nat.zero_le _, rfl, Lib.hid (fun j' h => absurd h (Nat.not_lt_zero _)), Below.refl _ _⟩
  case round =>
    obtain ⟨j, hj, rfl, hno, hbel⟩ := hrel
    by_cases hlt : j < vs.length
    · obtain ⟨b, off, rfl, hc⟩ : ∃ b off, a = some ⟨b, off, none⟩ ∧ wr.cell? ⟨b, off + j, none⟩ = some vs[j] := by
        rcases (HL.out.later hbel) with h | ⟨b, off, ha, hc⟩
        · rw [h] at hlt; simp at hlt
        · exact ⟨b, off, ha, hc j hlt⟩
      have HP := Lib.hid (HF.out j vs[j] (List.getElem?_eq_getElem hlt) _ (hbel.mono hB))
      have HY : Hid (q j → ∃ j, j < vs.length ∧ q j) := Lib.hid (fun h => ⟨j, hlt, h⟩)
      have HN : Hid (¬ q j → ∀ j', j' < j + 1 → ¬ q j') := Lib.hid (fun h j' hj' => by
        by_cases e : j' = j
        · rw [e]; exact h
        · exact hno.out j' (by omega))
      generalize vs[j] = v at *
      go_wp2_with fail
      refine HP.out.mono ?_
      rintro e w2 ⟨bb, hbb, rfl, hb2⟩
      have HBB := Lib.hid hbb
      have HB2 := Lib.hid (Below.now hbel hb2)
      clear hbb hb2 HP
      cases bb
      · have F := Lib.hid (HN.out (fun h => by have := HBB.out.2 h; cases this))
        go_wp2_with fail
        go_roundw
        case rel => exact ⟨j + 1, by omega, by go_num, F, HB2.out⟩
        case measure => simp [intOf]; omega
      · have F : Hid (RetIdx (∃ j, j < vs.length ∧ q j) w (.returned (.int .i64 (j : Nat))) w2) := Lib.hid ⟨(j : Nat), ⟨fun _ => HY.out (HBB.out.1 rfl), fun _ => by omega⟩, rfl, HB2.out⟩
        go_wp2_with fail
        go_ret
        exact F.out
    · have F : Hid (RetIdx (∃ j, j < vs.length ∧ q j) w (.returned (.int .i64 (-1))) wr) := Lib.hid ⟨-1, ⟨fun h => by omega, fun ⟨j', h1, h2⟩ => absurd h2 (hno.out j' (by omega))⟩, rfl, hbel⟩
      go_wp2_with fail
      go_ret
      exact F.out
set_option maxHeartbeats 400000 in
theorem containsFuncSets_any (g : Nat) (caps : Array Value) (q : Nat → Prop) (vs : List Value) (a : Option Addr) (cap : Nat) (w : World) (hl : CellsIn w a vs) (hlen : vs.length ≤ 2 ^ 47)
    (B : Nat) (hB : B ≤ w.heap.size) (hf : PredAt B g caps q vs w) (eg : ∀ args w, (callFunc g args).run Try.prog w = .ok (.enter g args) w) :
    Calls Try.prog 19 #[.slice a vs.length cap, .func (.func g) #[] caps] w (RetP (∃ j, j < vs.length ∧ q j) w) := by
  have HC := Lib.hid (indexFuncSets_any g caps q vs a cap w hl hlen B hB hf eg)
  clear hf eg hl
  go_enter Try.func19, Try.ntmps19
  go_wp2_with fail
  refine HC.out.mono ?_
  rintro e w2 ⟨i, hi, rfl, hb2⟩
  have F : Hid (RetP (∃ j, j < vs.length ∧ q j) w (.returned (.bool (decide (0 ≤ i)))) w2) := Lib.hid ⟨decide (0 ≤ i), by rw [decide_eq_true_iff]; exact hi, rfl, hb2⟩
  clear hi hb2 HC
  go_wp2_with fail
  go_ret
  exact F.out
theorem getD_nth (x : List ByteArray) (j : Nat) : x.getD j ByteArray.empty = nthS x j := rfl
/-- slices.Equal at two lists that are not empty -/
theorem equalS_any (x y : List ByteArray) (a b : Option Addr) (c d : Nat) (w : World) (hx : StrsIn w a x) (hy : StrsIn w b y) (h0 : 0 < x.length) (h1 : 0 < y.length) (hlx : x.length ≤ 2 ^ 40) (hly : y.length ≤ 2 ^ 40) :
    Calls Try.prog 43 #[.slice a x.length c, .slice b y.length d] w (RetP (x = y) w) := by
  obtain ⟨b1, o1, rfl, _, hc1⟩ := hx.cell h0
  obtain ⟨b2, o2, rfl, _, hc2⟩ := hy.cell h1
  refine (Try.slices_Equal_string b1 o1 x.length c b2 o2 y.length d x y w (Nat.le_refl _) (Nat.le_refl _) (by omega) (by omega) (fun j hj => by rw [getD_nth]; exact hc1 j hj) (fun j hj => by rw [getD_nth]; exact hc2 j hj)).mono ?_
  rintro e w' ⟨rfl, q, rfl⟩
  rw [List.take_length, List.take_length]
  exact ⟨_, decide_eq_true_iff, rfl, ⟨rfl, rfl, rfl, Nat.le_refl _, fun _ _ => rfl⟩⟩
set_option maxHeartbeats 400000 in
theorem tailsOf1_any (x y : List ByteArray) (a b : Option Addr) (c d box : Nat) (w : World) (hx : StrsIn w a x) (hy : StrsIn w b y) (h0 : 0 < x.length) (h1 : 0 < y.length) (hlx : x.length ≤ 2 ^ 40) (hly : y.length ≤ 2 ^ 40) (hbox : w.cell? ⟨box, 0, none⟩ = some (.slice b y.length d)) :
    Calls Try.prog 42 #[.slice a x.length c, .pointer (some ⟨box, 0, none⟩)] w (RetP (x = y) w) := by
  have HE := Lib.hid (equalS_any x y a b c d w hx hy h0 h1 hlx hly)
  clear hx hy
  go_enter Try.func42, Try.ntmps42
  go_wp2_with fail
  refine HE.out.mono ?_
  rintro e w' ⟨bb, hbb, rfl, hb⟩
  have F : Hid (RetP (x = y) w (.returned (.bool bb)) w') := Lib.hid ⟨bb, hbb, rfl, hb⟩
  clear hbb hb HE
  go_wp2_with fail
  go_ret
  exact F.out
set_option maxHeartbeats 400000 in
theorem isCode1_any (x : List ByteArray) (a : Option Addr) (c : Nat) (w : World) (hx : StrsIn w a x) (h0 : 0 < x.length) (hlx : x.length ≤ 2 ^ 40) :
    Calls Try.prog 21 #[.slice a x.length c] w (RetP ((⟨#[]⟩ : ByteArray) ∈ x) w) := by
  obtain ⟨b1, o1, rfl, _, hc1⟩ := hx.cell h0
  have HE := Lib.hid (containsS_any x ⟨#[]⟩ b1 o1 c w hx hlx)
  clear hx hc1
  go_enter Try.func21, Try.ntmps21
  go_wp2_with fail
  refine HE.out.mono ?_
  rintro e w' ⟨bb, hbb, rfl, hb⟩
  have F : Hid (RetP ((⟨#[]⟩ : ByteArray) ∈ x) w (.returned (.bool bb)) w') := Lib.hid ⟨bb, hbb, rfl, hb⟩
  clear hbb hb HE
  go_wp2_with fail
  go_ret
  exact F.out
end Go.Proofs.Ytmgdglghjlggnaa
