/-
  Functions over slices of integers: indices, and the laws' own copies and comparisons.
-/
import Derived.Test.YtggfhephdcnpcaaGreatDoorGrp01
namespace Go.Proofs.YtggfhephdcnpcaaGreatDoor
open Go.RowKit
set_option linter.unusedVariables false
/-- the number at a place of a list -/
def nthZ (l : List Int) (i : Nat) : Int := l.getD i 0
/-- the product of two elements -/
def tm (m : Nat) (ln : List Nat) (i k : Nat) : Nat := ln.getD (i * m + k) 0
def asc (m : Nat) (ln : List Nat) (i j k : Nat) : Bool := decide (tm m ln (tm m ln i j) k = tm m ln i (tm m ln j k))
def idn (m : Nat) (ln : List Nat) (i : Nat) : Bool := decide (tm m ln 0 i = i) && decide (tm m ln i 0 = i)
def ascRow (m : Nat) (ln : List Nat) (i j : Nat) : Bool := (List.range m).all (asc m ln i j)
def rowOk (m : Nat) (ln : List Nat) (i : Nat) : Bool := idn m ln i && (List.range m).all (ascRow m ln i)
def rowsOk (m : Nat) (ln : List Nat) : Bool := (List.range m).all (rowOk m ln)
/-- the numbers lie in range -/
def rngB (n : Int) (l : List Int) : Bool := l.all fun x => inB x 0 (n - 1)
/-- TableOk as a function of plain data -/
def tabB (n : Int) (l : List Int) : Bool := inB n 1 40 && (decide ((l.length : Int) = n * n) && (rngB n l && rowsOk n.toNat (l.map Int.toNat)))
/-- a table whose numbers lie in range -/
structure Tb (m : Nat) (ln : List Nat) : Prop where
  lo : 1 ≤ m
  hi : m ≤ 40
  len : ln.length = m * m
  rng : ∀ x ∈ ln, x < m
/-- a valid table -/
structure TabOk (m : Nat) (ln : List Nat) : Prop extends Tb m ln where
  left : ∀ i, i < m → tm m ln 0 i = i
  right : ∀ i, i < m → tm m ln i 0 = i
  assoc : ∀ i j k, i < m → j < m → k < m → tm m ln (tm m ln i j) k = tm m ln i (tm m ln j k)
theorem ix_lt {m i k : Nat} (hi : i < m) (hk : k < m) : i * m + k < m * m := by
  have := Nat.mul_le_mul_right m (show i + 1 ≤ m from hi)
  rw [Nat.add_mul] at this
  omega
theorem mul_le {m i : Nat} (hm : m ≤ 40) (hi : i < m) : i * m ≤ 1600 :=
  Nat.le_trans (Nat.mul_le_mul (Nat.le_of_lt hi) (Nat.le_refl _)) (by have := Nat.mul_le_mul hm hm; omega)
theorem sq_le {m : Nat} (hm : m ≤ 40) : m * m ≤ 1600 := by have := Nat.mul_le_mul hm hm; omega
theorem Tb.tm_lt {m : Nat} {ln : List Nat} (h : Tb m ln) {i k : Nat} (hi : i < m) (hk : k < m) : tm m ln i k < m := by
  have hlt : i * m + k < ln.length := by rw [h.len]; exact ix_lt hi hk
  unfold tm
  rw [List.getD_eq_getElem?_getD, List.getElem?_eq_getElem hlt]
  exact h.rng _ (List.getElem_mem hlt)
/-- a slice of natural numbers -/
def NatsIn (w : World) (a : Option Addr) (ln : List Nat) : Prop := IntsIn w a (ln.map Int.ofNat)
theorem NatsIn.later {w w' : World} {a : Option Addr} {l : List Nat} (h : NatsIn w a l) (hb : Below w.heap.size w w') : NatsIn w' a l := IntsIn.later h hb
/-- the cells of a table's products -/
theorem Tb.cell {m : Nat} {ln : List Nat} (h : Tb m ln) {w : World} {a : Option Addr} (hn : NatsIn w a ln) :
    ∃ b off, a = some ⟨b, off, none⟩ ∧ b < w.heap.size ∧ ∀ i k, i < m → k < m → w.cell? ⟨b, off + (i * m + k), none⟩ = some (.int .i64 (tm m ln i k : Nat)) := by
  have h0 : 0 * m + 0 < m * m := ix_lt h.lo h.lo
  obtain ⟨b, off, ha, hc⟩ := IntsIn.at hn (i := 0) (by simp [h.len]; omega)
  have key : ∀ i k, i < m → k < m → w.cell? ⟨b, off + (i * m + k), none⟩ = some (.int .i64 (tm m ln i k : Nat)) := by
    intro i k hi hk
    have hlt : i * m + k < ln.length := by rw [h.len]; exact ix_lt hi hk
    rw [hc _ (by simpa using hlt)]
    simp [tm, List.getD_eq_getElem?_getD, hlt]
  exact ⟨b, off, ha, World.block_lt_of_cell? w _ (key 0 0 h.lo h.lo), key⟩
theorem all_range {m : Nat} {p : Nat → Bool} : (List.range m).all p = true ↔ ∀ i, i < m → p i = true := by simp
theorem all_range_false {m : Nat} {p : Nat → Bool} {i : Nat} (hi : i < m) (h : p i = false) : (List.range m).all p = false := by
  rw [List.all_eq_false]; exact ⟨i, by simpa using hi, by simp [h]⟩
/-- the first c of them hold -/
def upto (p : Nat → Bool) (c : Nat) : Prop := ∀ i, i < c → p i = true
theorem upto_zero (p : Nat → Bool) : upto p 0 := fun _ h => absurd h (Nat.not_lt_zero _)
theorem upto_succ {p : Nat → Bool} {c : Nat} (h : upto p c) (hc : p c = true) : upto p (c + 1) := fun i hi => by
  by_cases e : i = c
  · rw [e]; exact hc
  · exact h i (by omega)
theorem upto_all {p : Nat → Bool} {c m : Nat} (h : upto p c) (hc : ¬ c < m) : (List.range m).all p = true := all_range.2 fun i hi => h i (by omega)
theorem nthZ_lt {l : List Int} {j : Nat} (h : j < l.length) : nthZ l j = l[j] := by simp [nthZ, List.getD_eq_getElem?_getD, h]
theorem IntsIn.cell {w : World} {a : Option Addr} {l : List Int} (h : IntsIn w a l) {i : Nat} (hi : i < l.length) :
    ∃ b off, a = some ⟨b, off, none⟩ ∧ b < w.heap.size ∧ ∀ j, j < l.length → w.cell? ⟨b, off + j, none⟩ = some (.int .i64 (nthZ l j)) := by
  obtain ⟨b, off, ha, hc⟩ := h.at hi
  exact ⟨b, off, ha, World.block_lt_of_cell? w _ (hc i hi), hc⟩
/-- the first j numbers lie in range -/
def rngTo (n : Int) (l : List Int) (j : Nat) : Prop := ∀ i, i < j → inB (nthZ l i) 0 (n - 1) = true
theorem rngTo_zero (n : Int) (l : List Int) : rngTo n l 0 := fun _ h => absurd h (Nat.not_lt_zero _)
theorem rngTo_succ {n : Int} {l : List Int} {j : Nat} (h : rngTo n l j) (hj : inB (nthZ l j) 0 (n - 1) = true) : rngTo n l (j + 1) := fun i hi => by
  by_cases e : i = j
  · rw [e]; exact hj
  · exact h i (by omega)
theorem rngTo_full {n : Int} {l : List Int} {j : Nat} (h : rngTo n l j) (hj : ¬ j < l.length) : rngB n l = true := by
  unfold rngB
  rw [List.all_eq_true]
  intro x hx
  obtain ⟨i, hi, rfl⟩ := List.getElem_of_mem hx
  rw [← nthZ_lt hi]
  exact h i (by omega)
theorem rngB_false {n : Int} {l : List Int} {j : Nat} (h : j < l.length) (hj : inB (nthZ l j) 0 (n - 1) = false) : rngB n l = false := by
  unfold rngB
  rw [List.all_eq_false]
  exact ⟨l[j], List.getElem_mem h, by rw [← nthZ_lt h, hj]; simp⟩
theorem tabB_notn {n : Int} {l : List Int} (h : inB n 1 40 = false) : tabB n l = false := by simp [tabB, h]
theorem tabB_notlen {n : Int} {l : List Int} (h : ¬ (l.length : Int) = n * n) : tabB n l = false := by simp [tabB, h]
theorem tabB_notrng {n : Int} {l : List Int} (h : rngB n l = false) : tabB n l = false := by simp [tabB, h]
theorem tabB_rows {m : Nat} {ln : List Nat} {b : Bool} (h : Tb m ln) (hr : rowsOk m ln = b) : tabB m (ln.map Int.ofNat) = b := by
  have h1 : inB (m : Int) 1 40 = true := by have := h.lo; have := h.hi; simp [inB]; omega
  have h2 : ((ln.map Int.ofNat).length : Int) = (m : Int) * m := by simp [h.len]
  have h3 : rngB (m : Int) (ln.map Int.ofNat) = true := by
    unfold rngB
    rw [List.all_eq_true]
    intro x hx
    obtain ⟨y, hy, rfl⟩ := List.mem_map.1 hx
    have := h.rng y hy
    simp [inB]; omega
  have h4 : (ln.map Int.ofNat).map Int.toNat = ln := by rw [List.map_map]; exact List.map_id'' (fun x => rfl) ln
  simp [tabB, h1, h3, h4, hr, h.len]
/-- out of the first three tests -/
theorem tb_of {n : Int} {l : List Int} (h1 : inB n 1 40 = true) (h2 : (l.length : Int) = n * n) (h3 : rngB n l = true) : ∃ m ln, n = (m : Nat) ∧ l = ln.map Int.ofNat ∧ Tb m ln := by
  have hn : 1 ≤ n ∧ n ≤ 40 := by simpa [inB] using h1
  obtain ⟨m, rfl⟩ := Int.eq_ofNat_of_zero_le (show 0 ≤ n by omega)
  unfold rngB at h3
  rw [List.all_eq_true] at h3
  refine ⟨m, l.map Int.toNat, rfl, ?_, ⟨by omega, by omega, ?_, ?_⟩⟩
  · rw [List.map_map]
    symm
    have : ∀ x ∈ l, (Int.ofNat ∘ Int.toNat) x = x := fun x hx => by
      have := h3 x hx
      simp [inB] at this
      simp; omega
    rw [List.map_congr_left this]
    simp
  · simp only [List.length_map]
    have : ((l.length : Nat) : Int) = ((m * m : Nat) : Int) := by rw [h2]; simp
    omega
  · intro x hx
    obtain ⟨y, hy, rfl⟩ := List.mem_map.1 hx
    have := h3 y hy
    simp [inB] at this
    omega
theorem tabOk_of {m : Nat} {ln : List Nat} (h : Tb m ln) (hr : rowsOk m ln = true) : TabOk m ln := by
  have h1 := all_range.1 hr
  refine ⟨h, fun i hi => ?_, fun i hi => ?_, fun i j k hi hj hk => ?_⟩
  · have := h1 i hi; simp [rowOk, idn] at this; exact this.1.1
  · have := h1 i hi; simp [rowOk, idn] at this; exact this.1.2
  · have := h1 i hi
    simp only [rowOk, Bool.and_eq_true] at this
    have := all_range.1 (all_range.1 this.2 j hj) k hk
    simpa [asc] using this
/-- a valid table's two forms -/
theorem tabOk_out {n : Int} {l : List Int} (h : tabB n l = true) : ∃ m ln, n = (m : Nat) ∧ l = ln.map Int.ofNat ∧ TabOk m ln := by
  have h' := h
  simp only [tabB, Bool.and_eq_true, decide_eq_true_eq] at h
  obtain ⟨h1, h2, h3, h4⟩ := h
  obtain ⟨m, ln, rfl, rfl, ht⟩ := tb_of h1 h2 h3
  refine ⟨m, ln, rfl, rfl, tabOk_of ht ?_⟩
  have h5 : (ln.map Int.ofNat).map Int.toNat = ln := by rw [List.map_map]; exact List.map_id'' (fun x => rfl) ln
  rw [h5] at h4
  exact h4
theorem idn_of {m : Nat} {ln : List Nat} {c : Nat} (h1 : (((tm m ln 0 c : Nat) : Int) != (c : Nat)) = false) (h2 : (((tm m ln c 0 : Nat) : Int) != (c : Nat)) = false) : idn m ln c = true := by
  simp at h1 h2; simp [idn]; omega
theorem idn_not1 {m : Nat} {ln : List Nat} {c : Nat} (h1 : (((tm m ln 0 c : Nat) : Int) != (c : Nat)) = true) : idn m ln c = false := by
  simp at h1; simp [idn]; omega
theorem idn_not2 {m : Nat} {ln : List Nat} {c : Nat} (h1 : (((tm m ln c 0 : Nat) : Int) != (c : Nat)) = true) : idn m ln c = false := by
  simp at h1; simp [idn]; omega
theorem rowsOk_idn {m : Nat} {ln : List Nat} {c : Nat} (hc : c < m) (h : idn m ln c = false) : rowsOk m ln = false := all_range_false hc (by simp [rowOk, h])
theorem rowsOk_asc {m : Nat} {ln : List Nat} {i j k : Nat} (hi : i < m) (hj : j < m) (hk : k < m) (h : asc m ln i j k = false) : rowsOk m ln = false :=
  all_range_false hi (by unfold rowOk; rw [all_range_false hj (all_range_false hk h)]; simp)
theorem asc_of {m : Nat} {ln : List Nat} {i j k : Nat} {b : Bool} (h : (((tm m ln (tm m ln i j) k : Nat) : Int) != ((tm m ln i (tm m ln j k) : Nat) : Int)) = b) : asc m ln i j k = !b := by
  cases b <;> simp at h <;> simp [asc] <;> omega
theorem rowOk_of {m : Nat} {ln : List Nat} {c x : Nat} (h : idn m ln c = true) (h2 : upto (ascRow m ln c) x) (hx : ¬ x < m) : rowOk m ln c = true := by
  unfold rowOk; rw [h, upto_all h2 hx]; rfl
theorem ascRow_of {m : Nat} {ln : List Nat} {c d x : Nat} (h2 : upto (asc m ln c d) x) (hx : ¬ x < m) : ascRow m ln c d = true := upto_all h2 hx
end Go.Proofs.YtggfhephdcnpcaaGreatDoor
namespace Go.Proofs.YtggfhephdcnpcaaGreatDoor
open Go.RowKit
set_option linter.unusedVariables false
def idxVals (m : Nat) : List Value := (List.range m).map fun (i : Nat) => Value.int .i64 (i : Nat)
theorem idxVals_at {m j : Nat} (h : j < m) : (idxVals m)[j]? = some (.int .i64 (j : Nat)) := by simp [idxVals, h]
theorem idxVals_len (m : Nat) : (idxVals m).length = m := by simp [idxVals]
set_option maxHeartbeats 400000 in
theorem indices_any (m : Nat) (w : World) (hm : m ≤ 1000000) :
    Calls Tryz.prog 168 #[.int .i64 m] w (RetSl 3 1 m (idxVals m) w) := by
  have hmk := run_make_row' (P := Tryz.prog) 33 3 (.int .i64 0) 8 Tryz.underlying33 Tryz.infoInt rfl .i64 .i64 m (by omega) (by omega)
  go_enter Tryz.func168, Tryz.ntmps168
  go_wp2_with fail
  clear hmk
  have HF := Filling.start w 3 (madeCells #[.int .i64 0] m) m (idxVals m) (size_madeCells _ _) (by unfold maxLen; omega) (idxVals_len m)
  generalize (w.alloc (.cells (madeCells #[.int .i64 0] m) 3)) = w1 at *
  obtain ⟨g, hg⟩ : ∃ g, w.heap.size = g := ⟨_, rfl⟩
  rw [hg] at HF
  rw [hg]
  have HG := Lib.hid hg
  clear hg
  go_loopw [9] (fun i wr => ∃ j : Nat, j ≤ m ∧ i = .int .i64 j ∧ Filling w wr 3 g m (idxVals m) j) (fun i _ => m - (intOf i).toNat)
  case atStart => exact ⟨0, Nat.zero_le _, rfl, HF⟩
  case round =>
    clear HF
    obtain ⟨j, hj, rfl, HF⟩ := hrel
    by_cases hlt : j < m
    · obtain ⟨v, hv⟩ := HF.cell hlt
      have hz := HF.frozen j
      have HF2 := Lib.hid (HF.store hlt (idxVals_at hlt))
      clear HF
      go_wp2_with fail
      go_roundw
      case rel => exact ⟨j + 1, by omega, by go_num, HF2.out⟩
      case measure => simp [intOf]; omega
    · have HF2 := Lib.hid (HF.done hlt)
      clear HF
      go_wp2_with fail
      go_ret
      exact HF2.out
set_option maxHeartbeats 400000 in
theorem toIntS_any (l : List Int) (a : Option Addr) (cap : Nat) (w : World) (hl : IntsIn w a l) (hlen : l.length ≤ 2097152) :
    Calls Tryz.prog 17 #[.slice a l.length cap] w (RetSl 3 1 l.length (l.map (Value.int .i64)) w) := by
  have hmk := run_make_row' (P := Tryz.prog) 33 3 (.int .i64 0) 8 Tryz.underlying33 Tryz.infoInt rfl .i64 .i64 l.length (by omega) (by omega)
  go_enter Tryz.func17, Tryz.ntmps17
  go_wp2_with fail
  clear hmk
  have HF := Filling.start w 3 (madeCells #[.int .i64 0] l.length) l.length (l.map (Value.int .i64)) (size_madeCells _ _) (by unfold maxLen; omega) (by simp)
  have hl1 := hl.later ((Below.refl _ _).alloc (Nat.le_refl _) (.cells (madeCells #[.int .i64 0] l.length) 3))
  generalize (w.alloc (.cells (madeCells #[.int .i64 0] l.length) 3)) = w1 at *
  obtain ⟨g, hg⟩ : ∃ g, w.heap.size = g := ⟨_, rfl⟩
  rw [hg] at HF
  rw [hg]
  have HG := Lib.hid hg
  clear hg
  go_loopw [4] (fun i wr => ∃ j : Nat, j ≤ l.length ∧ i = .int .i64 j ∧ Filling w wr 3 g l.length (l.map (Value.int .i64)) j) (fun i _ => l.length - (intOf i).toNat)
  case atStart => exact ⟨0, Nat.zero_le _, rfl, HF⟩
  case round =>
    clear HF
    obtain ⟨j, hj, rfl, HF⟩ := hrel
    by_cases hlt : j < l.length
    · obtain ⟨v, hv⟩ := HF.cell hlt
      have hz := HF.frozen j
      obtain ⟨b, off, rfl, hb, hc⟩ := hl.cell hlt
      have h1 : wr.cell? ⟨b, off + j, none⟩ = some (.int .i64 (nthZ l j)) := by
        obtain ⟨xs, ho, ht, hbel, hg, hl'⟩ := HF
        rw [hbel.cell hb]; exact hc j hlt
      have HF2 := Lib.hid (HF.store hlt (u := .int .i64 (nthZ l j)) (by simp [hlt, nthZ_lt hlt]))
      clear HF hc
      go_wp2_with fail
      go_roundw
      case rel => exact ⟨j + 1, by omega, by go_num, HF2.out⟩
      case measure => simp [intOf]; omega
    · have HF2 := Lib.hid (HF.done hlt)
      clear HF
      go_wp2_with fail
      go_ret
      exact HF2.out
end Go.Proofs.YtggfhephdcnpcaaGreatDoor
