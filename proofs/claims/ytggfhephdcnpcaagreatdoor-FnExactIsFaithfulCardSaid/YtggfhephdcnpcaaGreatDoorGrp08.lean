/-
  slices.IndexFunc and slices.ContainsFunc at integers, for every function value that keeps what was there.
-/
import Derived.Test.YtggfhephdcnpcaaGreatDoorGrp01
import Derived.Shelf.Abstract
namespace Go.Proofs.YtggfhephdcnpcaaGreatDoor
open Go.RowKit
set_option linter.unusedVariables false
/-- the number at a place of a list -/
def nthZ (l : List Int) (i : Nat) : Int := l.getD i 0
/-- the product of two elements -/
def tm (m : Nat) (ln : List Nat) (i k : Nat) : Nat := ln.getD (i * m + k) 0
def asc (m : Nat) (ln : List Nat) (i j k : Nat) : Bool := decide (tm m ln (tm m ln i j) k = tm m ln i (tm m ln j k))
def idn (m : Nat) (ln : List Nat) (i : Nat) : Bool := decide (tm m ln 0 i = i) && decide (tm m ln i 0 = i)
def ascRow (m : Nat) (ln : List Nat) (i j : Nat) : Bool := (List.range m).all (asc m ln i j)
def rowOk (m : Nat) (ln : List Nat) (i : Nat) : Bool := idn m ln i && (List.range m).all (ascRow m ln i)
def rowsOk (m : Nat) (ln : List Nat) : Bool := (List.range m).all (rowOk m ln)
/-- the numbers lie in range -/
def rngB (n : Int) (l : List Int) : Bool := l.all fun x => inB x 0 (n - 1)
/-- TableOk as a function of plain data -/
def tabB (n : Int) (l : List Int) : Bool := inB n 1 40 && (decide ((l.length : Int) = n * n) && (rngB n l && rowsOk n.toNat (l.map Int.toNat)))
/-- a table whose numbers lie in range -/
structure Tb (m : Nat) (ln : List Nat) : Prop where
  lo : 1 ≤ m
  hi : m ≤ 40
  len : ln.length = m * m
  rng : ∀ x ∈ ln, x < m
/-- a valid table -/
structure TabOk (m : Nat) (ln : List Nat) : Prop extends Tb m ln where
  left : ∀ i, i < m → tm m ln 0 i = i
  right : ∀ i, i < m → tm m ln i 0 = i
  assoc : ∀ i j k, i < m → j < m → k < m → tm m ln (tm m ln i j) k = tm m ln i (tm m ln j k)
theorem ix_lt {m i k : Nat} (hi : i < m) (hk : k < m) : i * m + k < m * m := by
  have := Nat.mul_le_mul_right m (show i + 1 ≤ m from hi)
  rw [Nat.add_mul] at this
  omega
theorem mul_le {m i : Nat} (hm : m ≤ 40) (hi : i < m) : i * m ≤ 1600 :=
  Nat.le_trans (Nat.mul_le_mul (Nat.le_of_lt hi) (Nat.le_refl _)) (by have := Nat.mul_le_mul hm hm; omega)
theorem sq_le {m : Nat} (hm : m ≤ 40) : m * m ≤ 1600 := by have := Nat.mul_le_mul hm hm; omega
theorem Tb.tm_lt {m : Nat} {ln : List Nat} (h : Tb m ln) {i k : Nat} (hi : i < m) (hk : k < m) : tm m ln i k < m := by
  have hlt : i * m + k < ln.length := by rw [h.len]; exact ix_lt hi hk
  unfold tm
  rw [List.getD_eq_getElem?_getD, List.getElem?_eq_getElem hlt]
  exact h.rng _ (List.getElem_mem hlt)
/-- a slice of natural numbers -/
def NatsIn (w : World) (a : Option Addr) (ln : List Nat) : Prop := IntsIn w a (ln.map Int.ofNat)
theorem NatsIn.later {w w' : World} {a : Option Addr} {l : List Nat} (h : NatsIn w a l) (hb : Below w.heap.size w w') : NatsIn w' a l := IntsIn.later h hb
/-- the cells of a table's products -/
theorem Tb.cell {m : Nat} {ln : List Nat} (h : Tb m ln) {w : World} {a : Option Addr} (hn : NatsIn w a ln) :
    ∃ b off, a = some ⟨b, off, none⟩ ∧ b < w.heap.size ∧ ∀ i k, i < m → k < m → w.cell? ⟨b, off + (i * m + k), none⟩ = some (.int .i64 (tm m ln i k : Nat)) := by
  have h0 : 0 * m + 0 < m * m := ix_lt h.lo h.lo
  obtain ⟨b, off, ha, hc⟩ := IntsIn.at hn (i := 0) (by simp [h.len]; omega)
  have key : ∀ i k, i < m → k < m → w.cell? ⟨b, off + (i * m + k), none⟩ = some (.int .i64 (tm m ln i k : Nat)) := by
    intro i k hi hk
    have hlt : i * m + k < ln.length := by rw [h.len]; exact ix_lt hi hk
    rw [hc _ (by simpa using hlt)]
    simp [tm, List.getD_eq_getElem?_getD, hlt]
  exact ⟨b, off, ha, World.block_lt_of_cell? w _ (key 0 0 h.lo h.lo), key⟩
theorem all_range {m : Nat} {p : Nat → Bool} : (List.range m).all p = true ↔ ∀ i, i < m → p i = true := by simp
theorem all_range_false {m : Nat} {p : Nat → Bool} {i : Nat} (hi : i < m) (h : p i = false) : (List.range m).all p = false := by
  rw [List.all_eq_false]; exact ⟨i, by simpa using hi, by simp [h]⟩
/-- the first c of them hold -/
def upto (p : Nat → Bool) (c : Nat) : Prop := ∀ i, i < c → p i = true
theorem upto_zero (p : Nat → Bool) : upto p 0 := fun _ h => absurd h (Nat.not_lt_zero _)
theorem upto_succ {p : Nat → Bool} {c : Nat} (h : upto p c) (hc : p c = true) : upto p (c + 1) := fun i hi => by
  by_cases e : i = c
  · rw [e]; exact hc
  · exact h i (by omega)
theorem upto_all {p : Nat → Bool} {c m : Nat} (h : upto p c) (hc : ¬ c < m) : (List.range m).all p = true := all_range.2 fun i hi => h i (by omega)
theorem nthZ_lt {l : List Int} {j : Nat} (h : j < l.length) : nthZ l j = l[j] := by simp [nthZ, List.getD_eq_getElem?_getD, h]
theorem IntsIn.cell {w : World} {a : Option Addr} {l : List Int} (h : IntsIn w a l) {i : Nat} (hi : i < l.length) :
    ∃ b off, a = some ⟨b, off, none⟩ ∧ b < w.heap.size ∧ ∀ j, j < l.length → w.cell? ⟨b, off + j, none⟩ = some (.int .i64 (nthZ l j)) := by
  obtain ⟨b, off, ha, hc⟩ := h.at hi
  exact ⟨b, off, ha, World.block_lt_of_cell? w _ (hc i hi), hc⟩
/-- the first j numbers lie in range -/
def rngTo (n : Int) (l : List Int) (j : Nat) : Prop := ∀ i, i < j → inB (nthZ l i) 0 (n - 1) = true
theorem rngTo_zero (n : Int) (l : List Int) : rngTo n l 0 := fun _ h => absurd h (Nat.not_lt_zero _)
theorem rngTo_succ {n : Int} {l : List Int} {j : Nat} (h : rngTo n l j) (hj : inB (nthZ l j) 0 (n - 1) = true) : rngTo n l (j + 1) := fun i hi => by
  by_cases e : i = j
  · rw [e]; exact hj
  · exact h i (by omega)
theorem rngTo_full {n : Int} {l : List Int} {j : Nat} (h : rngTo n l j) (hj : ¬ j < l.length) : rngB n l = true := by
  unfold rngB
  rw [List.all_eq_true]
  intro x hx
  obtain ⟨i, hi, rfl⟩ := List.getElem_of_mem hx
  rw [← nthZ_lt hi]
  exact h i (by omega)
theorem rngB_false {n : Int} {l : List Int} {j : Nat} (h : j < l.length) (hj : inB (nthZ l j) 0 (n - 1) = false) : rngB n l = false := by
  unfold rngB
  rw [List.all_eq_false]
  exact ⟨l[j], List.getElem_mem h, by rw [← nthZ_lt h, hj]; simp⟩
theorem tabB_notn {n : Int} {l : List Int} (h : inB n 1 40 = false) : tabB n l = false := by simp [tabB, h]
theorem tabB_notlen {n : Int} {l : List Int} (h : ¬ (l.length : Int) = n * n) : tabB n l = false := by simp [tabB, h]
theorem tabB_notrng {n : Int} {l : List Int} (h : rngB n l = false) : tabB n l = false := by simp [tabB, h]
theorem tabB_rows {m : Nat} {ln : List Nat} {b : Bool} (h : Tb m ln) (hr : rowsOk m ln = b) : tabB m (ln.map Int.ofNat) = b := by
  have h1 : inB (m : Int) 1 40 = true := by have := h.lo; have := h.hi; simp [inB]; omega
  have h2 : ((ln.map Int.ofNat).length : Int) = (m : Int) * m := by simp [h.len]
  have h3 : rngB (m : Int) (ln.map Int.ofNat) = true := by
    unfold rngB
    rw [List.all_eq_true]
    intro x hx
    obtain ⟨y, hy, rfl⟩ := List.mem_map.1 hx
    have := h.rng y hy
    simp [inB]; omega
  have h4 : (ln.map Int.ofNat).map Int.toNat = ln := by rw [List.map_map]; exact List.map_id'' (fun x => rfl) ln
  simp [tabB, h1, h3, h4, hr, h.len]
/-- out of the first three tests -/
theorem tb_of {n : Int} {l : List Int} (h1 : inB n 1 40 = true) (h2 : (l.length : Int) = n * n) (h3 : rngB n l = true) : ∃ m ln, n = (m : Nat) ∧ l = ln.map Int.ofNat ∧ Tb m ln := by
  have hn : 1 ≤ n ∧ n ≤ 40 := by simpa [inB] using h1
  obtain ⟨m, rfl⟩ := Int.eq_ofNat_of_zero_le (show 0 ≤ n by omega)
  unfold rngB at h3
  rw [List.all_eq_true] at h3
  refine ⟨m, l.map Int.toNat, rfl, ?_, ⟨by omega, by omega, ?_, ?_⟩⟩
  · rw [List.map_map]
    symm
    have : ∀ x ∈ l, (Int.ofNat ∘ Int.toNat) x = x := fun x hx => by
      have := h3 x hx
      simp [inB] at this
      simp; omega
    rw [List.map_congr_left this]
    simp
  · simp only [List.length_map]
    have : ((l.length : Nat) : Int) = ((m * m : Nat) : Int) := by rw [h2]; simp
    omega
  · intro x hx
    obtain ⟨y, hy, rfl⟩ := List.mem_map.1 hx
    have := h3 y hy
    simp [inB] at this
    omega
theorem tabOk_of {m : Nat} {ln : List Nat} (h : Tb m ln) (hr : rowsOk m ln = true) : TabOk m ln := by
  have h1 := all_range.1 hr
  refine ⟨h, fun i hi => ?_, fun i hi => ?_, fun i j k hi hj hk => ?_⟩
  · have := h1 i hi; simp [rowOk, idn] at this; exact this.1.1
  · have := h1 i hi; simp [rowOk, idn] at this; exact this.1.2
  · have := h1 i hi
    simp only [rowOk, Bool.and_eq_true] at this
    have := all_range.1 (all_range.1 this.2 j hj) k hk
    simpa [asc] using this
/-- a valid table's two forms -/
theorem tabOk_out {n : Int} {l : List Int} (h : tabB n l = true) : ∃ m ln, n = (m : Nat) ∧ l = ln.map Int.ofNat ∧ TabOk m ln := by
  have h' := h
  simp only [tabB, Bool.and_eq_true, decide_eq_true_eq] at h
  obtain ⟨h1, h2, h3, h4⟩ := h
  obtain ⟨m, ln, rfl, rfl, ht⟩ := tb_of h1 h2 h3
  refine ⟨m, ln, rfl, rfl, tabOk_of ht ?_⟩
  have h5 : (ln.map Int.ofNat).map Int.toNat = ln := by rw [List.map_map]; exact List.map_id'' (fun x => rfl) ln
  rw [h5] at h4
  exact h4
theorem idn_of {m : Nat} {ln : List Nat} {c : Nat} (h1 : (((tm m ln 0 c : Nat) : Int) != (c : Nat)) = false) (h2 : (((tm m ln c 0 : Nat) : Int) != (c : Nat)) = false) : idn m ln c = true := by
  simp at h1 h2; simp [idn]; omega
theorem idn_not1 {m : Nat} {ln : List Nat} {c : Nat} (h1 : (((tm m ln 0 c : Nat) : Int) != (c : Nat)) = true) : idn m ln c = false := by
  simp at h1; simp [idn]; omega
theorem idn_not2 {m : Nat} {ln : List Nat} {c : Nat} (h1 : (((tm m ln c 0 : Nat) : Int) != (c : Nat)) = true) : idn m ln c = false := by
  simp at h1; simp [idn]; omega
theorem rowsOk_idn {m : Nat} {ln : List Nat} {c : Nat} (hc : c < m) (h : idn m ln c = false) : rowsOk m ln = false := all_range_false hc (by simp [rowOk, h])
theorem rowsOk_asc {m : Nat} {ln : List Nat} {i j k : Nat} (hi : i < m) (hj : j < m) (hk : k < m) (h : asc m ln i j k = false) : rowsOk m ln = false :=
  all_range_false hi (by unfold rowOk; rw [all_range_false hj (all_range_false hk h)]; simp)
theorem asc_of {m : Nat} {ln : List Nat} {i j k : Nat} {b : Bool} (h : (((tm m ln (tm m ln i j) k : Nat) : Int) != ((tm m ln i (tm m ln j k) : Nat) : Int)) = b) : asc m ln i j k = !b := by
  cases b <;> simp at h <;> simp [asc] <;> omega
theorem rowOk_of {m : Nat} {ln : List Nat} {c x : Nat} (h : idn m ln c = true) (h2 : upto (ascRow m ln c) x) (hx : ¬ x < m) : rowOk m ln c = true := by
  unfold rowOk; rw [h, upto_all h2 hx]; rfl
theorem ascRow_of {m : Nat} {ln : List Nat} {c d x : Nat} (h2 : upto (asc m ln c d) x) (hx : ¬ x < m) : ascRow m ln c d = true := upto_all h2 hx
end Go.Proofs.YtggfhephdcnpcaaGreatDoor
namespace Go.Proofs.YtggfhephdcnpcaaGreatDoor
open Go.RowKit
set_option linter.unusedVariables false
set_option maxHeartbeats 400000 in
theorem specTimes_any (m : Nat) (ln : List Nat) (a : Option Addr) (len cap i k : Nat) (w : World) (hl : NatsIn w a ln) (hT : Tb m ln) (hlen : len = m * m) (hi : i < m) (hk : k < m) :
    Calls Tryz.prog 101 #[.agg #[.int .i64 m, .slice a len cap], .int .i64 i, .int .i64 k] w fun e w' => e = .returned (.int .i64 (tm m ln i k : Nat)) ∧ Below w.heap.size w w' := by
  have h1 : i * m + k < len := by rw [hlen]; exact ix_lt hi hk
  have h2 := mul_le hT.hi hi
  have h3 : len ≤ 1600 := by rw [hlen]; exact sq_le hT.hi
  clear hlen
  obtain ⟨b, off, rfl, hb, hc⟩ := hT.cell hl
  have hc1 := hc i k hi hk
  have HT := Lib.hid hT
  clear hc hT hl
  go_enter Tryz.func101, Tryz.ntmps101
  go_wp2
  go_ret
  exact ⟨rfl, (Below.refl _ _).alloc (Nat.le_refl _) _⟩
set_option maxHeartbeats 400000 in
theorem implTimes_any (m : Nat) (ln : List Nat) (a : Option Addr) (len cap i k : Nat) (w : World) (hl : NatsIn w a ln) (hT : Tb m ln) (hlen : len = m * m) (hi : i < m) (hk : k < m) :
    Calls Tryz.prog 110 #[.agg #[.int .i64 m, .slice a len cap], .int .i64 i, .int .i64 k] w fun e w' => e = .returned (.int .i64 (tm m ln i k : Nat)) ∧ Below w.heap.size w w' := by
  have h1 : i * m + k < len := by rw [hlen]; exact ix_lt hi hk
  have h2 := mul_le hT.hi hi
  have h3 : len ≤ 1600 := by rw [hlen]; exact sq_le hT.hi
  clear hlen
  obtain ⟨b, off, rfl, hb, hc⟩ := hT.cell hl
  have hc1 := hc i k hi hk
  have HT := Lib.hid hT
  clear hc hT hl
  go_enter Tryz.func110, Tryz.ntmps110
  go_wp2
  go_ret
  exact ⟨rfl, (Below.refl _ _).alloc (Nat.le_refl _) _⟩
set_option maxRecDepth 100000 in
set_option maxHeartbeats 1000000 in
theorem specTableOk_any (n : Int) (l : List Int) (a : Option Addr) (cap : Nat) (w : World) (hl : IntsIn w a l) (hlen : l.length ≤ 2 ^ 47) :
    Calls Tryz.prog 100 #[.agg #[.int .i64 n, .slice a l.length cap]] w fun e w' => e = .returned (.bool (tabB n l)) ∧ Below w.heap.size w w' := by
  cases hn : inB n 1 40
  · have F := Lib.hid (tabB_notn (l := l) hn)
    go_enter Tryz.func100, Tryz.ntmps100
    go_wp2_with (go_at_call 94; refine (l01In_any _ _ _ _).mono ?_; rintro e w' ⟨rfl, rfl⟩)
    go_ret
    exact ⟨ret_bool F.out.symm, (Below.refl _ _).alloc (Nat.le_refl _) _⟩
  have ⟨hn1, hn2⟩ := inB_bounds hn
  have hnn : 0 ≤ n * n ∧ n * n ≤ 1600 := by
    obtain ⟨m, rfl⟩ := Int.eq_ofNat_of_zero_le (show 0 ≤ n by omega)
    have := sq_le (m := m) (by omega)
    omega
  obtain ⟨hnn0, hnn1⟩ := hnn
  by_cases hll : (l.length : Int) = n * n
  rotate_left
  · have F := Lib.hid (tabB_notlen hll)
    go_enter Tryz.func100, Tryz.ntmps100
    go_wp2_with (go_at_call 94; refine (l01In_any _ _ _ _).mono ?_; rintro e w' ⟨rfl, rfl⟩)
    go_ret
    exact ⟨ret_bool F.out.symm, (Below.refl _ _).alloc (Nat.le_refl _) _⟩
  have hcond : ((l.length : Int) != n * n) = false := by simp [hll]
  have HL := Lib.hid hll
  have HN := Lib.hid hn
  clear hll
  go_enter Tryz.func100, Tryz.ntmps100
  go_wp2_with (go_at_call 94; refine (l01In_any _ _ _ _).mono ?_; rintro e w' ⟨rfl, rfl⟩)
  go_loop [26] (fun i => ∃ j : Nat, j ≤ l.length ∧ i = .int .i64 j ∧ rngTo n l j) (fun i => l.length - (intOf i).toNat)
  case atStart => exact ⟨0, Nat.zero_le _, rfl, rngTo_zero _ _⟩
  case round =>
    obtain ⟨j, hj, rfl, hall⟩ := hrel
    have H := Lib.hid hall
    clear hall
    by_cases hlt : j < l.length
    · obtain ⟨b, off, rfl, hb, hc⟩ := hl.cell hlt
      have h1 := hc j hlt
      clear hc
      cases hp : inB (nthZ l j) 0 (n - 1)
      · have F := Lib.hid (tabB_notrng (rngB_false hlt hp))
        go_wp2_with (go_at_call 94; refine (l01In_any _ _ _ _).mono ?_; rintro e w' ⟨rfl, rfl⟩)
        go_ret
        exact ⟨ret_bool F.out.symm, (Below.refl _ _).alloc (Nat.le_refl _) _⟩
      · have F := Lib.hid (rngTo_succ H.out hp)
        go_wp2_with (go_at_call 94; refine (l01In_any _ _ _ _).mono ?_; rintro e w' ⟨rfl, rfl⟩)
        go_round
        case rel => exact ⟨j + 1, by omega, by go_num, F.out⟩
        case measure => simp [intOf]; omega
    · obtain ⟨m, ln, rfl, rfl, hT⟩ := tb_of HN.out HL.out (rngTo_full H.out hlt)
      obtain ⟨b, off, rfl, hb, hc⟩ := hT.cell hl
      have HT := Lib.hid hT
      have hm0 := hT.lo
      have hm1 := hT.hi
      have hlt' : ¬ j < ln.length := by simpa using hlt
      have hll : ln.length = m * m := hT.len
      have HLL := Lib.hid hll
      clear hll hT hl hlen hj hcond HL H hn HN hlt hnn0 hnn1 hn1 hn2
      go_wp2_with fail
      obtain ⟨w1, hw1⟩ : ∃ w1, w1 = w.alloc (.cells #[.int .i64 (m : Nat), .slice (some ⟨b, off, none⟩) ln.length cap] 38) := ⟨_, rfl⟩
      have HC : Hid (∀ i k, i < m → k < m → w1.cell? ⟨b, off + (i * m + k), none⟩ = some (.int .i64 (tm m ln i k : Nat))) := fun i k hi hk => by
        rw [hw1, World.cell?_alloc_lt _ _ _ hb]; exact hc i k hi hk
      have hbel : Below w.heap.size w w1 := by rw [hw1]; exact (Below.refl _ _).alloc (Nat.le_refl _) _
      have hx0 : w1.cell? ⟨w.heap.size, 0, none⟩ = some (.int .i64 (m : Nat)) := by rw [hw1, World.cell?_alloc_new]; rfl
      have hx1 : w1.cell? ⟨w.heap.size, 1, none⟩ = some (.slice (some ⟨b, off, none⟩) ln.length cap) := by rw [hw1, World.cell?_alloc_new]; rfl
      rw [← hw1]
      clear hc hw1 hlt' hb
      go_loopw [6] (fun i wr => ∃ c d : Nat, c ≤ m ∧ i = .int .i64 c ∧ wr = w1.drewN d ∧ upto (rowOk m ln) c) (fun i _ => m - (intOf i).toNat)
      case atStart => exact ⟨0, 0, Nat.zero_le _, rfl, rfl, upto_zero _⟩
      case round =>
        obtain ⟨c, d, hcm, rfl, rfl, hrows⟩ := hrel
        have HR := Lib.hid hrows
        clear hrows
        by_cases hlt : c < m
        · have g1 : w1.cell? ⟨b, off + c, none⟩ = some (.int .i64 (tm m ln 0 c : Nat)) := by have := HC.out 0 c hm0 hlt; simpa using this
          have g2 : w1.cell? ⟨b, off + c * m, none⟩ = some (.int .i64 (tm m ln c 0 : Nat)) := by have := HC.out c 0 hlt hm0; simpa using this
          have b1 : c < ln.length := by rw [HLL.out]; have := ix_lt hm0 hlt; omega
          have b2 : c * m < ln.length := by rw [HLL.out]; have := ix_lt hlt hm0; omega
          have b3 := mul_le hm1 hlt
          cases e1 : (((tm m ln 0 c : Nat) : Int) != ((c : Nat) : Int))
          rotate_left
          · have F := Lib.hid (tabB_rows HT.out (rowsOk_idn hlt (idn_not1 e1)))
            go_wp2_with fail
            go_ret
            exact ⟨ret_bool F.out.symm, (by repeat (first | exact hbel | refine below_drewN ?_ _))⟩
          cases e2 : (((tm m ln c 0 : Nat) : Int) != ((c : Nat) : Int))
          rotate_left
          · have F := Lib.hid (tabB_rows HT.out (rowsOk_idn hlt (idn_not2 e2)))
            go_wp2_with fail
            go_ret
            exact ⟨ret_bool F.out.symm, (by repeat (first | exact hbel | refine below_drewN ?_ _))⟩
          have HI := Lib.hid (idn_of e1 e2)
          go_wp2_with fail
          clear g1 g2 e1 e2 b1 b2 b3
          obtain ⟨w2, hw2⟩ : ∃ w2, w2 = w1.drewN d := ⟨_, rfl⟩
          rw [← hw2]
          have HW2 := Lib.hid hw2
          clear hw2
          go_loopw [7] (fun i wr => ∃ x d : Nat, x ≤ m ∧ i = .int .i64 x ∧ wr = w1.drewN d ∧ upto (ascRow m ln c) x) (fun i _ => m - (intOf i).toNat)
          case atStart => exact ⟨0, d, Nat.zero_le _, rfl, HW2.out, upto_zero _⟩
          case round =>
            clear HW2
            obtain ⟨x, d2, hxm, rfl, rfl, hasc⟩ := hrel
            have HA := Lib.hid hasc
            clear hasc
            by_cases hlx : x < m
            · go_wp2_with fail
              obtain ⟨w2, hw2⟩ : ∃ w2, w2 = w1.drewN d2 := ⟨_, rfl⟩
              rw [← hw2]
              have HW2 := Lib.hid hw2
              clear hw2
              go_loopw [8] (fun i wr => ∃ y d : Nat, y ≤ m ∧ i = .int .i64 y ∧ wr = w1.drewN d ∧ upto (asc m ln c x) y) (fun i _ => m - (intOf i).toNat)
              case atStart => exact ⟨0, d2, Nat.zero_le _, rfl, HW2.out, upto_zero _⟩
              case round =>
                clear HW2
                obtain ⟨y, d3, hym, rfl, rfl, hasy⟩ := hrel
                have HY := Lib.hid hasy
                clear hasy
                by_cases hly : y < m
                · have k1 := HT.out.tm_lt hlt hlx
                  have k2 := HT.out.tm_lt hlx hly
                  have k3 := HT.out.tm_lt k1 hly
                  have k4 := HT.out.tm_lt hlt k2
                  have g1 := HC.out c x hlt hlx
                  have g2 := HC.out x y hlx hly
                  have g3 := HC.out (tm m ln c x) y k1 hly
                  have g4 := HC.out c (tm m ln x y) hlt k2
                  have b1 : c * m + x < ln.length := by rw [HLL.out]; exact ix_lt hlt hlx
                  have b2 : x * m + y < ln.length := by rw [HLL.out]; exact ix_lt hlx hly
                  have b3 : tm m ln c x * m + y < ln.length := by rw [HLL.out]; exact ix_lt k1 hly
                  have b4 : c * m + tm m ln x y < ln.length := by rw [HLL.out]; exact ix_lt hlt k2
                  have b5 := mul_le hm1 hlt
                  have b6 := mul_le hm1 hlx
                  have b7 := mul_le hm1 k1
                  cases e : (((tm m ln (tm m ln c x) y : Nat) : Int) != ((tm m ln c (tm m ln x y) : Nat) : Int))
                  · have F := Lib.hid (upto_succ HY.out (asc_of e))
                    go_wp2_with fail
                    go_quiet (fail)
                    go_wp2_with fail
                    go_roundw
                    case rel => exact ⟨y + 1, _, by omega, by go_num, rfl, F.out⟩
                    case measure => simp [intOf]; omega
                  · have F := Lib.hid (tabB_rows HT.out (rowsOk_asc hlt hlx hly (asc_of e)))
                    go_wp2_with fail
                    go_quiet (fail)
                    go_wp2_with fail
                    go_ret
                    exact ⟨ret_bool F.out.symm, (by repeat (first | exact hbel | refine below_drewN ?_ _))⟩
                · have F := Lib.hid (upto_succ HA.out (ascRow_of HY.out hly))
                  go_wp2_with fail
                  go_roundw
                  case rel => exact ⟨x + 1, _, by omega, by go_num, rfl, F.out⟩
                  case measure => simp [intOf]; omega
            · have F := Lib.hid (upto_succ HR.out (rowOk_of HI.out HA.out hlx))
              go_wp2_with fail
              go_roundw
              case rel => exact ⟨c + 1, _, by omega, by go_num, rfl, F.out⟩
              case measure => simp [intOf]; omega
        · have F := Lib.hid (tabB_rows HT.out (upto_all HR.out hlt))
          go_wp2_with fail
          go_ret
          exact ⟨ret_bool F.out.symm, (by repeat (first | exact hbel | refine below_drewN ?_ _))⟩
end Go.Proofs.YtggfhephdcnpcaaGreatDoor
namespace Go.Proofs.YtggfhephdcnpcaaGreatDoor
open Go.RowKit
set_option linter.unusedVariables false
/-- a function value that answers p for the numbers of a list in every world that is as w below block B, and keeps what lay there -/
def PredInts (B : Nat) (g : Nat) (caps : Array Value) (p : Int → Bool) (l : List Int) (w : World) : Prop :=
  ∀ j, j < l.length → ∀ W, Below B w W → Calls Tryz.prog g (#[.int .i64 (nthZ l j)] ++ caps) W fun e W' => e = .returned (.bool (p (nthZ l j))) ∧ Below W.heap.size W W'
/-- the first place with a property, or -1 -/
def idxZ (p : Int → Bool) (l : List Int) : Int := match l.findIdx? p with | some i => i | none => -1
/-- none of the first j has it -/
def noneTo (p : Int → Bool) (l : List Int) (j : Nat) : Prop := ∀ i, i < j → p (nthZ l i) = false
theorem noneTo_zero (p : Int → Bool) (l : List Int) : noneTo p l 0 := fun _ h => absurd h (Nat.not_lt_zero _)
theorem noneTo_succ {p : Int → Bool} {l : List Int} {j : Nat} (h : noneTo p l j) (hj : p (nthZ l j) = false) : noneTo p l (j + 1) := fun i hi => by
  by_cases e : i = j
  · rw [e]; exact hj
  · exact h i (by omega)
theorem idxZ_at {p : Int → Bool} {l : List Int} {j : Nat} (h : noneTo p l j) (hlt : j < l.length) (hj : p (nthZ l j) = true) : idxZ p l = j := by
  have : l.findIdx? p = some j := by
    rw [List.findIdx?_eq_some_iff_getElem]
    refine ⟨hlt, by rw [← nthZ_lt hlt]; exact hj, fun i hi => ?_⟩
    have := h i hi
    rw [nthZ_lt (by omega)] at this
    simp [this]
  simp [idxZ, this]
theorem idxZ_none {p : Int → Bool} {l : List Int} {j : Nat} (h : noneTo p l j) (hlt : ¬ j < l.length) : idxZ p l = -1 := by
  have : l.findIdx? p = none := by
    rw [List.findIdx?_eq_none_iff]
    intro x hx
    obtain ⟨i, hi, rfl⟩ := List.getElem_of_mem hx
    rw [← nthZ_lt hi]
    exact h i (by omega)
  simp [idxZ, this]
theorem idxZ_nonneg (p : Int → Bool) (l : List Int) : decide (0 ≤ idxZ p l) = l.any p := by
  unfold idxZ
  cases h : l.findIdx? p
  · rw [List.findIdx?_eq_none_iff] at h
    have : l.any p = false := by rw [List.any_eq_false]; intro x hx; simp [h x hx]
    simp [this]
  · rename_i i
    rw [List.findIdx?_eq_some_iff_getElem] at h
    obtain ⟨hi, hp, _⟩ := h
    have : l.any p = true := by rw [List.any_eq_true]; exact ⟨l[i], List.getElem_mem hi, hp⟩
    simp [this]
set_option maxHeartbeats 400000 in
theorem indexFuncInts_any (g : Nat) (caps : Array Value) (p : Int → Bool) (l : List Int) (a : Option Addr) (cap : Nat) (w : World) (hl : IntsIn w a l) (hlen : l.length ≤ 2 ^ 47)
    (B : Nat) (hB : B ≤ w.heap.size) (hf : PredInts B g caps p l w) (eg : ∀ args w, (callFunc g args).run Tryz.prog w = .ok (.enter g args) w) :
    Calls Tryz.prog 218 #[.slice a l.length cap, .func (.func g) #[] caps] w fun e w' => e = .returned (.int .i64 (idxZ p l)) ∧ Below w.heap.size w w' := by
  have HF := Lib.hid hf
  clear hf
  go_enter Tryz.func218, Tryz.ntmps218
  go_wp2
  go_loopw [8] (fun i wr => ∃ j : Nat, j ≤ l.length ∧ i = .int .i64 j ∧ noneTo p l j ∧ Below w.heap.size w wr) (fun i _ => l.length - (intOf i).toNat)
  case atStart => exact ⟨0, Nat.zero_le _, rfl, noneTo_zero _ _, Below.refl _ _⟩
  case round =>
    obtain ⟨j, hj, rfl, hall, hbel⟩ := hrel
    have H := Lib.hid hall
    clear hall
    by_cases hlt : j < l.length
    · obtain ⟨b, off, rfl, hb, hc⟩ := hl.cell hlt
      have h1 : wr.cell? ⟨b, off + j, none⟩ = some (.int .i64 (nthZ l j)) := by rw [hbel.cell hb]; exact hc j hlt
      clear hc
      cases hp : p (nthZ l j)
      · have F := Lib.hid (noneTo_succ H.out hp)
        go_wp2_with fail
        refine (HF.out j hlt _ (hbel.mono hB)).mono ?_
        rintro e w2 ⟨rfl, hb2⟩
        have hbel2 := Below.now hbel hb2
        clear hb2 h1 hbel
        go_wp2_with fail
        go_roundw
        case rel => exact ⟨j + 1, by omega, by go_num, F.out, hbel2⟩
        case measure => simp [intOf]; omega
      · have F := Lib.hid (idxZ_at H.out hlt hp)
        go_wp2_with fail
        refine (HF.out j hlt _ (hbel.mono hB)).mono ?_
        rintro e w2 ⟨rfl, hb2⟩
        have hbel2 := Below.now hbel hb2
        clear hb2 h1 hbel
        go_wp2_with fail
        go_ret
        exact ⟨ret_int F.out.symm, hbel2⟩
    · have F := Lib.hid (idxZ_none H.out hlt)
      go_wp2_with fail
      go_ret
      exact ⟨ret_int F.out.symm, hbel⟩
set_option maxHeartbeats 400000 in
theorem containsFuncInts_any (g : Nat) (caps : Array Value) (p : Int → Bool) (l : List Int) (a : Option Addr) (cap : Nat) (w : World) (hl : IntsIn w a l) (hlen : l.length ≤ 2 ^ 47)
    (B : Nat) (hB : B ≤ w.heap.size) (hf : PredInts B g caps p l w) (eg : ∀ args w, (callFunc g args).run Tryz.prog w = .ok (.enter g args) w) :
    Calls Tryz.prog 170 #[.slice a l.length cap, .func (.func g) #[] caps] w fun e w' => e = .returned (.bool (l.any p)) ∧ Below w.heap.size w w' := by
  have HC := Lib.hid (indexFuncInts_any g caps p l a cap w hl hlen B hB hf eg)
  have HI := Lib.hid (idxZ_nonneg p l)
  clear hf eg hl
  go_enter Tryz.func170, Tryz.ntmps170
  go_wp2_with fail
  refine HC.out.mono ?_
  rintro e w2 ⟨rfl, hb2⟩
  go_wp2_with fail
  go_ret
  exact ⟨ret_bool HI.out, hb2⟩
/-- the closure of allWithin -/
theorem allWithinPred (lo hi : Int) (l : List Int) (w : World) (b1 b2 : Nat) (hb1 : b1 < w.heap.size) (hb2 : b2 < w.heap.size)
    (h1 : w.cell? ⟨b1, 0, none⟩ = some (.int .i64 lo)) (h2 : w.cell? ⟨b2, 0, none⟩ = some (.int .i64 hi)) :
    PredInts w.heap.size 221 #[.pointer (some ⟨b1, 0, none⟩), .pointer (some ⟨b2, 0, none⟩)] (fun x => !inB x lo hi) l w := by
  intro j hj W hW
  have g1 : W.cell? ⟨b1, 0, none⟩ = some (.int .i64 lo) := by rw [hW.cell hb1]; exact h1
  have g2 : W.cell? ⟨b2, 0, none⟩ = some (.int .i64 hi) := by rw [hW.cell hb2]; exact h2
  clear h1 h2 hW hb1 hb2
  go_enter Tryz.func221, Tryz.ntmps221
  go_wp2_with (go_at_call 86; refine (within_any _ _ _ _).mono ?_; rintro e w' ⟨rfl, rfl⟩)
  go_ret
  exact ⟨rfl, Below.refl _ _⟩
theorem any_not_all {α : Type} (l : List α) (p : α → Bool) : (!l.any fun x => !p x) = l.all p := by simp [List.all_eq_not_any_not]
set_option maxHeartbeats 400000 in
theorem allWithin_any (lo hi : Int) (l : List Int) (a : Option Addr) (cap : Nat) (w : World) (hl : IntsIn w a l) (hlen : l.length ≤ 2 ^ 47) :
    Calls Tryz.prog 178 #[.slice a l.length cap, .int .i64 lo, .int .i64 hi] w fun e w' => e = .returned (.bool (l.all fun x => inB x lo hi)) ∧ Below w.heap.size w w' := by
  have HA := Lib.hid (any_not_all l fun x => inB x lo hi)
  have HC : Hid (∀ W b1 b2, IntsIn W a l → PredInts W.heap.size 221 #[.pointer (some ⟨b1, 0, none⟩), .pointer (some ⟨b2, 0, none⟩)] (fun x => !inB x lo hi) l W → _) :=
    fun W b1 b2 h1 h2 => containsFuncInts_any 221 #[.pointer (some ⟨b1, 0, none⟩), .pointer (some ⟨b2, 0, none⟩)] (fun x => !inB x lo hi) l a cap W h1 hlen W.heap.size (Nat.le_refl _) h2 (enters_of Tryz.func221 (by kernel_rfl) rfl)
  have HL := Lib.hid hl
  clear hl
  go_enter Tryz.func178, Tryz.ntmps178
  go_wp2_with fail
  refine (HC.out _ _ _ (HL.out.later (((Below.refl _ _).alloc (Nat.le_refl _) _).alloc (by simp) _)) (allWithinPred lo hi l _ _ _ (by simp; omega) (by simp) (by simp) (by simp))).mono ?_
  rintro e w2 ⟨rfl, hb2⟩
  have hbel := Below.now (((Below.refl w.heap.size w).alloc (Nat.le_refl _) _).alloc (by simp) _) hb2
  clear hb2
  go_wp2_with fail
  go_ret
  exact ⟨ret_bool HA.out, hbel⟩
end Go.Proofs.YtggfhephdcnpcaaGreatDoor
