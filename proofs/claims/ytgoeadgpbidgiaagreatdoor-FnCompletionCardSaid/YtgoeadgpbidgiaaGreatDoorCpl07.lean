/-
  The reference's SplitAny at one separator, exactly.
-/
import Derived.Test.YtgoeadgpbidgiaaGreatDoorCpl01
import Derived.Test.YtgoeadgpbidgiaaGreatDoorCpl04
import Derived.Test.YtgoeadgpbidgiaaGreatDoorCpl06
import Derived.Deep.DeepCutAuto
import Derived.Deep.QuietTactic
import Derived.BigQuiet
namespace Go.Proofs.YtgoeadgpbidgiaaGreatDoor
open Go.RowKit
set_option linter.unusedVariables false
/-- the number at a place of a list -/
def nthZ (l : List Int) (i : Nat) : Int := l.getD i 0
/-- the product of two elements -/
def tm (m : Nat) (ln : List Nat) (i k : Nat) : Nat := ln.getD (i * m + k) 0
def asc (m : Nat) (ln : List Nat) (i j k : Nat) : Bool := decide (tm m ln (tm m ln i j) k = tm m ln i (tm m ln j k))
def idn (m : Nat) (ln : List Nat) (i : Nat) : Bool := decide (tm m ln 0 i = i) && decide (tm m ln i 0 = i)
def ascRow (m : Nat) (ln : List Nat) (i j : Nat) : Bool := (List.range m).all (asc m ln i j)
def rowOk (m : Nat) (ln : List Nat) (i : Nat) : Bool := idn m ln i && (List.range m).all (ascRow m ln i)
def rowsOk (m : Nat) (ln : List Nat) : Bool := (List.range m).all (rowOk m ln)
/-- the numbers lie in range -/
def rngB (n : Int) (l : List Int) : Bool := l.all fun x => inB x 0 (n - 1)
/-- TableOk as a function of plain data -/
def tabB (n : Int) (l : List Int) : Bool := inB n 1 40 && (decide ((l.length : Int) = n * n) && (rngB n l && rowsOk n.toNat (l.map Int.toNat)))
/-- a table whose numbers lie in range -/
structure Tb (m : Nat) (ln : List Nat) : Prop where
  lo : 1 ≤ m
  hi : m ≤ 40
  len : ln.length = m * m
  rng : ∀ x ∈ ln, x < m
/-- a valid table -/
structure TabOk (m : Nat) (ln : List Nat) : Prop extends Tb m ln where
  left : ∀ i, i < m → tm m ln 0 i = i
  right : ∀ i, i < m → tm m ln i 0 = i
  assoc : ∀ i j k, i < m → j < m → k < m → tm m ln (tm m ln i j) k = tm m ln i (tm m ln j k)
theorem ix_lt {m i k : Nat} (hi : i < m) (hk : k < m) : i * m + k < m * m := by
  have := Nat.mul_le_mul_right m (show i + 1 ≤ m from hi)
  rw [Nat.add_mul] at this
  omega
theorem mul_le {m i : Nat} (hm : m ≤ 40) (hi : i < m) : i * m ≤ 1600 :=
  Nat.le_trans (Nat.mul_le_mul (Nat.le_of_lt hi) (Nat.le_refl _)) (by have := Nat.mul_le_mul hm hm; omega)
theorem sq_le {m : Nat} (hm : m ≤ 40) : m * m ≤ 1600 := by have := Nat.mul_le_mul hm hm; omega
theorem Tb.tm_lt {m : Nat} {ln : List Nat} (h : Tb m ln) {i k : Nat} (hi : i < m) (hk : k < m) : tm m ln i k < m := by
  have hlt : i * m + k < ln.length := by rw [h.len]; exact ix_lt hi hk
  unfold tm
  rw [List.getD_eq_getElem?_getD, List.getElem?_eq_getElem hlt]
  exact h.rng _ (List.getElem_mem hlt)
/-- a slice of natural numbers -/
def NatsIn (w : World) (a : Option Addr) (ln : List Nat) : Prop := IntsIn w a (ln.map Int.ofNat)
theorem NatsIn.later {w w' : World} {a : Option Addr} {l : List Nat} (h : NatsIn w a l) (hb : Below w.heap.size w w') : NatsIn w' a l := IntsIn.later h hb
/-- the cells of a table's products -/
theorem Tb.cell {m : Nat} {ln : List Nat} (h : Tb m ln) {w : World} {a : Option Addr} (hn : NatsIn w a ln) :
    ∃ b off, a = some ⟨b, off, none⟩ ∧ b < w.heap.size ∧ ∀ i k, i < m → k < m → w.cell? ⟨b, off + (i * m + k), none⟩ = some (.int .i64 (tm m ln i k : Nat)) := by
  have h0 : 0 * m + 0 < m * m := ix_lt h.lo h.lo
  obtain ⟨b, off, ha, hc⟩ := IntsIn.at hn (i := 0) (by simp [h.len]; omega)
  have key : ∀ i k, i < m → k < m → w.cell? ⟨b, off + (i * m + k), none⟩ = some (.int .i64 (tm m ln i k : Nat)) := by
    intro i k hi hk
    have hlt : i * m + k < ln.length := by rw [h.len]; exact ix_lt hi hk
    rw [hc _ (by simpa using hlt)]
    simp [tm, List.getD_eq_getElem?_getD, hlt]
  exact ⟨b, off, ha, World.block_lt_of_cell? w _ (key 0 0 h.lo h.lo), key⟩
theorem all_range {m : Nat} {p : Nat → Bool} : (List.range m).all p = true ↔ ∀ i, i < m → p i = true := by simp
theorem all_range_false {m : Nat} {p : Nat → Bool} {i : Nat} (hi : i < m) (h : p i = false) : (List.range m).all p = false := by
  rw [List.all_eq_false]; exact ⟨i, by simpa using hi, by simp [h]⟩
/-- the first c of them hold -/
def upto (p : Nat → Bool) (c : Nat) : Prop := ∀ i, i < c → p i = true
theorem upto_zero (p : Nat → Bool) : upto p 0 := fun _ h => absurd h (Nat.not_lt_zero _)
theorem upto_succ {p : Nat → Bool} {c : Nat} (h : upto p c) (hc : p c = true) : upto p (c + 1) := fun i hi => by
  by_cases e : i = c
  · rw [e]; exact hc
  · exact h i (by omega)
theorem upto_all {p : Nat → Bool} {c m : Nat} (h : upto p c) (hc : ¬ c < m) : (List.range m).all p = true := all_range.2 fun i hi => h i (by omega)
theorem nthZ_lt {l : List Int} {j : Nat} (h : j < l.length) : nthZ l j = l[j] := by simp [nthZ, List.getD_eq_getElem?_getD, h]
theorem IntsIn.cell {w : World} {a : Option Addr} {l : List Int} (h : IntsIn w a l) {i : Nat} (hi : i < l.length) :
    ∃ b off, a = some ⟨b, off, none⟩ ∧ b < w.heap.size ∧ ∀ j, j < l.length → w.cell? ⟨b, off + j, none⟩ = some (.int .i64 (nthZ l j)) := by
  obtain ⟨b, off, ha, hc⟩ := h.at hi
  exact ⟨b, off, ha, World.block_lt_of_cell? w _ (hc i hi), hc⟩
/-- the first j numbers lie in range -/
def rngTo (n : Int) (l : List Int) (j : Nat) : Prop := ∀ i, i < j → inB (nthZ l i) 0 (n - 1) = true
theorem rngTo_zero (n : Int) (l : List Int) : rngTo n l 0 := fun _ h => absurd h (Nat.not_lt_zero _)
theorem rngTo_succ {n : Int} {l : List Int} {j : Nat} (h : rngTo n l j) (hj : inB (nthZ l j) 0 (n - 1) = true) : rngTo n l (j + 1) := fun i hi => by
  by_cases e : i = j
  · rw [e]; exact hj
  · exact h i (by omega)
theorem rngTo_full {n : Int} {l : List Int} {j : Nat} (h : rngTo n l j) (hj : ¬ j < l.length) : rngB n l = true := by
  unfold rngB
  rw [List.all_eq_true]
  intro x hx
  obtain ⟨i, hi, rfl⟩ := List.getElem_of_mem hx
  rw [← nthZ_lt hi]
  exact h i (by omega)
theorem rngB_false {n : Int} {l : List Int} {j : Nat} (h : j < l.length) (hj : inB (nthZ l j) 0 (n - 1) = false) : rngB n l = false := by
  unfold rngB
  rw [List.all_eq_false]
  exact ⟨l[j], List.getElem_mem h, by rw [← nthZ_lt h, hj]; simp⟩
theorem tabB_notn {n : Int} {l : List Int} (h : inB n 1 40 = false) : tabB n l = false := by simp [tabB, h]
theorem tabB_notlen {n : Int} {l : List Int} (h : ¬ (l.length : Int) = n * n) : tabB n l = false := by simp [tabB, h]
theorem tabB_notrng {n : Int} {l : List Int} (h : rngB n l = false) : tabB n l = false := by simp [tabB, h]
theorem tabB_rows {m : Nat} {ln : List Nat} {b : Bool} (h : Tb m ln) (hr : rowsOk m ln = b) : tabB m (ln.map Int.ofNat) = b := by
  have h1 : inB (m : Int) 1 40 = true := by have := h.lo; have := h.hi; simp [inB]; omega
  have h2 : ((ln.map Int.ofNat).length : Int) = (m : Int) * m := by simp [h.len]
  have h3 : rngB (m : Int) (ln.map Int.ofNat) = true := by
    unfold rngB
    rw [List.all_eq_true]
    intro x hx
    obtain ⟨y, hy, rfl⟩ := List.mem_map.1 hx
    have := h.rng y hy
    simp [inB]; omega
  have h4 : (ln.map Int.ofNat).map Int.toNat = ln := by rw [List.map_map]; exact List.map_id'' (fun x => rfl) ln
  simp [tabB, h1, h3, h4, hr, h.len]
/-- out of the first three tests -/
theorem tb_of {n : Int} {l : List Int} (h1 : inB n 1 40 = true) (h2 : (l.length : Int) = n * n) (h3 : rngB n l = true) : ∃ m ln, n = (m : Nat) ∧ l = ln.map Int.ofNat ∧ Tb m ln := by
  have hn : 1 ≤ n ∧ n ≤ 40 := by simpa [inB] using h1
  obtain ⟨m, rfl⟩ := Int.eq_ofNat_of_zero_le (show 0 ≤ n by omega)
  unfold rngB at h3
  rw [List.all_eq_true] at h3
  refine ⟨m, l.map Int.toNat, rfl, ?_, ⟨by omega, by omega, ?_, ?_⟩⟩
  · rw [List.map_map]
    symm
    have : ∀ x ∈ l, (Int.ofNat ∘ Int.toNat) x = x := fun x hx => by
      have := h3 x hx
      simp [inB] at this
      simp; omega
    rw [List.map_congr_left this]
    simp
  · simp only [List.length_map]
    have : ((l.length : Nat) : Int) = ((m * m : Nat) : Int) := by rw [h2]; simp
    omega
  · intro x hx
    obtain ⟨y, hy, rfl⟩ := List.mem_map.1 hx
    have := h3 y hy
    simp [inB] at this
    omega
theorem tabOk_of {m : Nat} {ln : List Nat} (h : Tb m ln) (hr : rowsOk m ln = true) : TabOk m ln := by
  have h1 := all_range.1 hr
  refine ⟨h, fun i hi => ?_, fun i hi => ?_, fun i j k hi hj hk => ?_⟩
  · have := h1 i hi; simp [rowOk, idn] at this; exact this.1.1
  · have := h1 i hi; simp [rowOk, idn] at this; exact this.1.2
  · have := h1 i hi
    simp only [rowOk, Bool.and_eq_true] at this
    have := all_range.1 (all_range.1 this.2 j hj) k hk
    simpa [asc] using this
/-- a valid table's two forms -/
theorem tabOk_out {n : Int} {l : List Int} (h : tabB n l = true) : ∃ m ln, n = (m : Nat) ∧ l = ln.map Int.ofNat ∧ TabOk m ln := by
  have h' := h
  simp only [tabB, Bool.and_eq_true, decide_eq_true_eq] at h
  obtain ⟨h1, h2, h3, h4⟩ := h
  obtain ⟨m, ln, rfl, rfl, ht⟩ := tb_of h1 h2 h3
  refine ⟨m, ln, rfl, rfl, tabOk_of ht ?_⟩
  have h5 : (ln.map Int.ofNat).map Int.toNat = ln := by rw [List.map_map]; exact List.map_id'' (fun x => rfl) ln
  rw [h5] at h4
  exact h4
theorem idn_of {m : Nat} {ln : List Nat} {c : Nat} (h1 : (((tm m ln 0 c : Nat) : Int) != (c : Nat)) = false) (h2 : (((tm m ln c 0 : Nat) : Int) != (c : Nat)) = false) : idn m ln c = true := by
  simp at h1 h2; simp [idn]; omega
theorem idn_not1 {m : Nat} {ln : List Nat} {c : Nat} (h1 : (((tm m ln 0 c : Nat) : Int) != (c : Nat)) = true) : idn m ln c = false := by
  simp at h1; simp [idn]; omega
theorem idn_not2 {m : Nat} {ln : List Nat} {c : Nat} (h1 : (((tm m ln c 0 : Nat) : Int) != (c : Nat)) = true) : idn m ln c = false := by
  simp at h1; simp [idn]; omega
theorem rowsOk_idn {m : Nat} {ln : List Nat} {c : Nat} (hc : c < m) (h : idn m ln c = false) : rowsOk m ln = false := all_range_false hc (by simp [rowOk, h])
theorem rowsOk_asc {m : Nat} {ln : List Nat} {i j k : Nat} (hi : i < m) (hj : j < m) (hk : k < m) (h : asc m ln i j k = false) : rowsOk m ln = false :=
  all_range_false hi (by unfold rowOk; rw [all_range_false hj (all_range_false hk h)]; simp)
theorem asc_of {m : Nat} {ln : List Nat} {i j k : Nat} {b : Bool} (h : (((tm m ln (tm m ln i j) k : Nat) : Int) != ((tm m ln i (tm m ln j k) : Nat) : Int)) = b) : asc m ln i j k = !b := by
  cases b <;> simp at h <;> simp [asc] <;> omega
theorem rowOk_of {m : Nat} {ln : List Nat} {c x : Nat} (h : idn m ln c = true) (h2 : upto (ascRow m ln c) x) (hx : ¬ x < m) : rowOk m ln c = true := by
  unfold rowOk; rw [h, upto_all h2 hx]; rfl
theorem ascRow_of {m : Nat} {ln : List Nat} {c d x : Nat} (h2 : upto (asc m ln c d) x) (hx : ¬ x < m) : ascRow m ln c d = true := upto_all h2 hx
end Go.Proofs.YtgoeadgpbidgiaaGreatDoor
namespace Go.Proofs.YtgoeadgpbidgiaaGreatDoor
open Go.RowKit Go.ChangeShapes Go.WideShapes Go.ChangeAt
set_option linter.unusedVariables false
/-- all lie in the range of an int -/
def Rng64 (l : List Int) : Prop := ∀ j, j < l.length → -9223372036854775808 ≤ nthZ l j ∧ nthZ l j ≤ 9223372036854775807
theorem open_sliceIn {H : Type} {enc : TypeId × Value → H} {P : Program} {w : World} {r : Reach} {b0 : Nat} {t e : TypeId} {v : Value} {d : DataW H} {p : List MemPlace} (ht : P.underlying t = some (.slice e)) (he : P.underlying e = some (.int .i64)) (hc : P.cellsOf e = 1)
    (hv : Value.okWide P w r b0 t v) (h : DataW.Trod enc P w 0 (fun _ => true) true t v d p) : ∃ a l cap, v = .slice a l.length cap ∧ IntsIn w a l ∧ l.length ≤ 9223372036854775807 ∧ Rng64 l := by
  obtain ⟨a0, len0, cap0, rfl⟩ := okWide_slice ht hv
  obtain ⟨fuel, hf⟩ := h
  rcases open_ints ht he hc hf with ⟨hcs, _⟩ | ⟨a, len, cap, zs, hcs, _, hl, hm, hz, _, hcell, hwf⟩
  · have e : (Value.slice a0 len0 cap0) = .slice none 0 0 := by simpa [Value.cells] using hcs
    rw [e]
    exact ⟨none, [], 0, rfl, .inl rfl, by simp, fun j hj => absurd hj (by simp)⟩
  · have e : (Value.slice a0 len0 cap0) = .slice (some a) len cap := by simpa [Value.cells] using hcs
    rw [e]
    simp only [if_true] at hz
    have hlen : (zs.take len).length = len := by rw [List.length_take]; omega
    refine ⟨some a, zs.take len, cap, by rw [hlen], ?_, by rw [hlen]; unfold maxLen at hm; omega, fun j hj => ?_⟩
    · by_cases h0 : len = 0
      · left; subst h0; simp
      · obtain ⟨b, off, rfl, hc'⟩ := ints_at hcell (by omega)
        right
        refine ⟨b, off, rfl, fun i hi => ?_⟩
        rw [List.length_map, hlen] at hi
        rw [hc' i (by omega)]
        simp [List.getElem_take, List.getD_eq_getElem?_getD, show i < zs.length by omega]
    · rw [nthZ_lt hj, List.getElem_take]
      exact bounds_i64 (hwf _ (List.getElem_mem _))
end Go.Proofs.YtgoeadgpbidgiaaGreatDoor
namespace Go.Proofs.YtgoeadgpbidgiaaGreatDoor
open Go.RowKit
set_option linter.unusedVariables false
/-- the library's table of powers of ten lies where it was laid -/
def Tab10 (w : World) : Prop := Lib.TabIs Tryz.prog w "internal/strconv.uint64pow10" .u64 Lib.pow10Tab
theorem Tab10.later {w w' : World} (h : Tab10 w) (hb : Below w.heap.size w w') : Tab10 w' := by
  have hg : Tryz.prog.globalNamed "internal/strconv.uint64pow10" = some 1 := by kernel_rfl
  unfold Tab10 Lib.TabIs World.var? at h ⊢
  rw [hg] at h ⊢
  simp only [Option.bind_some] at h ⊢
  have hlt : 1 < w.heap.size := by
    rcases Nat.lt_or_ge 1 w.heap.size with h' | h'
    · exact h'
    · rw [Array.getElem?_eq_none h'] at h; simp at h
  rw [hb.block _ hlt]
  exact h
theorem below_grow (w : World) (q : Nat) (os : Array Obj) : Below w.heap.size w (Go.Sort.grow (w.drewN q) os) := below_wide w ⟨w.drawn + q, os⟩
/-- the numeral of an integer -/
def numB (n : Int) : ByteArray := ⟨(Lib.itoa n).toArray⟩
set_option maxHeartbeats 400000 in
theorem implFormatInt_any (n : Int) (w : World) (h0 : -9223372036854775808 ≤ n) (h1 : n ≤ 9223372036854775807) (ht : Tab10 w) :
    Calls Tryz.prog 35 #[.int .i64 n] w fun e w' => e = .returned (.string (numB n)) ∧ Below w.heap.size w w' := by
  have HC := Lib.hid (Tryz.strconv_Itoa n h0 h1 w ht)
  clear ht
  go_enter Tryz.func35, Tryz.ntmps35
  go_wp2_with fail
  refine HC.out.mono ?_
  rintro e w2 ⟨rfl, k, os, rfl⟩
  have hb := below_grow w k os
  generalize Go.Sort.grow (w.drewN k) os = w2 at *
  go_wp2_with fail
  go_ret
  exact ⟨rfl, hb⟩
theorem itoa_len {n : Int} (h0 : -9223372036854775808 ≤ n) (h1 : n ≤ 9223372036854775807) : (numB n).size ≤ 21 := by
  show (Lib.itoa n).toArray.size ≤ 21
  rw [List.size_toArray]
  unfold Lib.itoa
  split
  · have := decDigits_len (n := n.natAbs) (by omega); simp; omega
  · have := decDigits_len (n := n.toNat) (by omega); omega
/-- the numerals of the first j -/
def numTo (l : List Int) (j : Nat) : List ByteArray := (l.take j).map numB
theorem numTo_len {l : List Int} {j : Nat} (h : j ≤ l.length) : (numTo l j).length = j := by simp [numTo]; omega
theorem numTo_succ {l : List Int} {j : Nat} (h : j < l.length) : numTo l (j + 1) = numTo l j ++ [numB (nthZ l j)] := by
  unfold numTo; rw [List.take_succ_eq_append_getElem h, nthZ_lt h, List.map_append]; rfl
theorem numTo_sum {l : List Int} (hr : Rng64 l) : ∀ j, j ≤ l.length → strSum (numTo l j) ≤ 21 * j
  | 0, _ => by simp [numTo, strSum]
  | j + 1, h => by
    have h1 := numTo_sum hr j (by omega)
    have h2 := itoa_len (hr j (by omega)).1 (hr j (by omega)).2
    rw [numTo_succ (by omega)]
    unfold strSum at *
    rw [List.map_append, List.sum_append]
    simp only [List.map_cons, List.map_nil, List.sum_cons, List.sum_nil, Nat.add_zero]
    omega
/-- FormatNumbers as a function of plain data -/
def fmtNums (l : List Int) : ByteArray := if l.length = 0 then ⟨#[45]⟩ else joinF (numTo l l.length) ⟨#[44]⟩
theorem fmtNums_zero {l : List Int} (h : l.length = 0) : fmtNums l = ⟨#[45]⟩ := by simp [fmtNums, h]
theorem fmtNums_pos {l : List Int} (h : 0 < l.length) : fmtNums l = joinF (numTo l l.length) ⟨#[44]⟩ := by simp only [fmtNums, if_neg (show ¬ l.length = 0 by omega)]
theorem fmtNums_size {l : List Int} (hr : Rng64 l) (h : l.length ≤ 2 ^ 40) : (joinF (numTo l l.length) ⟨#[44]⟩).size ≤ 2 ^ 46 := by
  have h1 := joinF_size (numTo l l.length) ⟨#[44]⟩
  have h3 := numTo_sum hr l.length (Nat.le_refl _)
  rw [numTo_len (Nat.le_refl _)] at h1
  have : (ByteArray.mk #[44]).size = 1 := rfl
  rw [this] at h1
  omega
end Go.Proofs.YtgoeadgpbidgiaaGreatDoor
namespace Go.Proofs.YtgoeadgpbidgiaaGreatDoor
open Go.RowKit
set_option linter.unusedVariables false
/-- the text of a rule, of rules -/
def ruleT (r : RulD) : ByteArray := dotB r.1 ++ ⟨#[62]⟩ ++ dotB r.2
def rulesT (s : ByteArray) (R : List RulD) : Nat → ByteArray
  | 0 => s
  | j + 1 => rulesT s R j ++ ⟨#[32]⟩ ++ ruleT (nthR R j)
theorem ruleT_size (r : RulD) : (ruleT r).size ≤ r.1.size + r.2.size + 3 := by
  have h1 := dotB_size r.1
  have h2 := dotB_size r.2
  unfold ruleT
  rw [ByteArray.size_append, ByteArray.size_append]
  have : (⟨#[62]⟩ : ByteArray).size = 1 := rfl
  omega
set_option maxRecDepth 20000 in
set_option maxHeartbeats 1000000 in
theorem specFormatRule_any (x y : ByteArray) (w : World) (hx : x.size + y.size + 3 ≤ maxLen) :
    Calls Tryz.prog 74 #[.agg #[.string x, .string y]] w fun e w' => e = .returned (.string (ruleT (x, y))) ∧ Below w.heap.size w w' := by
  have h1 := dotB_size x
  have h2 := dotB_size y
  unfold maxLen at hx
  have P1 := Lib.hid (fun W => l03Side_any x W)
  have P2 := Lib.hid (fun W => l03Side_any y W)
  have HR : Hid (ruleT (x, y) = dotB x ++ ⟨#[62]⟩ ++ dotB y) := Lib.hid rfl
  generalize ruleT (x, y) = rt at *
  generalize dotB x = a at *
  generalize dotB y = b at *
  have c1 : ¬ 9223372036854775807 < a.size + 1 := by omega
  have c3 : ¬ 9223372036854775807 < a.size + 1 + b.size := by omega
  go_enter Tryz.func74, Tryz.ntmps74
  go_wp2_with fail
  obtain ⟨w0, hw0⟩ : ∃ w0, w0 = (w.alloc (.cells #[.string x, .string y] 39)) := ⟨_, rfl⟩
  have HX : Hid (Below w.heap.size w w0) := Lib.hid (by rw [hw0]; exact (Below.refl _ _).alloc (Nat.le_refl _) _)
  have hx0 : ∀ W, Below w0.heap.size w0 W → W.cell? ⟨w.heap.size, 0, none⟩ = some (.string x) := fun W hW => by rw [hW.cell (by rw [hw0]; simp), hw0]; simp
  have hx1 : ∀ W, Below w0.heap.size w0 W → W.cell? ⟨w.heap.size, 1, none⟩ = some (.string y) := fun W hW => by rw [hW.cell (by rw [hw0]; simp), hw0]; simp
  rw [← hw0]
  clear hw0
  have q0 : ∀ x, (wide w0 x).cell? ⟨w.heap.size, 0, none⟩ = some _ := wide_cell (hx0 _ (Below.refl _ _))
  have q1 : ∀ x, (wide w0 x).cell? ⟨w.heap.size, 1, none⟩ = some _ := wide_cell (hx1 _ (Below.refl _ _))
  clear hx0 hx1
  refine region_wide (by kernel_rfl) (by kernel_rfl) ?_
  repeat (quiet_step (first
    | (go_at_call 121; refine (P1.out _).mono ?_; rintro e w2 ⟨rfl, rfl⟩; exact ⟨rfl, _, rfl⟩)
    | (go_at_call 121; refine (P2.out _).mono ?_; rintro e w2 ⟨rfl, rfl⟩; exact ⟨rfl, _, rfl⟩)))
  refine wpQuiet_nil ?_
  rintro w4 ⟨x4, rfl⟩
  have hend := Below.now HX.out (below_wide w0 x4)
  clear q0 q1
  go_wp2_with fail
  go_ret
  exact ⟨ret_str HR.out.symm, hend⟩
theorem rulesT_size {s : ByteArray} {k : Int} {R : List RulD} (h : rulesP k R) : ∀ j, j ≤ R.length → (rulesT s R j).size ≤ s.size + j * 20
  | 0, _ => by simp [rulesT]
  | j + 1, hj => by
    have ih := rulesT_size (s := s) h j (by omega)
    have h1 := ruleT_size (nthR R j)
    have h2 := (h.2 _ (nthR_mem (show j < R.length by omega))).1.2
    rw [rulesT, ByteArray.size_append, ByteArray.size_append]
    have : (⟨#[32]⟩ : ByteArray).size = 1 := rfl
    omega
/-- the text of a system -/
def sysT (k : Int) (R : List RulD) : ByteArray := rulesT (numB k) R R.length
open Classical in
noncomputable def sysT0 (k : Int) (R : List RulD) : ByteArray := if rulesP k R then sysT k R else ⟨#[]⟩
set_option maxRecDepth 20000 in
set_option maxHeartbeats 2000000 in
theorem specFormatSystem_any (k : Int) (l : List RulD) (a : Option Addr) (cap : Nat) (w : World) (hl : RulesIn w a l) (hlen : l.length ≤ 2 ^ 40) (hz : SzR l) :
    Calls Tryz.prog 33 #[.agg #[.int .i64 k, .slice a l.length cap]] w fun e w' => e = .returned (.string (sysT0 k l)) ∧ Below w.heap.size w w' := by
  have HL := Lib.hid hl
  have HR := Lib.hid (fun W h => specRulesOk_any k l a cap W h hlen hz)
  have HA := Lib.hid (fun o => alloc_belowS w o)
  clear hl hz
  go_enter Tryz.func33, Tryz.ntmps33
  go_wp2_with fail
  refine (HR.out _ (HL.out.later (HA.out _))).mono ?_
  rintro e w2 ⟨bb, hbb, rfl, hb2⟩
  have HBB := Lib.hid hbb
  have hb0 := (hb2.block w.heap.size (by simp)).trans (alloc_at w (.cells #[.int .i64 k, .slice a l.length cap] 33))
  obtain ⟨s0, s1⟩ := sys_cells hb0
  have HW2 := Lib.hid (Below.now (HA.out _) hb2)
  clear hbb hb2 HR
  cases bb
  · have F : Hid (sysT0 k l = ⟨#[]⟩) := Lib.hid (if_neg (fun h => by have := HBB.out.2 h; cases this))
    go_wp2_with fail
    go_ret
    exact ⟨ret_str F.out.symm, HW2.out⟩
  · have HRP := Lib.hid (HBB.out.1 rfl)
    have F : Hid (sysT0 k l = rulesT (numB k) l l.length) := Lib.hid (if_pos HRP.out)
    clear HBB
    have hk1 := HRP.out.1.1
    have hn := itoa_len (n := k) (by omega) (by omega)
    have HF := Lib.hid (fun W => specFormatInt_any k W (by omega) (by omega))
    have HT0 : Hid (numB k = rulesT (numB k) l 0) := Lib.hid rfl
    go_wp2_with fail
    refine (HF.out _).mono ?_
    rintro e w3 ⟨rfl, hb3⟩
    have hb03 := (hb3.block w.heap.size (Array.getElem?_eq_some_iff.1 hb0).1).trans hb0
    obtain ⟨s0, s1⟩ := sys_cells hb03
    have HW3 := Lib.hid (Below.now HW2.out hb3)
    clear hb3 HF hb0
    go_wp2_with fail
    clear s0 s1
    go_loopw [3, 15] (fun s i wr => ∃ j : Nat, j ≤ l.length ∧ i = .int .i64 (j : Nat) ∧ s = .string (rulesT (numB k) l j) ∧ Below w.heap.size w wr) (fun _ i _ => l.length - (intOf i).toNat)
    case atStart => exact ⟨0, Nat.zero_le _, rfl, rfl, HW3.out⟩
    case round =>
      obtain ⟨j, hj, rfl, rfl, hbw⟩ := hrel
      have HBW := Lib.hid hbw
      by_cases hlt : j < l.length
      · obtain ⟨b, off, rfl, hb, hc⟩ := (HL.out.later hbw).cell hlt
        obtain ⟨c1, c2⟩ := hc j hlt
        have hz2 := (HRP.out.2 _ (nthR_mem hlt)).1.2
        have hts := rulesT_size (s := numB k) HRP.out j (by omega)
        have hrs := ruleT_size (nthR l j)
        have h12 := HRP.out.1.2
        have HS : Hid (rulesT (numB k) l (j + 1) = rulesT (numB k) l j ++ ⟨#[32]⟩ ++ ruleT ((nthR l j).1, (nthR l j).2)) := Lib.hid rfl
        have hrs2 : (ruleT ((nthR l j).1, (nthR l j).2)).size ≤ 30 := by
          show (ruleT (nthR l j)).size ≤ 30; omega
        clear hc hbw hrs
        generalize (nthR l j).1 = x at *
        generalize (nthR l j).2 = y at *
        have HFR := Lib.hid (fun W => specFormatRule_any x y W (by unfold maxLen; omega))
        generalize ruleT (x, y) = rt at *
        generalize rulesT (numB k) l j = st at *
        have n1 : ¬ 9223372036854775807 < st.size + 1 := by omega
        have n2 : ¬ 9223372036854775807 < st.size + 1 + rt.size := by omega
        go_wp2_with fail
        refine (HFR.out _).mono ?_
        rintro e w5 ⟨rfl, hb5⟩
        have HB5 := Lib.hid (Below.now ((alloc_belowS wr (.cells #[.string x, .string y] 39))) hb5)
        have HB6 := Lib.hid (Below.now HBW.out HB5.out)
        clear hb5
        go_wp2_with fail
        go_roundw
        case rel => exact ⟨j + 1, by omega, by go_num, by rw [HS.out], HB6.out⟩
        case measure => simp [intOf]; omega
      · obtain rfl : j = l.length := by omega
        go_wp2_with fail
        go_ret
        exact ⟨ret_str F.out.symm, HBW.out⟩
end Go.Proofs.YtgoeadgpbidgiaaGreatDoor
namespace Go.Proofs.YtgoeadgpbidgiaaGreatDoor
open Go.RowKit
set_option linter.unusedVariables false
/-- strings of at most m bytes -/
def ShortS (m : Nat) (l : List ByteArray) : Prop := ∀ s ∈ l, s.size ≤ m
theorem ShortS.app {m : Nat} {l : List ByteArray} {s : ByteArray} (h : ShortS m l) (hs : s.size ≤ m) : ShortS m (l ++ [s]) := by
  intro x hx
  rcases List.mem_append.1 hx with h1 | h1
  · exact h x h1
  · obtain rfl : x = s := by simpa using h1
    exact hs
theorem ShortS.at_ {m : Nat} {l : List ByteArray} (h : ShortS m l) {j : Nat} (hj : j < l.length) : (nthS l j).size ≤ m := h _ (by rw [nthS_lt hj]; exact List.getElem_mem hj)
def RetStrs (m k : Nat) (w : World) (e : Ending) (w' : World) : Prop := ∃ l : List ByteArray, (ShortS m l ∧ 1 ≤ l.length ∧ l.length ≤ k) ∧ RetSl 9 1 l.length (strVals l) w e w'
theorem strVals_appP (l : List ByteArray) (s : ByteArray) : strVals (l ++ [s]) = strVals l ++ [.string s] := by simp [strVals]
theorem bld_drewN {T : TypeId} {size : Nat} {w wr : World} {v : Value} {n : Nat} {xs : List Value} (h : Bld T size w wr v n xs) (k : Nat) : Bld T size w (wr.drewN k) v n xs := h.later ⟨rfl, rfl, rfl, Nat.le_refl _, fun _ _ => rfl⟩
set_option maxRecDepth 20000 in
set_option maxHeartbeats 4000000 in
theorem specSplitAny_any (s : ByteArray) (c : UInt8) (w : World) (hs : s.size ≤ 2 ^ 20) :
    Calls Tryz.prog 123 #[.string s, .string ⟨#[c]⟩] w (RetStrs s.size (s.size + 1) w) := by
  have HS := Lib.hid (Bld.empty 9 1 w)
  have hz1 : (⟨#[c]⟩ : ByteArray).size = 1 := rfl
  have hcb := byte_lt c
  go_enter Tryz.func123, Tryz.ntmps123
  go_wp2_with fail
  go_loopw [5, 6, 7] (fun o f i wr => ∃ (j fr : Nat) (l : List ByteArray), (j ≤ s.size ∧ fr ≤ j) ∧ i = .int .i64 (j : Nat) ∧ f = .int .i64 (fr : Nat) ∧ Hid (ShortS s.size l ∧ l.length ≤ j) ∧ Bld 9 1 w wr o l.length (strVals l)) (fun _ _ i _ => s.size - (intOf i).toNat)
  case atStart => exact ⟨0, 0, [], ⟨Nat.zero_le _, Nat.le_refl _⟩, rfl, rfl, Lib.hid ⟨(fun x hx => by simp at hx), Nat.le_refl _⟩, HS.out⟩
  case round =>
    clear HS
    obtain ⟨j, fr, l, ⟨hj, hfr⟩, rfl, rfl, hl, hbd⟩ := hrel
    obtain ⟨a3, c3, rfl⟩ := owns_form hbd.1
    have hl2 := hl.out.2
    have HB := Lib.hid hbd
    clear hbd
    by_cases hlt : j < s.size
    · have hji : (j : Int) < (s.size : Int) := by omega
      go_wp2_with fail
      generalize hW : wr = wr0 at *; clear hW
      go_loopw [5, 6, 8] (fun o f k wr => ∃ i : Nat, i ≤ 1 ∧ o = .slice a3 l.length c3 ∧ f = .int .i64 (fr : Nat) ∧ k = .int .i64 (i : Nat) ∧ Hid (Bld 9 1 w wr (.slice a3 l.length c3) l.length (strVals l))) (fun _ _ k _ => 1 - (intOf k).toNat)
      case atStart => exact ⟨0, by omega, rfl, rfl, rfl, HB⟩
      case round =>
        clear HB
        obtain ⟨i, hi, rfl, rfl, rfl, HB⟩ := hrel
        by_cases hi0 : i = 0
        · subst hi0
          have HD : Hid (∀ n, Bld 9 1 w (wr.drewN n) (.slice a3 l.length c3) l.length (strVals l)) := Lib.hid (fun n => bld_drewN HB.out n)
          cases hq : ((s[j]'hlt).toNat : Int) == ((((⟨#[c]⟩ : ByteArray)[0]'(Nat.zero_lt_one)).toNat : Nat) : Int)
          · go_wp2_with fail
            go_quiet (fail)
            go_wp2_with fail
            go_roundw
            case rel => exact ⟨1, by omega, rfl, rfl, by go_num, Lib.hid (HD.out _)⟩
            case measure => simp [intOf]; try omega
          · have F : Hid (∀ x, x.size ≤ s.size → (ShortS s.size (l ++ [x]) ∧ (l ++ [x]).length ≤ j + 1)) := Lib.hid (fun x hx => ⟨hl.out.1.app hx, by simp; omega⟩)
            have hxs : (s.extract fr j).size ≤ s.size := by rw [ByteArray.size_extract]; omega
            go_wp2_with fail
            go_quiet (fail)
            go_wp2_with (at_builtin; refine wpList_app1 rfl _ _ rfl Tryz.underlying48 Tryz.infoStr rfl (by decide) rfl (HD.out nq) rfl rfl ?c1 ?c2 ?c3 ?c4)
            case c1 => simp [Value.oneCell']
            case c2 => unfold maxLen; omega
            case c3 => omega
            intro v2 w4 hb2
            have F2 : Hid (Bld 9 1 w w4 v2 (l ++ [s.extract fr j]).length (strVals (l ++ [s.extract fr j]))) := Lib.hid (by rw [strVals_appP, List.length_append]; exact hb2)
            clear hb2
            go_wp2_with fail
            go_roundw
            case rel => exact ⟨j + 1, j + 1, _, ⟨by omega, by omega⟩, by go_num, by go_num, Lib.hid (F.out _ hxs), F2.out⟩
            case measure => simp [intOf]; omega
        · obtain rfl : i = 1 := by omega
          go_wp2_with fail
          go_roundw
          case rel => exact ⟨j + 1, fr, l, ⟨by omega, by omega⟩, by go_num, rfl, Lib.hid ⟨hl.out.1, by omega⟩, HB.out⟩
          case measure => simp [intOf]; omega
    · obtain rfl : j = s.size := by omega
      have F : Hid (∀ x, x.size ≤ s.size → (ShortS s.size (l ++ [x]) ∧ 1 ≤ (l ++ [x]).length ∧ (l ++ [x]).length ≤ s.size + 1)) := Lib.hid (fun x hx => ⟨hl.out.1.app hx, by simp, by simp; omega⟩)
      have hxs : (s.extract fr s.size).size ≤ s.size := by rw [ByteArray.size_extract]; omega
      go_wp2_with (at_builtin; refine wpList_app1 rfl _ _ rfl Tryz.underlying48 Tryz.infoStr rfl (by decide) rfl HB.out rfl rfl ?a1 ?a2 ?a3 ?a4)
      case a1 => simp [Value.oneCell']
      case a2 => unfold maxLen; omega
      case a3 => omega
      intro v2 w4 hb2
      have F2 : Hid (RetStrs s.size (s.size + 1) w (.returned v2) w4) := Lib.hid ⟨_, F.out _ hxs, by rw [strVals_appP, List.length_append]; exact hb2.ret⟩
      clear hb2
      go_wp2_with fail
      go_ret
      exact F2.out
end Go.Proofs.YtgoeadgpbidgiaaGreatDoor
namespace Go.Proofs.YtgoeadgpbidgiaaGreatDoor
open Go.RowKit
set_option linter.unusedVariables false
def hitB (s : ByteArray) (c : UInt8) (i : Nat) : Bool := if h : i < s.size then s[i] == c else false
/-- the parts of the first i bytes, and where the last one begins -/
def spT (s : ByteArray) (c : UInt8) : Nat → List ByteArray × Nat
  | 0 => ([], 0)
  | i + 1 => if hitB s c i then ((spT s c i).1 ++ [s.extract (spT s c i).2 i], i + 1) else spT s c i
def splitB (s : ByteArray) (c : UInt8) : List ByteArray := (spT s c s.size).1 ++ [s.extract (spT s c s.size).2 s.size]
theorem spT_le (s : ByteArray) (c : UInt8) : ∀ i, (spT s c i).2 ≤ i ∧ (spT s c i).1.length ≤ i
  | 0 => ⟨Nat.le_refl _, Nat.le_refl _⟩
  | i + 1 => by
    have := spT_le s c i
    unfold spT
    split
    · simp; omega
    · omega
theorem spT_hit {s : ByteArray} {c : UInt8} {i fr : Nat} {l : List ByteArray} (h : spT s c i = (l, fr)) (hc : hitB s c i = true) : spT s c (i + 1) = (l ++ [s.extract fr i], i + 1) := by
  rw [spT, if_pos hc, h]
theorem spT_no {s : ByteArray} {c : UInt8} {i fr : Nat} {l : List ByteArray} (h : spT s c i = (l, fr)) (hc : hitB s c i = false) : spT s c (i + 1) = (l, fr) := by
  rw [spT, if_neg (by rw [hc]; exact Bool.noConfusion), h]
theorem hitB_eq {s : ByteArray} {c : UInt8} {i : Nat} (h : i < s.size) {b : Bool} (hq : (((s[i]'h).toNat : Int) == ((((⟨#[c]⟩ : ByteArray)[0]'(Nat.zero_lt_one)).toNat : Nat) : Int)) = b) : hitB s c i = b := by
  have e : ((⟨#[c]⟩ : ByteArray)[0]'(Nat.zero_lt_one)) = c := rfl
  rw [e] at hq
  unfold hitB
  rw [dif_pos h, ← hq]
  rw [Bool.eq_iff_iff, beq_iff_eq, beq_iff_eq]
  constructor
  · intro e; rw [e]
  · intro e; exact UInt8.toNat_inj.1 (by omega)
theorem split_done {s : ByteArray} {c : UInt8} {fr : Nat} {l : List ByteArray} (h : spT s c s.size = (l, fr)) : splitB s c = l ++ [s.extract fr s.size] := by unfold splitB; rw [h]
set_option maxRecDepth 20000 in
set_option maxHeartbeats 4000000 in
theorem specSplitAny_x (s : ByteArray) (c : UInt8) (w : World) (hs : s.size ≤ 2 ^ 20) :
    Calls Tryz.prog 123 #[.string s, .string ⟨#[c]⟩] w (RetSl 9 1 (splitB s c).length (strVals (splitB s c)) w) := by
  have HS := Lib.hid (Bld.empty 9 1 w)
  have hz1 : (⟨#[c]⟩ : ByteArray).size = 1 := rfl
  have hcb := byte_lt c
  go_enter Tryz.func123, Tryz.ntmps123
  go_wp2_with fail
  go_loopw [5, 6, 7] (fun o f i wr => ∃ (j fr : Nat) (l : List ByteArray), j ≤ s.size ∧ i = .int .i64 (j : Nat) ∧ f = .int .i64 (fr : Nat) ∧ Hid (spT s c j = (l, fr)) ∧ Bld 9 1 w wr o l.length (strVals l)) (fun _ _ i _ => s.size - (intOf i).toNat)
  case atStart => exact ⟨0, 0, [], Nat.zero_le _, rfl, rfl, Lib.hid rfl, HS.out⟩
  case round =>
    clear HS
    obtain ⟨j, fr, l, hj, rfl, rfl, hl, hbd⟩ := hrel
    obtain ⟨a3, c3, rfl⟩ := owns_form hbd.1
    have hfr : fr ≤ j := by have := (spT_le s c j).1; rw [hl.out] at this; exact this
    have hl2 : l.length ≤ j := by have := (spT_le s c j).2; rw [hl.out] at this; exact this
    have HB := Lib.hid hbd
    clear hbd
    by_cases hlt : j < s.size
    · have hji : (j : Int) < (s.size : Int) := by omega
      go_wp2_with fail
      generalize hW : wr = wr0 at *; clear hW
      go_loopw [5, 6, 8] (fun o f k wr => ∃ i : Nat, i ≤ 1 ∧ o = .slice a3 l.length c3 ∧ f = .int .i64 (fr : Nat) ∧ k = .int .i64 (i : Nat) ∧ Hid (i = 1 → hitB s c j = false) ∧ Hid (Bld 9 1 w wr (.slice a3 l.length c3) l.length (strVals l))) (fun _ _ k _ => 1 - (intOf k).toNat)
      case atStart => exact ⟨0, by omega, rfl, rfl, rfl, Lib.hid (fun h => absurd h (by decide)), HB⟩
      case round =>
        clear HB
        obtain ⟨i, hi, rfl, rfl, rfl, HH, HB⟩ := hrel
        by_cases hi0 : i = 0
        · subst hi0
          have HD : Hid (∀ n, Bld 9 1 w (wr.drewN n) (.slice a3 l.length c3) l.length (strVals l)) := Lib.hid (fun n => bld_drewN HB.out n)
          cases hq : ((s[j]'hlt).toNat : Int) == ((((⟨#[c]⟩ : ByteArray)[0]'(Nat.zero_lt_one)).toNat : Nat) : Int)
          · have HN : Hid (hitB s c j = false) := Lib.hid (hitB_eq hlt hq)
            go_wp2_with fail
            go_quiet (fail)
            go_wp2_with fail
            go_roundw
            case rel => exact ⟨1, by omega, rfl, rfl, by go_num, Lib.hid (fun _ => HN.out), Lib.hid (HD.out _)⟩
            case measure => simp [intOf]; try omega
          · have HN : Hid (spT s c (j + 1) = (l ++ [s.extract fr j], j + 1)) := Lib.hid (spT_hit hl.out (hitB_eq hlt hq))
            have hxs : (s.extract fr j).size ≤ s.size := by rw [ByteArray.size_extract]; omega
            go_wp2_with fail
            go_quiet (fail)
            go_wp2_with (at_builtin; refine wpList_app1 rfl _ _ rfl Tryz.underlying48 Tryz.infoStr rfl (by decide) rfl (HD.out nq) rfl rfl ?c1 ?c2 ?c3 ?c4)
            case c1 => simp [Value.oneCell']
            case c2 => unfold maxLen; omega
            case c3 => omega
            intro v2 w4 hb2
            have F2 : Hid (Bld 9 1 w w4 v2 (l ++ [s.extract fr j]).length (strVals (l ++ [s.extract fr j]))) := Lib.hid (by rw [strVals_appP, List.length_append]; exact hb2)
            clear hb2
            go_wp2_with fail
            go_roundw
            case rel => exact ⟨j + 1, j + 1, _, by omega, by go_num, by go_num, HN, F2.out⟩
            case measure => simp [intOf]; omega
        · obtain rfl : i = 1 := by omega
          have HN : Hid (spT s c (j + 1) = (l, fr)) := Lib.hid (spT_no hl.out (HH.out rfl))
          go_wp2_with fail
          go_roundw
          case rel => exact ⟨j + 1, fr, l, by omega, by go_num, rfl, HN, HB.out⟩
          case measure => simp [intOf]; omega
    · obtain rfl : j = s.size := by omega
      have F : Hid (splitB s c = l ++ [s.extract fr s.size]) := Lib.hid (split_done hl.out)
      have hxs : (s.extract fr s.size).size ≤ s.size := by rw [ByteArray.size_extract]; omega
      go_wp2_with (at_builtin; refine wpList_app1 rfl _ _ rfl Tryz.underlying48 Tryz.infoStr rfl (by decide) rfl HB.out rfl rfl ?a1 ?a2 ?a3 ?a4)
      case a1 => simp [Value.oneCell']
      case a2 => unfold maxLen; omega
      case a3 => omega
      intro v2 w4 hb2
      have F2 : Hid (RetSl 9 1 (splitB s c).length (strVals (splitB s c)) w (.returned v2) w4) := Lib.hid (by rw [F.out, strVals_appP, List.length_append]; exact hb2.ret)
      clear hb2
      go_wp2_with fail
      go_ret
      exact F2.out
end Go.Proofs.YtgoeadgpbidgiaaGreatDoor
