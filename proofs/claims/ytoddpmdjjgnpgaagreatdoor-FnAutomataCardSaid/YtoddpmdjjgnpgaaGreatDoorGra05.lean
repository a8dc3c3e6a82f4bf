/-
  The reference's IsDigits and ParseInt, coarsely.
-/
import Derived.Test.YtoddpmdjjgnpgaaGreatDoorGra03
import Derived.Test.YtoddpmdjjgnpgaaGreatDoorGra01
import Derived.Lib.Itoa
import Derived.Lib.ItoaNum
import Derived.Laws.BytesArg
import Derived.Deep.RegionWith
import Derived.Deep.QuietTactic
import Derived.Test.YtoddpmdjjgnpgaaGreatDoorGra04
import Derived.Deep.DeepCutAuto
import Derived.BigQuiet
namespace Go.Proofs.YtoddpmdjjgnpgaaGreatDoor
open Go.RowKit
set_option linter.unusedVariables false
/-- a text of one byte -/
def oneB (x : Int) : ByteArray := ⟨#[UInt8.ofNat x.toNat]⟩
theorem conv_one (w : World) (x : Int) :
    (convert 22 9 (.slice (some ⟨w.heap.size, 0, none⟩) 1 1)).run Tryz.prog (w.alloc (.cells #[.int .u8 x] 5)) = .ok (.string (oneB x)) (w.alloc (.cells #[.int .u8 x] 5)) :=
  run_convert_bytes_arg (P := Tryz.prog) (w.alloc (.cells #[.int .u8 x] 5)) 22 5 Tryz.underlying22 Tryz.underlying5 w.heap.size 0 1 1 [x] rfl (fun i hi => by
    obtain rfl : i = 0 := by omega
    simp) 9 Tryz.underlying9
theorem conv_at (w : World) (g : Nat) (x : Int) (h : w.cell? ⟨g, 0, none⟩ = some (.int .u8 x)) :
    (convert 22 9 (.slice (some ⟨g, 0, none⟩) 1 1)).run Tryz.prog w = .ok (.string (oneB x)) w :=
  run_convert_bytes_arg (P := Tryz.prog) w 22 5 Tryz.underlying22 Tryz.underlying5 g 0 1 1 [x] rfl (fun i hi => by
    obtain rfl : i = 0 := by omega
    exact h) 9 Tryz.underlying9
theorem conv_drew (w : World) (x : Int) :
    (convert 22 9 (.slice (some ⟨w.heap.size, 0, none⟩) 1 1)).run Tryz.prog (w.alloc (.cells #[.int .u8 x] 5)).drew = .ok (.string (oneB x)) (w.alloc (.cells #[.int .u8 x] 5)).drew := conv_at _ _ _ (by simp)
theorem last_digit (m : Nat) : oneB (IntKind.u8.wrap (IntKind.i64.wrap (48 + (m : Int).tmod 10))) = ⟨#[UInt8.ofNat (48 + m % 10)]⟩ := by
  have h1 : (m : Int).tmod 10 = ((m % 10 : Nat) : Int) := by rw [Int.tmod_eq_emod_of_nonneg (by omega)]; simp
  have h2 : IntKind.i64.wrap (48 + ((m % 10 : Nat) : Int)) = ((48 + m % 10 : Nat) : Int) := by
    simp [IntKind.wrap, IntKind.signed, IntKind.bits]; omega
  have h3 : IntKind.u8.wrap ((48 + m % 10 : Nat) : Int) = ((48 + m % 10 : Nat) : Int) := by
    simp [IntKind.wrap, IntKind.signed, IntKind.bits]; omega
  rw [h1, h2, h3]; rfl
theorem wrap_id {x : Int} (h0 : -9223372036854775808 ≤ x) (h1 : x ≤ 9223372036854775807) : IntKind.i64.wrap x = x := by
  simp [IntKind.wrap, IntKind.signed, IntKind.bits]; omega
theorem oneB_size (x : Int) : (oneB x).size = 1 := rfl
theorem oneB_app (x : Int) (t : List UInt8) : oneB x ++ ⟨t.toArray⟩ = ⟨(UInt8.ofNat x.toNat :: t).toArray⟩ := by ext1; simp [oneB]
theorem nDigits_le : ∀ (k n : Nat), n < 10 ^ (k + 1) → Lib.nDigits n ≤ k + 1
  | 0, n, h => by rw [Lib.nDigits_small (by omega)]; omega
  | k + 1, n, h => by
    by_cases h1 : n < 10
    · rw [Lib.nDigits_small h1]; omega
    · rw [Lib.nDigits_big h1]
      have := nDigits_le k (n / 10) (by rw [Nat.pow_succ] at h; omega)
      omega
theorem decDigits_len {n : Nat} (h : n ≤ 9223372036854775808) : (Lib.decDigits n).length ≤ 20 := by
  rw [Lib.decDigits_length]; exact nDigits_le 19 n (by omega)
theorem decDigits_big {k : Nat} (h : 9 < k) : Lib.decDigits k = Lib.decDigits (k / 10) ++ [UInt8.ofNat (48 + k % 10)] := by
  rw [Lib.decDigits, dif_neg (by omega)]
theorem decDigits_small {u : Nat} (h : u < 10) : Lib.decDigits u = [UInt8.ofNat (48 + u)] := Lib.decDigits_one h
theorem itoa_nat (n : Nat) : Lib.itoa (n : Int) = Lib.decDigits n := by unfold Lib.itoa; rw [if_neg (by omega)]; rfl
theorem itoa_neg {n : Nat} (h : 1 ≤ n) : Lib.itoa (-(n : Int)) = 45 :: Lib.decDigits n := by unfold Lib.itoa; rw [if_pos (by omega)]; simp
set_option maxRecDepth 20000 in
set_option maxHeartbeats 800000 in
theorem fmtIntNat_any (n : Nat) (w : World) (hn : n ≤ 9223372036854775807) :
    Calls Tryz.prog 174 #[.int .i64 n] w fun e w' => e = .returned (.string ⟨(Lib.itoa n).toArray⟩) ∧ Below w.heap.size w w' := by
  have kc := conv_one
  go_enter Tryz.func174, Tryz.ntmps174
  go_wp2_with fail
  go_loopw [0, 3] (fun v s wr => ∃ (k : Nat) (t : List UInt8), v = .int .i64 k ∧ s = .string ⟨t.toArray⟩ ∧ k ≤ n ∧ Lib.decDigits n = Lib.decDigits k ++ t ∧ t.length ≤ 20 ∧ Below w.heap.size w wr) (fun v _ _ => (intOf v).toNat)
  case atStart => exact ⟨n, [], rfl, rfl, Nat.le_refl _, by simp, by simp, Below.refl _ _⟩
  case round =>
    obtain ⟨k, t, rfl, rfl, hk, hd, ht, hbw⟩ := hrel
    have HD := Lib.hid hd
    have hdl := decDigits_len (n := n) (by omega)
    have hos := oneB_size
    rw [hd, List.length_append] at hdl
    clear hd ht
    by_cases hlt : 9 < k
    · have hb := decDigits_big hlt
      have hl1 : (Lib.decDigits k).length = (Lib.decDigits (k / 10)).length + 1 := by rw [hb]; simp
      have HB := Lib.hid hb
      clear hb
      go_wp2_with fail
      go_roundw
      case rel =>
        refine ⟨k / 10, UInt8.ofNat (48 + k % 10) :: t, by simp, ?_, by omega, ?_, ?_, hbw.alloc hbw.size _⟩
        · rw [oneB_app, show (48 + (k : Int) % 10).toNat = 48 + k % 10 by omega]
        · rw [HD.out, HB.out]; simp
        · simp; omega
      case measure => simp [intOf]; omega
    · have hb := decDigits_small (u := k) (by omega)
      have F : Hid (oneB (48 + (k : Int)) ++ ⟨t.toArray⟩ = ⟨(Lib.itoa n).toArray⟩) := Lib.hid (by
        rw [oneB_app, itoa_nat, HD.out, hb, show (48 + (k : Int)).toNat = 48 + k by omega]; rfl)
      clear hb
      go_wp2_with fail
      go_ret
      exact ⟨ret_str F.out, hbw.alloc hbw.size _⟩
set_option maxRecDepth 20000 in
set_option maxHeartbeats 800000 in
theorem fmtIntNeg_any : ∀ (N m : Nat) (w : World), m ≤ N → 1 ≤ m → m ≤ 9223372036854775808 →
    Calls Tryz.prog 174 #[.int .i64 (-(m : Int))] w fun e w' => e = .returned (.string ⟨(Lib.itoa (-(m : Int))).toArray⟩) ∧ Below w.heap.size w w'
  | 0, m, w, h, h1, _ => by omega
  | N + 1, m, w, h, h1, hm => by
    have kc := conv_one
    have hos := oneB_size
    have hdl := decDigits_len (n := m) hm
    by_cases hlt : m < 10
    · have hq : Int.tdiv (-(m : Int)) 10 = 0 := by rw [Int.neg_tdiv]; simp; omega
      have F : Hid ((⟨#[45]⟩ : ByteArray) ++ oneB (48 + (m : Int)) = ⟨(Lib.itoa (-(m : Int))).toArray⟩) := Lib.hid (by
        rw [itoa_neg h1, decDigits_small hlt, show (48 + (m : Int)) = ((48 + m : Nat) : Int) by simp]; rfl)
      go_enter Tryz.func174, Tryz.ntmps174
      go_wp2_with fail
      go_ret
      exact ⟨ret_str F.out, (Below.refl _ _).alloc (Nat.le_refl _) _⟩
    · have hih : ∀ w, Calls Tryz.prog 174 #[.int .i64 (-((m : Int) / 10))] w fun e w' => e = .returned (.string ⟨(45 :: Lib.decDigits (m / 10)).toArray⟩) ∧ Below w.heap.size w w' := fun w => by
        have := fmtIntNeg_any N (m / 10) w (by omega) (by omega) (by omega)
        rw [itoa_neg (by omega)] at this
        simpa using this
      have HIH := fun w => Lib.hid (hih w)
      have hl10 := decDigits_len (n := m / 10) (by omega)
      have kd := conv_drew
      have F : Hid ((⟨(45 :: Lib.decDigits (m / 10)).toArray⟩ : ByteArray) ++ oneB (IntKind.u8.wrap (IntKind.i64.wrap (48 + (m : Int).tmod 10))) = ⟨(Lib.itoa (-(m : Int))).toArray⟩) := Lib.hid (by
        rw [last_digit, itoa_neg h1, decDigits_big (k := m) (by omega)]; ext1; simp)
      have F2 : Hid ((⟨(45 :: Lib.decDigits (m / 10)).toArray⟩ : ByteArray) ++ oneB (48 + (m : Int) % 10) = ⟨(Lib.itoa (-(m : Int))).toArray⟩) := Lib.hid (by
        rw [show oneB (48 + (m : Int) % 10) = ⟨#[UInt8.ofNat (48 + m % 10)]⟩ by unfold oneB; rw [show (48 + (m : Int) % 10).toNat = 48 + m % 10 by omega], itoa_neg h1, decDigits_big (k := m) (by omega)]; ext1; simp)
      have hl11 : ¬ 9223372036854775807 < (Lib.decDigits (m / 10)).length + 1 + 1 := by omega
      clear hih
      go_enter Tryz.func174, Tryz.ntmps174
      go_wp2_with fail
      go_region_with (go_at_call 174; rw [wrap_id (by omega) (by omega)]; refine (HIH _).out.mono ?_; rintro e w2 ⟨rfl, hb2⟩; (try have kc2 := conv_at w2 w.heap.size _ ((hb2.cell (by simp)).trans (by simp; rfl))); have hk : Below w.heap.size w w2 := Below.now (by repeat (first | exact Below.refl _ _ | refine Below.drew ?_ | refine Below.alloc ?_ (by simp; try omega) _)) hb2; clear hb2)
      all_goals
        go_wp2_with fail
        go_ret
        exact ⟨ret_str (by first | exact F.out | exact F2.out), by repeat (first | exact hk | refine Below.drew ?_ | refine Below.alloc ?_ (by have := hk.size; simp; try omega) _)⟩
theorem specFormatInt_any (n : Int) (w : World) (h0 : -9223372036854775808 ≤ n) (h1 : n ≤ 9223372036854775807) :
    Calls Tryz.prog 174 #[.int .i64 n] w fun e w' => e = .returned (.string ⟨(Lib.itoa n).toArray⟩) ∧ Below w.heap.size w w' := by
  by_cases h : 0 ≤ n
  · obtain ⟨k, rfl⟩ : ∃ k : Nat, n = (k : Int) := ⟨n.toNat, by omega⟩
    exact fmtIntNat_any k w (by omega)
  · obtain ⟨k, rfl⟩ : ∃ k : Nat, n = -(k : Int) := ⟨(-n).toNat, by omega⟩
    exact fmtIntNeg_any k k w (Nat.le_refl _) (by omega) (by omega)
end Go.Proofs.YtoddpmdjjgnpgaaGreatDoor
namespace Go.Proofs.YtoddpmdjjgnpgaaGreatDoor
open Go.RowKit Go.ChangeShapes Go.WideShapes Go.ChangeAt Go.Joins Go.Deep
set_option linter.unusedVariables false
theorem Tryz.infoRule : (Tryz.prog.info? 120).map (fun i => (i.zero, i.size, i.bytes)) = some (some (.agg #[.string ⟨#[]⟩, .string ⟨#[]⟩]), 2, 32) := by kernel_rfl
end Go.Proofs.YtoddpmdjjgnpgaaGreatDoor
namespace Go.Proofs.YtoddpmdjjgnpgaaGreatDoor
open Go.RowKit
set_option linter.unusedVariables false
/-- the number at a place of a list -/
def nthZ (l : List Int) (i : Nat) : Int := l.getD i 0
/-- the product of two elements -/
def tm (m : Nat) (ln : List Nat) (i k : Nat) : Nat := ln.getD (i * m + k) 0
def asc (m : Nat) (ln : List Nat) (i j k : Nat) : Bool := decide (tm m ln (tm m ln i j) k = tm m ln i (tm m ln j k))
def idn (m : Nat) (ln : List Nat) (i : Nat) : Bool := decide (tm m ln 0 i = i) && decide (tm m ln i 0 = i)
def ascRow (m : Nat) (ln : List Nat) (i j : Nat) : Bool := (List.range m).all (asc m ln i j)
def rowOk (m : Nat) (ln : List Nat) (i : Nat) : Bool := idn m ln i && (List.range m).all (ascRow m ln i)
def rowsOk (m : Nat) (ln : List Nat) : Bool := (List.range m).all (rowOk m ln)
/-- the numbers lie in range -/
def rngB (n : Int) (l : List Int) : Bool := l.all fun x => inB x 0 (n - 1)
/-- TableOk as a function of plain data -/
def tabB (n : Int) (l : List Int) : Bool := inB n 1 40 && (decide ((l.length : Int) = n * n) && (rngB n l && rowsOk n.toNat (l.map Int.toNat)))
/-- a table whose numbers lie in range -/
structure Tb (m : Nat) (ln : List Nat) : Prop where
  lo : 1 ≤ m
  hi : m ≤ 40
  len : ln.length = m * m
  rng : ∀ x ∈ ln, x < m
/-- a valid table -/
structure TabOk (m : Nat) (ln : List Nat) : Prop extends Tb m ln where
  left : ∀ i, i < m → tm m ln 0 i = i
  right : ∀ i, i < m → tm m ln i 0 = i
  assoc : ∀ i j k, i < m → j < m → k < m → tm m ln (tm m ln i j) k = tm m ln i (tm m ln j k)
theorem ix_lt {m i k : Nat} (hi : i < m) (hk : k < m) : i * m + k < m * m := by
  have := Nat.mul_le_mul_right m (show i + 1 ≤ m from hi)
  rw [Nat.add_mul] at this
  omega
/-- a slice of natural numbers -/
def NatsIn (w : World) (a : Option Addr) (ln : List Nat) : Prop := IntsIn w a (ln.map Int.ofNat)
theorem NatsIn.later {w w' : World} {a : Option Addr} {l : List Nat} (h : NatsIn w a l) (hb : Below w.heap.size w w') : NatsIn w' a l := IntsIn.later h hb
/-- the cells of a table's products -/
theorem Tb.cell {m : Nat} {ln : List Nat} (h : Tb m ln) {w : World} {a : Option Addr} (hn : NatsIn w a ln) :
    ∃ b off, a = some ⟨b, off, none⟩ ∧ b < w.heap.size ∧ ∀ i k, i < m → k < m → w.cell? ⟨b, off + (i * m + k), none⟩ = some (.int .i64 (tm m ln i k : Nat)) := by
  have h0 : 0 * m + 0 < m * m := ix_lt h.lo h.lo
  obtain ⟨b, off, ha, hc⟩ := IntsIn.at hn (i := 0) (by simp [h.len]; omega)
  have key : ∀ i k, i < m → k < m → w.cell? ⟨b, off + (i * m + k), none⟩ = some (.int .i64 (tm m ln i k : Nat)) := by
    intro i k hi hk
    have hlt : i * m + k < ln.length := by rw [h.len]; exact ix_lt hi hk
    rw [hc _ (by simpa using hlt)]
    simp [tm, List.getD_eq_getElem?_getD, hlt]
  exact ⟨b, off, ha, World.block_lt_of_cell? w _ (key 0 0 h.lo h.lo), key⟩
theorem all_range {m : Nat} {p : Nat → Bool} : (List.range m).all p = true ↔ ∀ i, i < m → p i = true := by simp
theorem nthZ_lt {l : List Int} {j : Nat} (h : j < l.length) : nthZ l j = l[j] := by simp [nthZ, List.getD_eq_getElem?_getD, h]
theorem IntsIn.cell {w : World} {a : Option Addr} {l : List Int} (h : IntsIn w a l) {i : Nat} (hi : i < l.length) :
    ∃ b off, a = some ⟨b, off, none⟩ ∧ b < w.heap.size ∧ ∀ j, j < l.length → w.cell? ⟨b, off + j, none⟩ = some (.int .i64 (nthZ l j)) := by
  obtain ⟨b, off, ha, hc⟩ := h.at hi
  exact ⟨b, off, ha, World.block_lt_of_cell? w _ (hc i hi), hc⟩
theorem tabB_rows {m : Nat} {ln : List Nat} {b : Bool} (h : Tb m ln) (hr : rowsOk m ln = b) : tabB m (ln.map Int.ofNat) = b := by
  have h1 : inB (m : Int) 1 40 = true := by have := h.lo; have := h.hi; simp [inB]; omega
  have h2 : ((ln.map Int.ofNat).length : Int) = (m : Int) * m := by simp [h.len]
  have h3 : rngB (m : Int) (ln.map Int.ofNat) = true := by
    unfold rngB
    rw [List.all_eq_true]
    intro x hx
    obtain ⟨y, hy, rfl⟩ := List.mem_map.1 hx
    have := h.rng y hy
    simp [inB]; omega
  have h4 : (ln.map Int.ofNat).map Int.toNat = ln := by rw [List.map_map]; exact List.map_id'' (fun x => rfl) ln
  simp [tabB, h1, h3, h4, hr, h.len]
end Go.Proofs.YtoddpmdjjgnpgaaGreatDoor
namespace Go.Proofs.YtoddpmdjjgnpgaaGreatDoor
open Go.RowKit Go.ChangeShapes Go.WideShapes Go.ChangeAt
set_option linter.unusedVariables false
end Go.Proofs.YtoddpmdjjgnpgaaGreatDoor
namespace Go.Proofs.YtoddpmdjjgnpgaaGreatDoor
open Go.RowKit
set_option linter.unusedVariables false
/-- the library's table of powers of ten lies where it was laid -/
def Tab10 (w : World) : Prop := Lib.TabIs Tryz.prog w "internal/strconv.uint64pow10" .u64 Lib.pow10Tab
theorem Tab10.later {w w' : World} (h : Tab10 w) (hb : Below w.heap.size w w') : Tab10 w' := by
  have hg : Tryz.prog.globalNamed "internal/strconv.uint64pow10" = some 5 := by kernel_rfl
  unfold Tab10 Lib.TabIs World.var? at h ⊢
  rw [hg] at h ⊢
  simp only [Option.bind_some] at h ⊢
  have hlt : 5 < w.heap.size := by
    rcases Nat.lt_or_ge 5 w.heap.size with h' | h'
    · exact h'
    · rw [Array.getElem?_eq_none h'] at h; simp at h
  rw [hb.block _ hlt]
  exact h
theorem below_grow (w : World) (q : Nat) (os : Array Obj) : Below w.heap.size w (Go.Sort.grow (w.drewN q) os) := below_wide w ⟨w.drawn + q, os⟩
/-- the numeral of an integer -/
def numB (n : Int) : ByteArray := ⟨(Lib.itoa n).toArray⟩
set_option maxHeartbeats 400000 in
theorem implFormatInt_any (n : Int) (w : World) (h0 : -9223372036854775808 ≤ n) (h1 : n ≤ 9223372036854775807) (ht : Tab10 w) :
    Calls Tryz.prog 72 #[.int .i64 n] w fun e w' => e = .returned (.string (numB n)) ∧ Below w.heap.size w w' := by
  have HC := Lib.hid (Tryz.strconv_Itoa n h0 h1 w ht)
  clear ht
  go_enter Tryz.func72, Tryz.ntmps72
  go_wp2_with fail
  refine HC.out.mono ?_
  rintro e w2 ⟨rfl, k, os, rfl⟩
  have hb := below_grow w k os
  generalize Go.Sort.grow (w.drewN k) os = w2 at *
  go_wp2_with fail
  go_ret
  exact ⟨rfl, hb⟩
theorem itoa_len {n : Int} (h0 : -9223372036854775808 ≤ n) (h1 : n ≤ 9223372036854775807) : (numB n).size ≤ 21 := by
  show (Lib.itoa n).toArray.size ≤ 21
  rw [List.size_toArray]
  unfold Lib.itoa
  split
  · have := decDigits_len (n := n.natAbs) (by omega); simp; omega
  · have := decDigits_len (n := n.toNat) (by omega); omega
end Go.Proofs.YtoddpmdjjgnpgaaGreatDoor
namespace Go.Proofs.YtoddpmdjjgnpgaaGreatDoor
open Go.RowKit
set_option linter.unusedVariables false
/-- the text of a rule, of rules -/
def ruleT (r : RulD) : ByteArray := dotB r.1 ++ ⟨#[62]⟩ ++ dotB r.2
def rulesT (s : ByteArray) (R : List RulD) : Nat → ByteArray
  | 0 => s
  | j + 1 => rulesT s R j ++ ⟨#[32]⟩ ++ ruleT (nthR R j)
theorem ruleT_size (r : RulD) : (ruleT r).size ≤ r.1.size + r.2.size + 3 := by
  have h1 := dotB_size r.1
  have h2 := dotB_size r.2
  unfold ruleT
  rw [ByteArray.size_append, ByteArray.size_append]
  have : (⟨#[62]⟩ : ByteArray).size = 1 := rfl
  omega
set_option maxRecDepth 20000 in
set_option maxHeartbeats 1000000 in
theorem specFormatRule_any (x y : ByteArray) (w : World) (hx : x.size + y.size + 3 ≤ maxLen) :
    Calls Tryz.prog 175 #[.agg #[.string x, .string y]] w fun e w' => e = .returned (.string (ruleT (x, y))) ∧ Below w.heap.size w w' := by
  have h1 := dotB_size x
  have h2 := dotB_size y
  unfold maxLen at hx
  have P1 := Lib.hid (fun W => l03Side_any x W)
  have P2 := Lib.hid (fun W => l03Side_any y W)
  have HR : Hid (ruleT (x, y) = dotB x ++ ⟨#[62]⟩ ++ dotB y) := Lib.hid rfl
  generalize ruleT (x, y) = rt at *
  generalize dotB x = a at *
  generalize dotB y = b at *
  have c1 : ¬ 9223372036854775807 < a.size + 1 := by omega
  have c3 : ¬ 9223372036854775807 < a.size + 1 + b.size := by omega
  go_enter Tryz.func175, Tryz.ntmps175
  go_wp2_with fail
  obtain ⟨w0, hw0⟩ : ∃ w0, w0 = (w.alloc (.cells #[.string x, .string y] 120)) := ⟨_, rfl⟩
  have HX : Hid (Below w.heap.size w w0) := Lib.hid (by rw [hw0]; exact (Below.refl _ _).alloc (Nat.le_refl _) _)
  have hx0 : ∀ W, Below w0.heap.size w0 W → W.cell? ⟨w.heap.size, 0, none⟩ = some (.string x) := fun W hW => by rw [hW.cell (by rw [hw0]; simp), hw0]; simp
  have hx1 : ∀ W, Below w0.heap.size w0 W → W.cell? ⟨w.heap.size, 1, none⟩ = some (.string y) := fun W hW => by rw [hW.cell (by rw [hw0]; simp), hw0]; simp
  rw [← hw0]
  clear hw0
  have q0 : ∀ x, (wide w0 x).cell? ⟨w.heap.size, 0, none⟩ = some _ := wide_cell (hx0 _ (Below.refl _ _))
  have q1 : ∀ x, (wide w0 x).cell? ⟨w.heap.size, 1, none⟩ = some _ := wide_cell (hx1 _ (Below.refl _ _))
  clear hx0 hx1
  refine region_wide (by kernel_rfl) (by kernel_rfl) ?_
  repeat (quiet_step (first
    | (go_at_call 177; refine (P1.out _).mono ?_; rintro e w2 ⟨rfl, rfl⟩; exact ⟨rfl, _, rfl⟩)
    | (go_at_call 177; refine (P2.out _).mono ?_; rintro e w2 ⟨rfl, rfl⟩; exact ⟨rfl, _, rfl⟩)))
  refine wpQuiet_nil ?_
  rintro w4 ⟨x4, rfl⟩
  have hend := Below.now HX.out (below_wide w0 x4)
  clear q0 q1
  go_wp2_with fail
  go_ret
  exact ⟨ret_str HR.out.symm, hend⟩
theorem rulesT_size {s : ByteArray} {k : Int} {R : List RulD} (h : rulesP k R) : ∀ j, j ≤ R.length → (rulesT s R j).size ≤ s.size + j * 20
  | 0, _ => by simp [rulesT]
  | j + 1, hj => by
    have ih := rulesT_size (s := s) h j (by omega)
    have h1 := ruleT_size (nthR R j)
    have h2 := (h.2 _ (nthR_mem (show j < R.length by omega))).1.2
    rw [rulesT, ByteArray.size_append, ByteArray.size_append]
    have : (⟨#[32]⟩ : ByteArray).size = 1 := rfl
    omega
/-- the text of a system -/
def sysT (k : Int) (R : List RulD) : ByteArray := rulesT (numB k) R R.length
open Classical in
noncomputable def sysT0 (k : Int) (R : List RulD) : ByteArray := if rulesP k R then sysT k R else ⟨#[]⟩
set_option maxRecDepth 20000 in
set_option maxHeartbeats 2000000 in
theorem specFormatSystem_any (k : Int) (l : List RulD) (a : Option Addr) (cap : Nat) (w : World) (hl : RulesIn w a l) (hlen : l.length ≤ 2 ^ 40) (hz : SzR l) :
    Calls Tryz.prog 135 #[.agg #[.int .i64 k, .slice a l.length cap]] w fun e w' => e = .returned (.string (sysT0 k l)) ∧ Below w.heap.size w w' := by
  have HL := Lib.hid hl
  have HR := Lib.hid (fun W h => specRulesOk_any k l a cap W h hlen hz)
  have HA := Lib.hid (fun o => alloc_belowS w o)
  clear hl hz
  go_enter Tryz.func135, Tryz.ntmps135
  go_wp2_with fail
  refine (HR.out _ (HL.out.later (HA.out _))).mono ?_
  rintro e w2 ⟨bb, hbb, rfl, hb2⟩
  have HBB := Lib.hid hbb
  have hb0 := (hb2.block w.heap.size (by simp)).trans (alloc_at w (.cells #[.int .i64 k, .slice a l.length cap] 25))
  obtain ⟨s0, s1⟩ := sys_cells hb0
  have HW2 := Lib.hid (Below.now (HA.out _) hb2)
  clear hbb hb2 HR
  cases bb
  · have F : Hid (sysT0 k l = ⟨#[]⟩) := Lib.hid (if_neg (fun h => by have := HBB.out.2 h; cases this))
    go_wp2_with fail
    go_ret
    exact ⟨ret_str F.out.symm, HW2.out⟩
  · have HRP := Lib.hid (HBB.out.1 rfl)
    have F : Hid (sysT0 k l = rulesT (numB k) l l.length) := Lib.hid (if_pos HRP.out)
    clear HBB
    have hk1 := HRP.out.1.1
    have hn := itoa_len (n := k) (by omega) (by omega)
    have HF := Lib.hid (fun W => specFormatInt_any k W (by omega) (by omega))
    have HT0 : Hid (numB k = rulesT (numB k) l 0) := Lib.hid rfl
    go_wp2_with fail
    refine (HF.out _).mono ?_
    rintro e w3 ⟨rfl, hb3⟩
    have hb03 := (hb3.block w.heap.size (Array.getElem?_eq_some_iff.1 hb0).1).trans hb0
    obtain ⟨s0, s1⟩ := sys_cells hb03
    have HW3 := Lib.hid (Below.now HW2.out hb3)
    clear hb3 HF hb0
    go_wp2_with fail
    clear s0 s1
    go_loopw [3, 15] (fun s i wr => ∃ j : Nat, j ≤ l.length ∧ i = .int .i64 (j : Nat) ∧ s = .string (rulesT (numB k) l j) ∧ Below w.heap.size w wr) (fun _ i _ => l.length - (intOf i).toNat)
    case atStart => exact ⟨0, Nat.zero_le _, rfl, rfl, HW3.out⟩
    case round =>
      obtain ⟨j, hj, rfl, rfl, hbw⟩ := hrel
      have HBW := Lib.hid hbw
      by_cases hlt : j < l.length
      · obtain ⟨b, off, rfl, hb, hc⟩ := (HL.out.later hbw).cell hlt
        obtain ⟨c1, c2⟩ := hc j hlt
        have hz2 := (HRP.out.2 _ (nthR_mem hlt)).1.2
        have hts := rulesT_size (s := numB k) HRP.out j (by omega)
        have hrs := ruleT_size (nthR l j)
        have h12 := HRP.out.1.2
        have HS : Hid (rulesT (numB k) l (j + 1) = rulesT (numB k) l j ++ ⟨#[32]⟩ ++ ruleT ((nthR l j).1, (nthR l j).2)) := Lib.hid rfl
        have hrs2 : (ruleT ((nthR l j).1, (nthR l j).2)).size ≤ 30 := by
          show (ruleT (nthR l j)).size ≤ 30; omega
        clear hc hbw hrs
        generalize (nthR l j).1 = x at *
        generalize (nthR l j).2 = y at *
        have HFR := Lib.hid (fun W => specFormatRule_any x y W (by unfold maxLen; omega))
        generalize ruleT (x, y) = rt at *
        generalize rulesT (numB k) l j = st at *
        have n1 : ¬ 9223372036854775807 < st.size + 1 := by omega
        have n2 : ¬ 9223372036854775807 < st.size + 1 + rt.size := by omega
        go_wp2_with fail
        refine (HFR.out _).mono ?_
        rintro e w5 ⟨rfl, hb5⟩
        have HB5 := Lib.hid (Below.now ((alloc_belowS wr (.cells #[.string x, .string y] 120))) hb5)
        have HB6 := Lib.hid (Below.now HBW.out HB5.out)
        clear hb5
        go_wp2_with fail
        go_roundw
        case rel => exact ⟨j + 1, by omega, by go_num, by rw [HS.out], HB6.out⟩
        case measure => simp [intOf]; omega
      · obtain rfl : j = l.length := by omega
        go_wp2_with fail
        go_ret
        exact ⟨ret_str F.out.symm, HBW.out⟩
end Go.Proofs.YtoddpmdjjgnpgaaGreatDoor
namespace Go.Proofs.YtoddpmdjjgnpgaaGreatDoor
open Go.RowKit
set_option linter.unusedVariables false
/-- strings of at most m bytes -/
def ShortS (m : Nat) (l : List ByteArray) : Prop := ∀ s ∈ l, s.size ≤ m
theorem ShortS.app {m : Nat} {l : List ByteArray} {s : ByteArray} (h : ShortS m l) (hs : s.size ≤ m) : ShortS m (l ++ [s]) := by
  intro x hx
  rcases List.mem_append.1 hx with h1 | h1
  · exact h x h1
  · obtain rfl : x = s := by simpa using h1
    exact hs
theorem ShortS.at_ {m : Nat} {l : List ByteArray} (h : ShortS m l) {j : Nat} (hj : j < l.length) : (nthS l j).size ≤ m := h _ (by rw [nthS_lt hj]; exact List.getElem_mem hj)
theorem strVals_appP (l : List ByteArray) (s : ByteArray) : strVals (l ++ [s]) = strVals l ++ [.string s] := by simp [strVals]
theorem bld_drewN {T : TypeId} {size : Nat} {w wr : World} {v : Value} {n : Nat} {xs : List Value} (h : Bld T size w wr v n xs) (k : Nat) : Bld T size w (wr.drewN k) v n xs := h.later ⟨rfl, rfl, rfl, Nat.le_refl _, fun _ _ => rfl⟩
end Go.Proofs.YtoddpmdjjgnpgaaGreatDoor
namespace Go.Proofs.YtoddpmdjjgnpgaaGreatDoor
open Go.RowKit
set_option linter.unusedVariables false
def hitB (s : ByteArray) (c : UInt8) (i : Nat) : Bool := if h : i < s.size then s[i] == c else false
/-- the parts of the first i bytes, and where the last one begins -/
def spT (s : ByteArray) (c : UInt8) : Nat → List ByteArray × Nat
  | 0 => ([], 0)
  | i + 1 => if hitB s c i then ((spT s c i).1 ++ [s.extract (spT s c i).2 i], i + 1) else spT s c i
def splitB (s : ByteArray) (c : UInt8) : List ByteArray := (spT s c s.size).1 ++ [s.extract (spT s c s.size).2 s.size]
theorem spT_le (s : ByteArray) (c : UInt8) : ∀ i, (spT s c i).2 ≤ i ∧ (spT s c i).1.length ≤ i
  | 0 => ⟨Nat.le_refl _, Nat.le_refl _⟩
  | i + 1 => by
    have := spT_le s c i
    unfold spT
    split
    · simp; omega
    · omega
theorem spT_hit {s : ByteArray} {c : UInt8} {i fr : Nat} {l : List ByteArray} (h : spT s c i = (l, fr)) (hc : hitB s c i = true) : spT s c (i + 1) = (l ++ [s.extract fr i], i + 1) := by
  rw [spT, if_pos hc, h]
theorem spT_no {s : ByteArray} {c : UInt8} {i fr : Nat} {l : List ByteArray} (h : spT s c i = (l, fr)) (hc : hitB s c i = false) : spT s c (i + 1) = (l, fr) := by
  rw [spT, if_neg (by rw [hc]; exact Bool.noConfusion), h]
theorem hitB_eq {s : ByteArray} {c : UInt8} {i : Nat} (h : i < s.size) {b : Bool} (hq : (((s[i]'h).toNat : Int) == ((((⟨#[c]⟩ : ByteArray)[0]'(Nat.zero_lt_one)).toNat : Nat) : Int)) = b) : hitB s c i = b := by
  have e : ((⟨#[c]⟩ : ByteArray)[0]'(Nat.zero_lt_one)) = c := rfl
  rw [e] at hq
  unfold hitB
  rw [dif_pos h, ← hq]
  rw [Bool.eq_iff_iff, beq_iff_eq, beq_iff_eq]
  constructor
  · intro e; rw [e]
  · intro e; exact UInt8.toNat_inj.1 (by omega)
theorem split_done {s : ByteArray} {c : UInt8} {fr : Nat} {l : List ByteArray} (h : spT s c s.size = (l, fr)) : splitB s c = l ++ [s.extract fr s.size] := by unfold splitB; rw [h]
set_option maxRecDepth 20000 in
set_option maxHeartbeats 4000000 in
theorem specSplitAny_x (s : ByteArray) (c : UInt8) (w : World) (hs : s.size ≤ 2 ^ 20) :
    Calls Tryz.prog 132 #[.string s, .string ⟨#[c]⟩] w (RetSl 9 1 (splitB s c).length (strVals (splitB s c)) w) := by
  have HS := Lib.hid (Bld.empty 9 1 w)
  have hz1 : (⟨#[c]⟩ : ByteArray).size = 1 := rfl
  have hcb := byte_lt c
  go_enter Tryz.func132, Tryz.ntmps132
  go_wp2_with fail
  go_loopw [5, 6, 7] (fun o f i wr => ∃ (j fr : Nat) (l : List ByteArray), j ≤ s.size ∧ i = .int .i64 (j : Nat) ∧ f = .int .i64 (fr : Nat) ∧ Hid (spT s c j = (l, fr)) ∧ Bld 9 1 w wr o l.length (strVals l)) (fun _ _ i _ => s.size - (intOf i).toNat)
  case atStart => exact ⟨0, 0, [], Nat.zero_le _, rfl, rfl, Lib.hid rfl, HS.out⟩
  case round =>
    clear HS
    obtain ⟨j, fr, l, hj, rfl, rfl, hl, hbd⟩ := hrel
    obtain ⟨a3, c3, rfl⟩ := owns_form hbd.1
    have hfr : fr ≤ j := by have := (spT_le s c j).1; rw [hl.out] at this; exact this
    have hl2 : l.length ≤ j := by have := (spT_le s c j).2; rw [hl.out] at this; exact this
    have HB := Lib.hid hbd
    clear hbd
    by_cases hlt : j < s.size
    · have hji : (j : Int) < (s.size : Int) := by omega
      go_wp2_with fail
      generalize hW : wr = wr0 at *; clear hW
      go_loopw [5, 6, 8] (fun o f k wr => ∃ i : Nat, i ≤ 1 ∧ o = .slice a3 l.length c3 ∧ f = .int .i64 (fr : Nat) ∧ k = .int .i64 (i : Nat) ∧ Hid (i = 1 → hitB s c j = false) ∧ Hid (Bld 9 1 w wr (.slice a3 l.length c3) l.length (strVals l))) (fun _ _ k _ => 1 - (intOf k).toNat)
      case atStart => exact ⟨0, by omega, rfl, rfl, rfl, Lib.hid (fun h => absurd h (by decide)), HB⟩
      case round =>
        clear HB
        obtain ⟨i, hi, rfl, rfl, rfl, HH, HB⟩ := hrel
        by_cases hi0 : i = 0
        · subst hi0
          have HD : Hid (∀ n, Bld 9 1 w (wr.drewN n) (.slice a3 l.length c3) l.length (strVals l)) := Lib.hid (fun n => bld_drewN HB.out n)
          cases hq : ((s[j]'hlt).toNat : Int) == ((((⟨#[c]⟩ : ByteArray)[0]'(Nat.zero_lt_one)).toNat : Nat) : Int)
          · have HN : Hid (hitB s c j = false) := Lib.hid (hitB_eq hlt hq)
            go_wp2_with fail
            go_quiet (fail)
            go_wp2_with fail
            go_roundw
            case rel => exact ⟨1, by omega, rfl, rfl, by go_num, Lib.hid (fun _ => HN.out), Lib.hid (HD.out _)⟩
            case measure => simp [intOf]; try omega
          · have HN : Hid (spT s c (j + 1) = (l ++ [s.extract fr j], j + 1)) := Lib.hid (spT_hit hl.out (hitB_eq hlt hq))
            have hxs : (s.extract fr j).size ≤ s.size := by rw [ByteArray.size_extract]; omega
            go_wp2_with fail
            go_quiet (fail)
            go_wp2_with (at_builtin; refine wpList_app1 rfl _ _ rfl Tryz.underlying47 Tryz.infoStr rfl (by decide) rfl (HD.out nq) rfl rfl ?c1 ?c2 ?c3 ?c4)
            case c1 => simp [Value.oneCell']
            case c2 => unfold maxLen; omega
            case c3 => omega
            intro v2 w4 hb2
            have F2 : Hid (Bld 9 1 w w4 v2 (l ++ [s.extract fr j]).length (strVals (l ++ [s.extract fr j]))) := Lib.hid (by rw [strVals_appP, List.length_append]; exact hb2)
            clear hb2
            go_wp2_with fail
            go_roundw
            case rel => exact ⟨j + 1, j + 1, _, by omega, by go_num, by go_num, HN, F2.out⟩
            case measure => simp [intOf]; omega
        · obtain rfl : i = 1 := by omega
          have HN : Hid (spT s c (j + 1) = (l, fr)) := Lib.hid (spT_no hl.out (HH.out rfl))
          go_wp2_with fail
          go_roundw
          case rel => exact ⟨j + 1, fr, l, by omega, by go_num, rfl, HN, HB.out⟩
          case measure => simp [intOf]; omega
    · obtain rfl : j = s.size := by omega
      have F : Hid (splitB s c = l ++ [s.extract fr s.size]) := Lib.hid (split_done hl.out)
      have hxs : (s.extract fr s.size).size ≤ s.size := by rw [ByteArray.size_extract]; omega
      go_wp2_with (at_builtin; refine wpList_app1 rfl _ _ rfl Tryz.underlying47 Tryz.infoStr rfl (by decide) rfl HB.out rfl rfl ?a1 ?a2 ?a3 ?a4)
      case a1 => simp [Value.oneCell']
      case a2 => unfold maxLen; omega
      case a3 => omega
      intro v2 w4 hb2
      have F2 : Hid (RetSl 9 1 (splitB s c).length (strVals (splitB s c)) w (.returned v2) w4) := Lib.hid (by rw [F.out, strVals_appP, List.length_append]; exact hb2.ret)
      clear hb2
      go_wp2_with fail
      go_ret
      exact F2.out
end Go.Proofs.YtoddpmdjjgnpgaaGreatDoor
namespace Go.Proofs.YtoddpmdjjgnpgaaGreatDoor
open Go.RowKit
set_option linter.unusedVariables false
def digP (s : ByteArray) : Prop := ∀ j (h : j < s.size), 48 ≤ ((s[j]'h).toNat : Int) ∧ ((s[j]'h).toNat : Int) ≤ 57
end Go.Proofs.YtoddpmdjjgnpgaaGreatDoor
