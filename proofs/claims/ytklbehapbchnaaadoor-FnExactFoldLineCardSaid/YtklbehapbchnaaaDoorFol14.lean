/-
  The program's order of arcs.
-/
import Derived.Test.YtklbehapbchnaaaDoorFol05
import Derived.Test.YtklbehapbchnaaaDoorFol01
import Derived.Lib.Itoa
import Derived.Lib.ItoaNum
import Derived.Laws.BytesArg
import Derived.Deep.RegionWith
import Derived.Test.YtklbehapbchnaaaDoorFol08
import Derived.Test.YtklbehapbchnaaaDoorFol06
import Derived.Test.YtklbehapbchnaaaDoorFol13
import Derived.Shelf.SlSortCmp.WholeK
import Derived.Ground.SlsfProg
import Derived.Test.YtklbehapbchnaaaDoorProg
import Derived.Test.YtklbehapbchnaaaDoorFol04
import Derived.Sort.OwnSorted
import Derived.Deep.RegionHeld3
namespace Go.Proofs.YtklbehapbchnaaaDoor
open Go.RowKit
set_option linter.unusedVariables false
/-- a text of one byte -/
def oneB (x : Int) : ByteArray := ⟨#[UInt8.ofNat x.toNat]⟩
theorem conv_one (w : World) (x : Int) :
    (convert 71 9 (.slice (some ⟨w.heap.size, 0, none⟩) 1 1)).run Tryd.prog (w.alloc (.cells #[.int .u8 x] 5)) = .ok (.string (oneB x)) (w.alloc (.cells #[.int .u8 x] 5)) :=
  run_convert_bytes_arg (P := Tryd.prog) (w.alloc (.cells #[.int .u8 x] 5)) 71 5 Tryd.underlying71 Tryd.underlying5 w.heap.size 0 1 1 [x] rfl (fun i hi => by
    obtain rfl : i = 0 := by omega
    simp) 9 Tryd.underlying9
theorem conv_at (w : World) (g : Nat) (x : Int) (h : w.cell? ⟨g, 0, none⟩ = some (.int .u8 x)) :
    (convert 71 9 (.slice (some ⟨g, 0, none⟩) 1 1)).run Tryd.prog w = .ok (.string (oneB x)) w :=
  run_convert_bytes_arg (P := Tryd.prog) w 71 5 Tryd.underlying71 Tryd.underlying5 g 0 1 1 [x] rfl (fun i hi => by
    obtain rfl : i = 0 := by omega
    exact h) 9 Tryd.underlying9
theorem conv_drew (w : World) (x : Int) :
    (convert 71 9 (.slice (some ⟨w.heap.size, 0, none⟩) 1 1)).run Tryd.prog (w.alloc (.cells #[.int .u8 x] 5)).drew = .ok (.string (oneB x)) (w.alloc (.cells #[.int .u8 x] 5)).drew := conv_at _ _ _ (by simp)
theorem last_digit (m : Nat) : oneB (IntKind.u8.wrap (IntKind.i64.wrap (48 + (m : Int).tmod 10))) = ⟨#[UInt8.ofNat (48 + m % 10)]⟩ := by
  have h1 : (m : Int).tmod 10 = ((m % 10 : Nat) : Int) := by rw [Int.tmod_eq_emod_of_nonneg (by omega)]; simp
  have h2 : IntKind.i64.wrap (48 + ((m % 10 : Nat) : Int)) = ((48 + m % 10 : Nat) : Int) := by
    simp [IntKind.wrap, IntKind.signed, IntKind.bits]; omega
  have h3 : IntKind.u8.wrap ((48 + m % 10 : Nat) : Int) = ((48 + m % 10 : Nat) : Int) := by
    simp [IntKind.wrap, IntKind.signed, IntKind.bits]; omega
  rw [h1, h2, h3]; rfl
theorem wrap_id {x : Int} (h0 : -9223372036854775808 ≤ x) (h1 : x ≤ 9223372036854775807) : IntKind.i64.wrap x = x := by
  simp [IntKind.wrap, IntKind.signed, IntKind.bits]; omega
theorem oneB_size (x : Int) : (oneB x).size = 1 := rfl
theorem oneB_app (x : Int) (t : List UInt8) : oneB x ++ ⟨t.toArray⟩ = ⟨(UInt8.ofNat x.toNat :: t).toArray⟩ := by ext1; simp [oneB]
theorem nDigits_le : ∀ (k n : Nat), n < 10 ^ (k + 1) → Lib.nDigits n ≤ k + 1
  | 0, n, h => by rw [Lib.nDigits_small (by omega)]; omega
  | k + 1, n, h => by
    by_cases h1 : n < 10
    · rw [Lib.nDigits_small h1]; omega
    · rw [Lib.nDigits_big h1]
      have := nDigits_le k (n / 10) (by rw [Nat.pow_succ] at h; omega)
      omega
theorem decDigits_len {n : Nat} (h : n ≤ 9223372036854775808) : (Lib.decDigits n).length ≤ 20 := by
  rw [Lib.decDigits_length]; exact nDigits_le 19 n (by omega)
theorem decDigits_big {k : Nat} (h : 9 < k) : Lib.decDigits k = Lib.decDigits (k / 10) ++ [UInt8.ofNat (48 + k % 10)] := by
  rw [Lib.decDigits, dif_neg (by omega)]
theorem decDigits_small {u : Nat} (h : u < 10) : Lib.decDigits u = [UInt8.ofNat (48 + u)] := Lib.decDigits_one h
theorem itoa_nat (n : Nat) : Lib.itoa (n : Int) = Lib.decDigits n := by unfold Lib.itoa; rw [if_neg (by omega)]; rfl
theorem itoa_neg {n : Nat} (h : 1 ≤ n) : Lib.itoa (-(n : Int)) = 45 :: Lib.decDigits n := by unfold Lib.itoa; rw [if_pos (by omega)]; simp
set_option maxRecDepth 20000 in
set_option maxHeartbeats 800000 in
theorem fmtIntNat_any (n : Nat) (w : World) (hn : n ≤ 9223372036854775807) :
    Calls Tryd.prog 24 #[.int .i64 n] w fun e w' => e = .returned (.string ⟨(Lib.itoa n).toArray⟩) ∧ Below w.heap.size w w' := by
  have kc := conv_one
  go_enter Tryd.func24, Tryd.ntmps24
  go_wp2_with fail
  go_loopw [0, 3] (fun v s wr => ∃ (k : Nat) (t : List UInt8), v = .int .i64 k ∧ s = .string ⟨t.toArray⟩ ∧ k ≤ n ∧ Lib.decDigits n = Lib.decDigits k ++ t ∧ t.length ≤ 20 ∧ Below w.heap.size w wr) (fun v _ _ => (intOf v).toNat)
  case atStart => exact ⟨n, [], rfl, rfl, Nat.le_refl _, by simp, by simp, Below.refl _ _⟩
  case round =>
    obtain ⟨k, t, rfl, rfl, hk, hd, ht, hbw⟩ := hrel
    have HD := Lib.hid hd
    have hdl := decDigits_len (n := n) (by omega)
    have hos := oneB_size
    rw [hd, List.length_append] at hdl
    clear hd ht
    by_cases hlt : 9 < k
    · have hb := decDigits_big hlt
      have hl1 : (Lib.decDigits k).length = (Lib.decDigits (k / 10)).length + 1 := by rw [hb]; simp
      have HB := Lib.hid hb
      clear hb
      go_wp2_with fail
      go_roundw
      case rel =>
        refine ⟨k / 10, UInt8.ofNat (48 + k % 10) :: t, by simp, ?_, by omega, ?_, ?_, hbw.alloc hbw.size _⟩
        · rw [oneB_app, show (48 + (k : Int) % 10).toNat = 48 + k % 10 by omega]
        · rw [HD.out, HB.out]; simp
        · simp; omega
      case measure => simp [intOf]; omega
    · have hb := decDigits_small (u := k) (by omega)
      have F : Hid (oneB (48 + (k : Int)) ++ ⟨t.toArray⟩ = ⟨(Lib.itoa n).toArray⟩) := Lib.hid (by
        rw [oneB_app, itoa_nat, HD.out, hb, show (48 + (k : Int)).toNat = 48 + k by omega]; rfl)
      clear hb
      go_wp2_with fail
      go_ret
      exact ⟨ret_str F.out, hbw.alloc hbw.size _⟩
set_option maxRecDepth 20000 in
set_option maxHeartbeats 800000 in
theorem fmtIntNeg_any : ∀ (N m : Nat) (w : World), m ≤ N → 1 ≤ m → m ≤ 9223372036854775808 →
    Calls Tryd.prog 24 #[.int .i64 (-(m : Int))] w fun e w' => e = .returned (.string ⟨(Lib.itoa (-(m : Int))).toArray⟩) ∧ Below w.heap.size w w'
  | 0, m, w, h, h1, _ => by omega
  | N + 1, m, w, h, h1, hm => by
    have kc := conv_one
    have hos := oneB_size
    have hdl := decDigits_len (n := m) hm
    by_cases hlt : m < 10
    · have hq : Int.tdiv (-(m : Int)) 10 = 0 := by rw [Int.neg_tdiv]; simp; omega
      have F : Hid ((⟨#[45]⟩ : ByteArray) ++ oneB (48 + (m : Int)) = ⟨(Lib.itoa (-(m : Int))).toArray⟩) := Lib.hid (by
        rw [itoa_neg h1, decDigits_small hlt, show (48 + (m : Int)) = ((48 + m : Nat) : Int) by simp]; rfl)
      go_enter Tryd.func24, Tryd.ntmps24
      go_wp2_with fail
      go_ret
      exact ⟨ret_str F.out, (Below.refl _ _).alloc (Nat.le_refl _) _⟩
    · have hih : ∀ w, Calls Tryd.prog 24 #[.int .i64 (-((m : Int) / 10))] w fun e w' => e = .returned (.string ⟨(45 :: Lib.decDigits (m / 10)).toArray⟩) ∧ Below w.heap.size w w' := fun w => by
        have := fmtIntNeg_any N (m / 10) w (by omega) (by omega) (by omega)
        rw [itoa_neg (by omega)] at this
        simpa using this
      have HIH := fun w => Lib.hid (hih w)
      have hl10 := decDigits_len (n := m / 10) (by omega)
      have kd := conv_drew
      have F : Hid ((⟨(45 :: Lib.decDigits (m / 10)).toArray⟩ : ByteArray) ++ oneB (IntKind.u8.wrap (IntKind.i64.wrap (48 + (m : Int).tmod 10))) = ⟨(Lib.itoa (-(m : Int))).toArray⟩) := Lib.hid (by
        rw [last_digit, itoa_neg h1, decDigits_big (k := m) (by omega)]; ext1; simp)
      have F2 : Hid ((⟨(45 :: Lib.decDigits (m / 10)).toArray⟩ : ByteArray) ++ oneB (48 + (m : Int) % 10) = ⟨(Lib.itoa (-(m : Int))).toArray⟩) := Lib.hid (by
        rw [show oneB (48 + (m : Int) % 10) = ⟨#[UInt8.ofNat (48 + m % 10)]⟩ by unfold oneB; rw [show (48 + (m : Int) % 10).toNat = 48 + m % 10 by omega], itoa_neg h1, decDigits_big (k := m) (by omega)]; ext1; simp)
      have hl11 : ¬ 9223372036854775807 < (Lib.decDigits (m / 10)).length + 1 + 1 := by omega
      clear hih
      go_enter Tryd.func24, Tryd.ntmps24
      go_wp2_with fail
      go_region_with (go_at_call 24; rw [wrap_id (by omega) (by omega)]; refine (HIH _).out.mono ?_; rintro e w2 ⟨rfl, hb2⟩; (try have kc2 := conv_at w2 w.heap.size _ ((hb2.cell (by simp)).trans (by simp; rfl))); have hk : Below w.heap.size w w2 := Below.now (by repeat (first | exact Below.refl _ _ | refine Below.drew ?_ | refine Below.alloc ?_ (by simp; try omega) _)) hb2; clear hb2)
      all_goals
        go_wp2_with fail
        go_ret
        exact ⟨ret_str (by first | exact F.out | exact F2.out), by repeat (first | exact hk | refine Below.drew ?_ | refine Below.alloc ?_ (by have := hk.size; simp; try omega) _)⟩
theorem specFormatInt_any (n : Int) (w : World) (h0 : -9223372036854775808 ≤ n) (h1 : n ≤ 9223372036854775807) :
    Calls Tryd.prog 24 #[.int .i64 n] w fun e w' => e = .returned (.string ⟨(Lib.itoa n).toArray⟩) ∧ Below w.heap.size w w' := by
  by_cases h : 0 ≤ n
  · obtain ⟨k, rfl⟩ : ∃ k : Nat, n = (k : Int) := ⟨n.toNat, by omega⟩
    exact fmtIntNat_any k w (by omega)
  · obtain ⟨k, rfl⟩ : ∃ k : Nat, n = -(k : Int) := ⟨(-n).toNat, by omega⟩
    exact fmtIntNeg_any k k w (Nat.le_refl _) (by omega) (by omega)
end Go.Proofs.YtklbehapbchnaaaDoor
namespace Go.Proofs.YtklbehapbchnaaaDoor
open Go.RowKit Go.ChangeShapes Go.WideShapes Go.ChangeAt
set_option linter.unusedVariables false
end Go.Proofs.YtklbehapbchnaaaDoor
namespace Go.Proofs.YtklbehapbchnaaaDoor
open Go.RowKit
set_option linter.unusedVariables false
/-- the library's table of powers of ten lies where it was laid -/
def Tab10 (w : World) : Prop := Lib.TabIs Tryd.prog w "internal/strconv.uint64pow10" .u64 Lib.pow10Tab
theorem Tab10.later {w w' : World} (h : Tab10 w) (hb : Below w.heap.size w w') : Tab10 w' := by
  have hg : Tryd.prog.globalNamed "internal/strconv.uint64pow10" = some 5 := by kernel_rfl
  unfold Tab10 Lib.TabIs World.var? at h ⊢
  rw [hg] at h ⊢
  simp only [Option.bind_some] at h ⊢
  have hlt : 5 < w.heap.size := by
    rcases Nat.lt_or_ge 5 w.heap.size with h' | h'
    · exact h'
    · rw [Array.getElem?_eq_none h'] at h; simp at h
  rw [hb.block _ hlt]
  exact h
theorem below_grow (w : World) (q : Nat) (os : Array Obj) : Below w.heap.size w (Go.Sort.grow (w.drewN q) os) := below_wide w ⟨w.drawn + q, os⟩
/-- the numeral of an integer -/
def numB (n : Int) : ByteArray := ⟨(Lib.itoa n).toArray⟩
set_option maxHeartbeats 400000 in
theorem implFormatInt_any (n : Int) (w : World) (h0 : -9223372036854775808 ≤ n) (h1 : n ≤ 9223372036854775807) (ht : Tab10 w) :
    Calls Tryd.prog 29 #[.int .i64 n] w fun e w' => e = .returned (.string (numB n)) ∧ Below w.heap.size w w' := by
  have HC := Lib.hid (Tryd.strconv_Itoa n h0 h1 w ht)
  clear ht
  go_enter Tryd.func29, Tryd.ntmps29
  go_wp2_with fail
  refine HC.out.mono ?_
  rintro e w2 ⟨rfl, k, os, rfl⟩
  have hb := below_grow w k os
  generalize Go.Sort.grow (w.drewN k) os = w2 at *
  go_wp2_with fail
  go_ret
  exact ⟨rfl, hb⟩
theorem itoa_len {n : Int} (h0 : -9223372036854775808 ≤ n) (h1 : n ≤ 9223372036854775807) : (numB n).size ≤ 21 := by
  show (Lib.itoa n).toArray.size ≤ 21
  rw [List.size_toArray]
  unfold Lib.itoa
  split
  · have := decDigits_len (n := n.natAbs) (by omega); simp; omega
  · have := decDigits_len (n := n.toNat) (by omega); omega
end Go.Proofs.YtklbehapbchnaaaDoor
namespace Go.Proofs.YtklbehapbchnaaaDoor
open Go.RowKit
set_option linter.unusedVariables false
def rankZ (V : Nat) (M : List Arc3) : Int := (M.length : Int) - (V : Int) + 1
def indexZ (g V : Nat) (M : List Arc3) : Int := if M.length = V * g then (V : Int) else 0
/-- the line: the numerals of its numbers -/
def foldLineF (a b c : ByteArray) : ByteArray := ⟨#[118, 101, 114, 116, 105, 99, 101, 115, 32]⟩ ++ a ++ ⟨#[32, 114, 97, 110, 107, 32]⟩ ++ b ++ ⟨#[32, 105, 110, 100, 101, 120, 32]⟩ ++ c
def FlIs (g : Int) (ws : List ByteArray) (v : ByteArray) : Prop := (∃ n : Nat, g = (n : Int) ∧ OkFW n ws ∧ ∃ V M, FoldR n ws V M ∧ v = foldLineF (numB (V : Int)) (numB (rankZ V M)) (numB (indexZ n V M))) ∨ ((∀ n : Nat, g = (n : Int) → ¬ OkFW n ws) ∧ v = ⟨#[110, 111, 110, 101]⟩)
theorem FlIs.uniq {g : Int} {ws : List ByteArray} {v v' : ByteArray} (a : FlIs g ws v) (b : FlIs g ws v') : v = v' := by
  rcases a with ⟨n, e, ho, V, M, hr, hv⟩ | ⟨hn, hv⟩ <;> rcases b with ⟨n', e', ho', V', M', hr', hv'⟩ | ⟨hn', hv'⟩
  · obtain rfl : n = n' := by omega
    obtain ⟨rfl, rfl⟩ := hr.uniq hr'
    rw [hv, hv']
  · exact absurd ho (hn' n e)
  · exact absurd ho' (hn n' e')
  · rw [hv, hv']
def RetFL (g : Int) (ws : List ByteArray) (w : World) (e : Ending) (w' : World) : Prop := ∃ v, FlIs g ws v ∧ e = .returned (.string v) ∧ Below w.heap.size w w'
theorem rank_rng {g V : Nat} {M : List Arc3} (hf : FokP g V M) (hl : M.length ≤ 96) : -200 ≤ rankZ V M ∧ rankZ V M ≤ 200 := by
  have h1 := hf.v1
  have h2 := hf.v2
  unfold rankZ; omega
theorem index_rng {g V : Nat} {M : List Arc3} (hf : FokP g V M) : -200 ≤ indexZ g V M ∧ indexZ g V M ≤ 200 := by
  have h1 := hf.v1
  have h2 := hf.v2
  unfold indexZ; split <;> omega
set_option maxRecDepth 20000 in
set_option maxHeartbeats 1000000 in
theorem specRankOf_any (g V : Nat) (M : List Arc3) (av : Option Addr) (cap : Nat) (w : World) (hL : ArcsIn w av M) (hcap : M.length ≤ cap) (hl : M.length ≤ 96) (hf : FokP g V M) :
    Calls Tryd.prog 25 #[.agg #[.int .i64 (g : Nat), .int .i64 (V : Nat), .slice av M.length cap]] w fun e w' => e = .returned (.int .i64 (rankZ V M)) ∧ Below w.heap.size w w' := by
  have HB1 := Lib.hid (alloc_belT w (.cells #[.int .i64 ((g : Nat) : Int), .int .i64 ((V : Nat) : Int), .slice av M.length cap] 48))
  have HF1 := Lib.hid (alloc_at w (.cells #[.int .i64 ((g : Nat) : Int), .int .i64 ((V : Nat) : Int), .slice av M.length cap] 48))
  have HFO := Lib.hid (fun W h => specFoldedOk_any g V M av cap W h hcap (by omega) hf)
  have HL1 := Lib.hid (RowsIn.later hL HB1.out)
  have h2 := hf.v2
  have HR : Hid (rankZ V M = (M.length : Int) - (V : Int) + 1) := Lib.hid rfl
  clear hL hf
  go_enter Tryd.func25, Tryd.ntmps25
  go_wp2_with fail
  generalize hW1 : w.alloc (.cells #[.int .i64 ((g : Nat) : Int), .int .i64 ((V : Nat) : Int), .slice av M.length cap] 48) = w1 at *
  clear hW1
  refine (HFO.out _ HL1.out).mono ?_
  rintro e w2 ⟨rfl, hb2⟩
  have HB2 := Lib.hid (Below.now HB1.out hb2)
  obtain ⟨z0, z1, z2, _⟩ := fold_cells ((hb2.block w.heap.size (Array.getElem?_eq_some_iff.1 HF1.out).1).trans HF1.out)
  clear hb2
  go_wp2_with fail
  go_ret
  exact ⟨ret_int HR.out.symm, HB2.out⟩
set_option maxRecDepth 20000 in
set_option maxHeartbeats 1000000 in
theorem specIndexOf_any (g V : Nat) (M : List Arc3) (av : Option Addr) (cap : Nat) (w : World) (hL : ArcsIn w av M) (hcap : M.length ≤ cap) (hl : M.length ≤ 96) (hf : FokP g V M) :
    Calls Tryd.prog 26 #[.agg #[.int .i64 (g : Nat), .int .i64 (V : Nat), .slice av M.length cap]] w fun e w' => e = .returned (.int .i64 (indexZ g V M)) ∧ Below w.heap.size w w' := by
  have HB1 := Lib.hid (alloc_belT w (.cells #[.int .i64 ((g : Nat) : Int), .int .i64 ((V : Nat) : Int), .slice av M.length cap] 48))
  have HF1 := Lib.hid (alloc_at w (.cells #[.int .i64 ((g : Nat) : Int), .int .i64 ((V : Nat) : Int), .slice av M.length cap] 48))
  have HFO := Lib.hid (fun W h => specFoldedOk_any g V M av cap W h hcap (by omega) hf)
  have HL1 := Lib.hid (RowsIn.later hL HB1.out)
  have h2 := hf.v2
  have hg2 := hf.g2
  have hvg : V * g ≤ 192 := by
    have := Nat.mul_le_mul h2 hg2
    omega
  obtain ⟨p, hp⟩ : ∃ p, V * g = p := ⟨_, rfl⟩
  have hmul : (V : Int) * (g : Int) = (p : Int) := by rw [← hp]; exact (Int.natCast_mul V g).symm
  have hwp : IntKind.i64.wrap (p : Int) = (p : Int) := IntWalk.i64_in _ ⟨by omega, by omega⟩
  have HM := Lib.hid hp
  have hp192 : p ≤ 192 := by omega
  clear hL hf hp hvg
  by_cases hq : M.length = p
  · have HR : Hid (indexZ g V M = (V : Int)) := Lib.hid (by unfold indexZ; rw [if_pos (by rw [HM.out]; exact hq)])
    have hn : (((M.length : Nat) : Int) != ((p : Nat) : Int)) = false := by rw [bne_eq_false_iff_eq]; omega
    clear hq
    go_enter Tryd.func26, Tryd.ntmps26
    go_wp2_with fail
    generalize hW1 : w.alloc (.cells #[.int .i64 ((g : Nat) : Int), .int .i64 ((V : Nat) : Int), .slice av M.length cap] 48) = w1 at *
    clear hW1
    refine (HFO.out _ HL1.out).mono ?_
    rintro e w2 ⟨rfl, hb2⟩
    have HB2 := Lib.hid (Below.now HB1.out hb2)
    obtain ⟨z0, z1, z2, _⟩ := fold_cells ((hb2.block w.heap.size (Array.getElem?_eq_some_iff.1 HF1.out).1).trans HF1.out)
    clear hb2
    go_wp2_with fail
    go_ret
    exact ⟨ret_int HR.out.symm, HB2.out⟩
  · have HR : Hid (indexZ g V M = 0) := Lib.hid (by unfold indexZ; rw [if_neg (by rw [HM.out]; exact hq)])
    have hn : (((M.length : Nat) : Int) != ((p : Nat) : Int)) = true := by rw [bne_iff_ne]; omega
    clear hq
    go_enter Tryd.func26, Tryd.ntmps26
    go_wp2_with fail
    generalize hW1 : w.alloc (.cells #[.int .i64 ((g : Nat) : Int), .int .i64 ((V : Nat) : Int), .slice av M.length cap] 48) = w1 at *
    clear hW1
    refine (HFO.out _ HL1.out).mono ?_
    rintro e w2 ⟨rfl, hb2⟩
    have HB2 := Lib.hid (Below.now HB1.out hb2)
    obtain ⟨z0, z1, z2, _⟩ := fold_cells ((hb2.block w.heap.size (Array.getElem?_eq_some_iff.1 HF1.out).1).trans HF1.out)
    clear hb2
    go_wp2_with fail
    go_ret
    exact ⟨ret_int HR.out.symm, HB2.out⟩
set_option maxRecDepth 100000 in
set_option maxHeartbeats 4000000 in
theorem specFoldLine_any (g : Int) (ws : List ByteArray) (a : Option Addr) (cap : Nat) (w : World) (hL : StrsIn w a ws) (hl : ws.length ≤ maxLen) (hz : ∀ j, j < ws.length → (nthS ws j).size ≤ maxLen) :
    Calls Tryd.prog 11 #[.int .i64 g, .slice a ws.length cap] w (RetFL g ws w) := by
  by_cases hex : ∃ n : Nat, g = (n : Int) ∧ OkFW n ws
  · obtain ⟨n, rfl, ho⟩ := hex
    have HY := Lib.hid (specFoldWords_yes n ws a cap w hL hz ho)
    have HO := Lib.hid ho
    clear hL hl hz ho
    go_enter Tryd.func11, Tryd.ntmps11
    go_wp2_with fail
    refine HY.out.mono ?_
    rintro e w2 ⟨V, M, av, c, rfl, hA, hc, hR, hb2⟩
    have hfk := hR.fok HO.out
    have hml := hR.len HO.out
    obtain ⟨r1, r2⟩ := rank_rng hfk hml
    obtain ⟨r3, r4⟩ := index_rng hfk
    have hv2 := hfk.v2
    have HF : Hid (∀ W, Below w2.heap.size w2 W → RetFL (n : Int) ws w (.returned (.string (foldLineF (numB (V : Int)) (numB (rankZ V M)) (numB (indexZ n V M))))) W) := Lib.hid (fun W hW => ⟨_, .inl ⟨n, rfl, HO.out, V, M, hR, rfl⟩, rfl, Below.now hb2 hW⟩)
    have HA := Lib.hid hA
    have hal := alloc_belT w2 (.cells #[.int .i64 ((n : Nat) : Int), .int .i64 ((V : Nat) : Int), .slice av M.length c] 48)
    have HBX := Lib.hid (alloc_at w2 (.cells #[.int .i64 ((n : Nat) : Int), .int .i64 ((V : Nat) : Int), .slice av M.length c] 48))
    have HAL := Lib.hid hal
    have HRK := Lib.hid (fun W (h : ArcsIn W av M) => specRankOf_any n V M av c W h hc hml hfk)
    have HIX := Lib.hid (fun W (h : ArcsIn W av M) => specIndexOf_any n V M av c W h hc hml hfk)
    have l1 := itoa_len (n := (V : Int)) (by omega) (by omega)
    have l2 := itoa_len (n := rankZ V M) (by omega) (by omega)
    have l3 := itoa_len (n := indexZ n V M) (by omega) (by omega)
    have HFA : Hid (∀ W, Calls Tryd.prog 24 #[.int .i64 (V : Nat)] W fun e w' => e = .returned (.string (numB (V : Int))) ∧ Below W.heap.size W w') := Lib.hid (fun W => specFormatInt_any _ W (by omega) (by omega))
    have HFB : Hid (∀ W, Calls Tryd.prog 24 #[.int .i64 (rankZ V M)] W fun e w' => e = .returned (.string (numB (rankZ V M))) ∧ Below W.heap.size W w') := Lib.hid (fun W => specFormatInt_any _ W (by omega) (by omega))
    have HFC : Hid (∀ W, Calls Tryd.prog 24 #[.int .i64 (indexZ n V M)] W fun e w' => e = .returned (.string (numB (indexZ n V M))) ∧ Below W.heap.size W w') := Lib.hid (fun W => specFormatInt_any _ W (by omega) (by omega))
    clear hA hc hR hb2 hfk r1 r2 r3 r4 hal
    unfold foldLineF at HF
    go_wp2_with fail
    generalize hw3 : w2.alloc (.cells #[.int .i64 ((n : Nat) : Int), .int .i64 ((V : Nat) : Int), .slice av M.length c] 48) = w3 at *
    clear hw3
    have HX : Hid (∀ W, Below w3.heap.size w3 W → W.cell? ⟨w2.heap.size, 0, none⟩ = some (.int .i64 ((n : Nat) : Int)) ∧ W.cell? ⟨w2.heap.size, 1, none⟩ = some (.int .i64 ((V : Nat) : Int)) ∧ W.cell? ⟨w2.heap.size, 2, none⟩ = some (.slice av M.length c)) := Lib.hid (fun W hW => by
      obtain ⟨h0, h1, h2, _⟩ := fold_cells ((hW.block w2.heap.size (Array.getElem?_eq_some_iff.1 HBX.out).1).trans HBX.out)
      exact ⟨h0, h1, h2⟩)
    have HA3 : Hid (∀ W, Below w3.heap.size w3 W → ArcsIn W av M) := Lib.hid (fun W hW => RowsIn.later HA.out (Below.now HAL.out hW))
    generalize numB (V : Int) = A1 at *
    generalize numB (rankZ V M) = A2 at *
    generalize numB (indexZ n V M) = A3 at *
    generalize rankZ V M = rz at *
    generalize indexZ n V M = iz at *
    have y1 : ¬ 9223372036854775807 < 9 + A1.size := by omega
    have y2 : ¬ 9223372036854775807 < 9 + A1.size + 6 := by omega
    have y3 : ¬ 9223372036854775807 < 9 + A1.size + 6 + A2.size := by omega
    have y4 : ¬ 9223372036854775807 < 9 + A1.size + 6 + A2.size + 7 := by omega
    have y5 : ¬ 9223372036854775807 < 9 + A1.size + 6 + A2.size + 7 + A3.size := by omega
    have kr := Below.refl w3.heap.size w3
    obtain ⟨q0, q1, q2⟩ := HX.out w3 kr
    go_region_held3 (fun w' => w'.cell? ⟨w2.heap.size, 0, none⟩ = some (.int .i64 ((n : Nat) : Int)) ∧ w'.cell? ⟨w2.heap.size, 1, none⟩ = some (.int .i64 ((V : Nat) : Int)) ∧ w'.cell? ⟨w2.heap.size, 2, none⟩ = some (.slice av M.length c)) (go_keep) (first
      | (go_at_call 24; (first | (with_reducible refine (HFA.out _).mono ?_) | (with_reducible refine (HFB.out _).mono ?_) | (with_reducible refine (HFC.out _).mono ?_)); rintro e w5 ⟨rfl, hb5⟩; replace kr : Below w3.heap.size w3 w5 := Below.now (by repeat (first | exact kr | refine Below.drew ?_ | refine below_drewN ?_ _)) hb5; have t0 := (HX.out w5 kr).1; have t1 := (HX.out w5 kr).2.1; have t2 := (HX.out w5 kr).2.2; clear hb5)
      | (go_at_call 25; refine (HRK.out _ (HA3.out _ (by repeat (first | exact kr | refine Below.drew ?_ | refine below_drewN ?_ _)))).mono ?_; rintro e w5 ⟨rfl, hb5⟩; replace kr : Below w3.heap.size w3 w5 := Below.now (by repeat (first | exact kr | refine Below.drew ?_ | refine below_drewN ?_ _)) hb5; have t0 := (HX.out w5 kr).1; have t1 := (HX.out w5 kr).2.1; have t2 := (HX.out w5 kr).2.2; clear hb5)
      | (go_at_call 26; refine (HIX.out _ (HA3.out _ (by repeat (first | exact kr | refine Below.drew ?_ | refine below_drewN ?_ _)))).mono ?_; rintro e w5 ⟨rfl, hb5⟩; replace kr : Below w3.heap.size w3 w5 := Below.now (by repeat (first | exact kr | refine Below.drew ?_ | refine below_drewN ?_ _)) hb5; have t0 := (HX.out w5 kr).1; have t1 := (HX.out w5 kr).2.1; have t2 := (HX.out w5 kr).2.2; clear hb5))
    all_goals
      go_wp2_with fail
      go_ret
      exact HF.out _ (Below.now HAL.out kr)
  · have hno : ∀ n : Nat, g = (n : Int) → ¬ OkFW n ws := fun n e ho => hex ⟨n, e, ho⟩
    have HN := Lib.hid (specFoldWords_no g ws a cap w hL hl hz hno)
    have HF : Hid (∀ W, Below w.heap.size w W → RetFL g ws w (.returned (.string ⟨#[110, 111, 110, 101]⟩)) W) := Lib.hid (fun W hW => ⟨_, .inr ⟨hno, rfl⟩, rfl, hW⟩)
    unfold noFold at HN
    clear hL hl hz hex hno
    go_enter Tryd.func11, Tryd.ntmps11
    go_wp2_with fail
    refine HN.out.mono ?_
    rintro e w2 ⟨rfl, hb2⟩
    have HB2 := Lib.hid (Below.now hb2 (alloc_belT w2 (.cells #[.int .i64 0, .int .i64 0, .slice none 0 0] 48)))
    clear hb2
    go_wp2_with fail
    go_ret
    exact HF.out _ HB2.out
end Go.Proofs.YtklbehapbchnaaaDoor
namespace Go.Proofs
open Go.Shelf
def Tryd.sortA_ren : Go.Shelf.Ren := ⟨fun | 6 => 50 | 15 => 71 | 14 => 70 | 28 => 100 | 29 => 101 | 20 => 92 | 21 => 93 | 22 => 94 | 23 => 95 | 24 => 96 | 25 => 97 | 26 => 98 | 27 => 99 | 46 => 112 | 47 => 113 | 48 => 114 | 49 => 115 | 50 => 116 | 57 => 125 | n => n, fun | 22 => 46 | 24 => 66 | 25 => 80 | 3 => 3 | 39 => 92 | 0 => 0 | 53 => 119 | 55 => 121 | 4 => 4 | 46 => 113 | 45 => 112 | 50 => 35 | 5 => 5 | 9 => 9 | 66 => 136 | 70 => 140 | 76 => 153 | 77 => 154 | n => n, fun | n => n⟩
theorem Tryd.sortA : Go.Proofs.SlLaysF0.n6 Tryd.prog Tryd.sortA_ren := {
  mixed := by kernel_rfl
  f6 := ⟨Tryd.f50.name, by decide, Tryd.func50.trans (congrArg some (by kernel_rfl))⟩
  f14 := ⟨Tryd.f70.name, by decide, Tryd.func70.trans (congrArg some (by kernel_rfl))⟩
  f15 := Tryd.func71.trans (congrArg some (by kernel_rfl))
  f20 := ⟨Tryd.f92.name, by decide, Tryd.func92.trans (congrArg some (by kernel_rfl))⟩
  f21 := ⟨Tryd.f93.name, by decide, Tryd.func93.trans (congrArg some (by kernel_rfl))⟩
  f22 := ⟨Tryd.f94.name, by decide, Tryd.func94.trans (congrArg some (by kernel_rfl))⟩
  f23 := ⟨Tryd.f95.name, by decide, Tryd.func95.trans (congrArg some (by kernel_rfl))⟩
  f24 := ⟨Tryd.f96.name, by decide, Tryd.func96.trans (congrArg some (by kernel_rfl))⟩
  f25 := ⟨Tryd.f97.name, by decide, Tryd.func97.trans (congrArg some (by kernel_rfl))⟩
  f26 := ⟨Tryd.f98.name, by decide, Tryd.func98.trans (congrArg some (by kernel_rfl))⟩
  f27 := ⟨Tryd.f99.name, by decide, Tryd.func99.trans (congrArg some (by kernel_rfl))⟩
  f28 := Tryd.func100.trans (congrArg some (by kernel_rfl))
  f29 := Tryd.func101.trans (congrArg some (by kernel_rfl))
  f46 := ⟨Tryd.f112.name, by decide, Tryd.func112.trans (congrArg some (by kernel_rfl))⟩
  f47 := Tryd.func113.trans (congrArg some (by kernel_rfl))
  f48 := Tryd.func114.trans (congrArg some (by kernel_rfl))
  f49 := ⟨Tryd.f115.name, by decide, Tryd.func115.trans (congrArg some (by kernel_rfl))⟩
  f50 := ⟨Tryd.f116.name, by decide, Tryd.func116.trans (congrArg some (by kernel_rfl))⟩
  f57 := ⟨Tryd.f125.name, by decide, Tryd.func125.trans (congrArg some (by kernel_rfl))⟩
  t0 := Tryd.underlying0
  a0 := Tryd.isAgg0
  z0 := Tryd.sizeOf0
  v0 := Tryd.zeroValue0
  t3 := Tryd.underlying3
  a3 := Tryd.isAgg3
  z3 := Tryd.sizeOf3
  v3 := Tryd.zeroValue3
  t4 := Tryd.underlying4
  a4 := Tryd.isAgg4
  z4 := Tryd.sizeOf4
  v4 := Tryd.zeroValue4
  t5 := Tryd.underlying5
  a5 := Tryd.isAgg5
  z5 := Tryd.sizeOf5
  v5 := Tryd.zeroValue5
  t9 := Tryd.underlying9
  a9 := Tryd.isAgg9
  z9 := Tryd.sizeOf9
  v9 := Tryd.zeroValue9
  t22 := Tryd.underlying46
  a22 := Tryd.isAgg46
  z22 := Tryd.sizeOf46
  v22 := Tryd.zeroValue46
  t25 := Tryd.underlying80
  a25 := Tryd.isAgg80
  z25 := Tryd.sizeOf80
  v25 := Tryd.zeroValue80
  t39 := Tryd.underlying92
  a39 := Tryd.isAgg92
  z39 := Tryd.sizeOf92
  v39 := Tryd.zeroValue92
  t45 := Tryd.underlying112
  a45 := Tryd.isAgg112
  z45 := Tryd.sizeOf112
  v45 := Tryd.zeroValue112
  t46 := Tryd.underlying113
  a46 := Tryd.isAgg113
  z46 := Tryd.sizeOf113
  v46 := Tryd.zeroValue113
  t50 := Tryd.underlying35
  a50 := Tryd.isAgg35
  z50 := Tryd.sizeOf35
  v50 := Tryd.zeroValue35
  t53 := Tryd.underlying119
  a53 := Tryd.isAgg119
  z53 := Tryd.sizeOf119
  v53 := Tryd.zeroValue119
  t55 := Tryd.underlying121
  a55 := Tryd.isAgg121
  z55 := Tryd.sizeOf121
  v55 := Tryd.zeroValue121
  t66 := Tryd.underlying136
  a66 := Tryd.isAgg136
  z66 := Tryd.sizeOf136
  v66 := Tryd.zeroValue136
  t70 := Tryd.underlying140
  a70 := Tryd.isAgg140
  z70 := Tryd.sizeOf140
  v70 := Tryd.zeroValue140
  t76 := Tryd.underlying153
  a76 := Tryd.isAgg153
  z76 := Tryd.sizeOf153
  v76 := Tryd.zeroValue153
  t77 := Tryd.underlying154
  a77 := Tryd.isAgg154
  z77 := Tryd.sizeOf154
  v77 := Tryd.zeroValue154 }
end Go.Proofs
namespace Go.Proofs.YtklbehapbchnaaaDoor
open Go.RowKit Go.Sort
set_option linter.unusedVariables false
/-- cmp.Or at three integers -/
def or3 (x y z : Int) : Int := if (x == 0) = true then (if (y == 0) = true then z else y) else x
/-- compareArcs -/
def cfA (a b : Arc3) : Int := or3 (Lib.compareInt (a.1 : Int) (b.1 : Int)) (Lib.compareInt (a.2.2 : Int) (b.2.2 : Int)) (Lib.compareInt (a.2.1 : Int) (b.2.1 : Int))
set_option maxHeartbeats 400000 in
theorem or3_any (x y z : Int) (b cap : Nat) (w : World) (h0 : w.cell? ⟨b, 0, none⟩ = some (.int .i64 x)) (h1 : w.cell? ⟨b, 1, none⟩ = some (.int .i64 y)) (h2 : w.cell? ⟨b, 2, none⟩ = some (.int .i64 z)) :
    Calls Tryd.prog 72 #[.slice (some ⟨b, 0, none⟩) 3 cap] w fun e w' => e = .returned (.int .i64 (or3 x y z)) ∧ w = w' := by
  go_enter Tryd.func72, Tryd.ntmps72
  go_wp2_with fail
  go_loop [8] (fun i => ∃ j : Nat, j ≤ 3 ∧ i = .int .i64 (j : Nat) ∧ Hid (0 < j → x = 0) ∧ Hid (1 < j → y = 0) ∧ Hid (2 < j → z = 0)) (fun i => 3 - (intOf i).toNat)
  case atStart => exact ⟨0, Nat.zero_le _, rfl, Lib.hid (by omega), Lib.hid (by omega), Lib.hid (by omega)⟩
  case round =>
    obtain ⟨j, hj, rfl, hx, hy, hz⟩ := hrel
    rcases (show j = 0 ∨ j = 1 ∨ j = 2 ∨ j = 3 by omega) with h | h | h | h
    · subst h
      cases hq : (x == 0)
      · have hn : (x != 0) = true := by rw [bne, hq]; rfl
        have F : Hid (or3 x y z = x) := Lib.hid (by unfold or3; rw [hq]; rfl)
        go_wp2_with fail
        go_ret
        exact ⟨ret_int F.out.symm, rfl⟩
      · have hn : (x != 0) = false := by rw [bne, hq]; rfl
        have hx2 : Hid (x = 0) := Lib.hid (by simpa using hq)
        go_wp2_with fail
        go_round
        case rel => exact ⟨1, by omega, by go_num, Lib.hid (fun _ => hx2.out), Lib.hid (by omega), Lib.hid (by omega)⟩
        case measure => simp [intOf]
    · subst h
      cases hq : (y == 0)
      · have hn : (y != 0) = true := by rw [bne, hq]; rfl
        have F : Hid (or3 x y z = y) := Lib.hid (by unfold or3; rw [hx.out (by omega), hq]; rfl)
        go_wp2_with fail
        go_ret
        exact ⟨ret_int F.out.symm, rfl⟩
      · have hn : (y != 0) = false := by rw [bne, hq]; rfl
        have hy2 : Hid (y = 0) := Lib.hid (by simpa using hq)
        go_wp2_with fail
        go_round
        case rel => exact ⟨2, by omega, by go_num, Lib.hid (fun _ => hx.out (by omega)), Lib.hid (fun _ => hy2.out), Lib.hid (by omega)⟩
        case measure => simp [intOf]
    · subst h
      have hx2 : Hid (or3 x y z = z) := Lib.hid (by unfold or3; rw [hx.out (by omega), hy.out (by omega)]; rfl)
      cases hq : (z == 0)
      · have hn : (z != 0) = true := by rw [bne, hq]; rfl
        go_wp2_with fail
        go_ret
        exact ⟨ret_int hx2.out.symm, rfl⟩
      · have hn : (z != 0) = false := by rw [bne, hq]; rfl
        have hz2 : Hid (z = 0) := Lib.hid (by simpa using hq)
        go_wp2_with fail
        go_round
        case rel => exact ⟨3, by omega, by go_num, Lib.hid (fun _ => hx.out (by omega)), Lib.hid (fun _ => hy.out (by omega)), Lib.hid (fun _ => hz2.out)⟩
        case measure => simp [intOf]
    · subst h
      have F : Hid ((or3 x y z) = 0) := Lib.hid (by unfold or3; rw [hx.out (by omega), hy.out (by omega), hz.out (by omega)]; rfl)
      go_wp2_with fail
      go_ret
      exact ⟨ret_int F.out.symm, rfl⟩
theorem ltOf_cfA (a b : Arc3) : ltOf cfA a b = ltA a b := by
  obtain ⟨a1, a2, a3⟩ := a
  obtain ⟨b1, b2, b3⟩ := b
  rw [Bool.eq_iff_iff, ltA_iff]
  unfold ltOf cfA or3 Lib.compareInt
  simp only []
  rcases Nat.lt_trichotomy a1 b1 with h1 | h1 | h1 <;> rcases Nat.lt_trichotomy a3 b3 with h3 | h3 | h3 <;> rcases Nat.lt_trichotomy a2 b2 with h2 | h2 | h2 <;> simp [h1, h2, h3, Nat.not_lt_of_lt, Nat.ne_of_gt, Nat.ne_of_lt, Nat.lt_irrefl] <;> omega
theorem ltOf_cfA' : ltOf cfA = ltA := by funext a b; exact ltOf_cfA a b
/-- draws and new blocks alone -/
def Grew (w w' : World) : Prop := ∃ q os, w' = grow (w.drewN q) os
theorem Grew.refl (w : World) : Grew w w := ⟨0, #[], by simp [grow, World.drewN]⟩
theorem Grew.alloc {w w' : World} (h : Grew w w') (o : Obj) : Grew w (w'.alloc o) := by
  obtain ⟨q, os, rfl⟩ := h
  exact ⟨q, os ++ #[o], by rw [alloc_eq_grow, grow_grow]⟩
theorem Grew.drewN {w w' : World} (h : Grew w w') (n : Nat) : Grew w (w'.drewN n) := by
  obtain ⟨q, os, rfl⟩ := h
  exact ⟨q + n, os, by simp [grow, World.drewN, Nat.add_assoc]⟩
theorem Grew.drew {w w' : World} (h : Grew w w') : Grew w w'.drew := h.drewN 1
set_option maxRecDepth 20000 in
set_option maxHeartbeats 1000000 in
theorem compareArcs_any (a b : Arc3) (w : World) :
    Calls Tryd.prog 51 #[.agg #[.int .i64 ((a.1 : Nat) : Int), .int .i64 ((a.2.1 : Nat) : Int), .int .i64 ((a.2.2 : Nat) : Int)], .agg #[.int .i64 ((b.1 : Nat) : Int), .int .i64 ((b.2.1 : Nat) : Int), .int .i64 ((b.2.2 : Nat) : Int)]] w fun e w' => e = .returned (.int .i64 (cfA a b)) ∧ Grew w w' := by
  obtain ⟨a1, a2, a3⟩ := a
  obtain ⟨b1, b2, b3⟩ := b
  simp only []
  have F : Hid (cfA (a1, a2, a3) (b1, b2, b3) = or3 (Lib.compareInt (a1 : Int) (b1 : Int)) (Lib.compareInt (a3 : Int) (b3 : Int)) (Lib.compareInt (a2 : Int) (b2 : Int))) := Lib.hid rfl
  have H1 := Lib.hid (fun W => Tryd.cmp_Compare_int (a1 : Int) (b1 : Int) W)
  have H2 := Lib.hid (fun W => Tryd.cmp_Compare_int (a3 : Int) (b3 : Int) W)
  have H3 := Lib.hid (fun W => Tryd.cmp_Compare_int (a2 : Int) (b2 : Int) W)
  generalize Lib.compareInt (a1 : Int) (b1 : Int) = x at *
  generalize Lib.compareInt (a3 : Int) (b3 : Int) = y at *
  generalize Lib.compareInt (a2 : Int) (b2 : Int) = z at *
  have HG : Hid (∀ o1 o2, Grew w ((w.alloc o1).alloc o2)) := Lib.hid (fun o1 o2 => ((Grew.refl w).alloc o1).alloc o2)
  go_enter Tryd.func51, Tryd.ntmps51
  go_upto_region 1 with fail
  have p0 := HG.out (.cells #[.int .i64 ((a1 : Nat) : Int), .int .i64 ((a2 : Nat) : Int), .int .i64 ((a3 : Nat) : Int)] 66) (.cells #[.int .i64 ((b1 : Nat) : Int), .int .i64 ((b2 : Nat) : Int), .int .i64 ((b3 : Nat) : Int)] 66)
  have HP0 := Lib.hid p0
  obtain ⟨w2, hw2⟩ : ∃ w2, (w.alloc (.cells #[.int .i64 ((a1 : Nat) : Int), .int .i64 ((a2 : Nat) : Int), .int .i64 ((a3 : Nat) : Int)] 66)).alloc (.cells #[.int .i64 ((b1 : Nat) : Int), .int .i64 ((b2 : Nat) : Int), .int .i64 ((b3 : Nat) : Int)] 66) = w2 := ⟨_, rfl⟩
  have c0 : w2.cell? ⟨w.heap.size, 0, none⟩ = some (.int .i64 ((a1 : Nat) : Int)) := by rw [← hw2]; simp
  have c1 : w2.cell? ⟨w.heap.size, 1, none⟩ = some (.int .i64 ((a2 : Nat) : Int)) := by rw [← hw2]; simp
  have c2 : w2.cell? ⟨w.heap.size, 2, none⟩ = some (.int .i64 ((a3 : Nat) : Int)) := by rw [← hw2]; simp
  have d0 : w2.cell? ⟨w.heap.size + 1, 0, none⟩ = some (.int .i64 ((b1 : Nat) : Int)) := by rw [← hw2]; simp
  have d1 : w2.cell? ⟨w.heap.size + 1, 1, none⟩ = some (.int .i64 ((b2 : Nat) : Int)) := by rw [← hw2]; simp
  have d2 : w2.cell? ⟨w.heap.size + 1, 2, none⟩ = some (.int .i64 ((b3 : Nat) : Int)) := by rw [← hw2]; simp
  rw [hw2] at HP0 ⊢
  clear hw2 p0 HG
  have H4 : Hid (Calls Tryd.prog 72 #[.slice (some ⟨w2.heap.size, 0, none⟩) 3 3] (w2.alloc (.cells #[.int .i64 x, .int .i64 y, .int .i64 z] 3)).drew fun e w' => e = .returned (.int .i64 (or3 x y z)) ∧ (w2.alloc (.cells #[.int .i64 x, .int .i64 y, .int .i64 z] 3)).drew = w') := Lib.hid (or3_any x y z _ _ _ (by simp [World.cell?_alloc_new]) (by simp [World.cell?_alloc_new]) (by simp [World.cell?_alloc_new]))
  go_region_held3 (fun w' => w'.cell? ⟨w.heap.size, 0, none⟩ = some (.int .i64 ((a1 : Nat) : Int)) ∧ w'.cell? ⟨w.heap.size, 1, none⟩ = some (.int .i64 ((a2 : Nat) : Int)) ∧ w'.cell? ⟨w.heap.size, 2, none⟩ = some (.int .i64 ((a3 : Nat) : Int)) ∧ w'.cell? ⟨w.heap.size + 1, 0, none⟩ = some (.int .i64 ((b1 : Nat) : Int)) ∧ w'.cell? ⟨w.heap.size + 1, 1, none⟩ = some (.int .i64 ((b2 : Nat) : Int)) ∧ w'.cell? ⟨w.heap.size + 1, 2, none⟩ = some (.int .i64 ((b3 : Nat) : Int))) (go_keep) (first
    | (go_at_call 73; (first | (with_reducible refine (H1.out _).mono ?_) | (with_reducible refine (H2.out _).mono ?_) | (with_reducible refine (H3.out _).mono ?_)); rintro e w' ⟨rfl, rfl⟩)
    | (go_at_call 72; refine H4.out.mono ?_; rintro e w' ⟨rfl, rfl⟩))
  all_goals
    go_wp2_with fail
    go_ret
    exact ⟨ret_int F.out.symm, by repeat (first | exact HP0.out | refine Grew.drew ?_ | refine Grew.alloc ?_ _ | refine Grew.drewN ?_ _)⟩
end Go.Proofs.YtklbehapbchnaaaDoor
