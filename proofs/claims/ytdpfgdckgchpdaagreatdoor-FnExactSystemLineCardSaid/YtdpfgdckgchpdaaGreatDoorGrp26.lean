/-
  Slices of integers that come in, and the range of their numbers.
-/
import Derived.Test.YtdpfgdckgchpdaaGreatDoorGrp03
import Derived.Test.YtdpfgdckgchpdaaGreatDoorGrp01
import Derived.Lib.Itoa
import Derived.Lib.ItoaNum
import Derived.Laws.BytesArg
import Derived.Test.YtdpfgdckgchpdaaGreatDoorGrp07
import Derived.Test.YtdpfgdckgchpdaaGreatDoorGrp24
namespace Go.Proofs.YtdpfgdckgchpdaaGreatDoor
open Go.RowKit
set_option linter.unusedVariables false
/-- a text of one byte -/
def oneB (x : Int) : ByteArray := ⟨#[UInt8.ofNat x.toNat]⟩
theorem conv_one (w : World) (x : Int) :
    (convert 49 9 (.slice (some ⟨w.heap.size, 0, none⟩) 1 1)).run Tryz.prog (w.alloc (.cells #[.int .u8 x] 5)) = .ok (.string (oneB x)) (w.alloc (.cells #[.int .u8 x] 5)) :=
  run_convert_bytes_arg (P := Tryz.prog) (w.alloc (.cells #[.int .u8 x] 5)) 49 5 Tryz.underlying49 Tryz.underlying5 w.heap.size 0 1 1 [x] rfl (fun i hi => by
    obtain rfl : i = 0 := by omega
    simp) 9 Tryz.underlying9
theorem conv_at (w : World) (g : Nat) (x : Int) (h : w.cell? ⟨g, 0, none⟩ = some (.int .u8 x)) :
    (convert 49 9 (.slice (some ⟨g, 0, none⟩) 1 1)).run Tryz.prog w = .ok (.string (oneB x)) w :=
  run_convert_bytes_arg (P := Tryz.prog) w 49 5 Tryz.underlying49 Tryz.underlying5 g 0 1 1 [x] rfl (fun i hi => by
    obtain rfl : i = 0 := by omega
    exact h) 9 Tryz.underlying9
theorem conv_drew (w : World) (x : Int) :
    (convert 49 9 (.slice (some ⟨w.heap.size, 0, none⟩) 1 1)).run Tryz.prog (w.alloc (.cells #[.int .u8 x] 5)).drew = .ok (.string (oneB x)) (w.alloc (.cells #[.int .u8 x] 5)).drew := conv_at _ _ _ (by simp)
theorem last_digit (m : Nat) : oneB (IntKind.u8.wrap (IntKind.i64.wrap (48 + (m : Int).tmod 10))) = ⟨#[UInt8.ofNat (48 + m % 10)]⟩ := by
  have h1 : (m : Int).tmod 10 = ((m % 10 : Nat) : Int) := by rw [Int.tmod_eq_emod_of_nonneg (by omega)]; simp
  have h2 : IntKind.i64.wrap (48 + ((m % 10 : Nat) : Int)) = ((48 + m % 10 : Nat) : Int) := by
    simp [IntKind.wrap, IntKind.signed, IntKind.bits]; omega
  have h3 : IntKind.u8.wrap ((48 + m % 10 : Nat) : Int) = ((48 + m % 10 : Nat) : Int) := by
    simp [IntKind.wrap, IntKind.signed, IntKind.bits]; omega
  rw [h1, h2, h3]; rfl
theorem wrap_id {x : Int} (h0 : -9223372036854775808 ≤ x) (h1 : x ≤ 9223372036854775807) : IntKind.i64.wrap x = x := by
  simp [IntKind.wrap, IntKind.signed, IntKind.bits]; omega
theorem oneB_size (x : Int) : (oneB x).size = 1 := rfl
theorem oneB_app (x : Int) (t : List UInt8) : oneB x ++ ⟨t.toArray⟩ = ⟨(UInt8.ofNat x.toNat :: t).toArray⟩ := by ext1; simp [oneB]
theorem app_oneB (x : Int) (t : List UInt8) : (⟨t.toArray⟩ : ByteArray) ++ oneB x = ⟨(t ++ [UInt8.ofNat x.toNat]).toArray⟩ := by ext1; simp [oneB]
theorem nDigits_le : ∀ (k n : Nat), n < 10 ^ (k + 1) → Lib.nDigits n ≤ k + 1
  | 0, n, h => by rw [Lib.nDigits_small (by omega)]; omega
  | k + 1, n, h => by
    by_cases h1 : n < 10
    · rw [Lib.nDigits_small h1]; omega
    · rw [Lib.nDigits_big h1]
      have := nDigits_le k (n / 10) (by rw [Nat.pow_succ] at h; omega)
      omega
theorem decDigits_len {n : Nat} (h : n ≤ 9223372036854775808) : (Lib.decDigits n).length ≤ 20 := by
  rw [Lib.decDigits_length]; exact nDigits_le 19 n (by omega)
theorem decDigits_big {k : Nat} (h : 9 < k) : Lib.decDigits k = Lib.decDigits (k / 10) ++ [UInt8.ofNat (48 + k % 10)] := by
  rw [Lib.decDigits, dif_neg (by omega)]
theorem decDigits_small {u : Nat} (h : u < 10) : Lib.decDigits u = [UInt8.ofNat (48 + u)] := Lib.decDigits_one h
theorem itoa_nat (n : Nat) : Lib.itoa (n : Int) = Lib.decDigits n := by unfold Lib.itoa; rw [if_neg (by omega)]; rfl
theorem itoa_neg {n : Nat} (h : 1 ≤ n) : Lib.itoa (-(n : Int)) = 45 :: Lib.decDigits n := by unfold Lib.itoa; rw [if_pos (by omega)]; simp
set_option maxRecDepth 20000 in
set_option maxHeartbeats 800000 in
theorem fmtIntNat_any (n : Nat) (w : World) (hn : n ≤ 9223372036854775807) :
    Calls Tryz.prog 53 #[.int .i64 n] w fun e w' => e = .returned (.string ⟨(Lib.itoa n).toArray⟩) ∧ Below w.heap.size w w' := by
  have kc := conv_one
  go_enter Tryz.func53, Tryz.ntmps53
  go_wp2_with fail
  go_loopw [0, 3] (fun v s wr => ∃ (k : Nat) (t : List UInt8), v = .int .i64 k ∧ s = .string ⟨t.toArray⟩ ∧ k ≤ n ∧ Lib.decDigits n = Lib.decDigits k ++ t ∧ t.length ≤ 20 ∧ Below w.heap.size w wr) (fun v _ _ => (intOf v).toNat)
  case atStart => exact ⟨n, [], rfl, rfl, Nat.le_refl _, by simp, by simp, Below.refl _ _⟩
  case round =>
    obtain ⟨k, t, rfl, rfl, hk, hd, ht, hbw⟩ := hrel
    have HD := Lib.hid hd
    have hdl := decDigits_len (n := n) (by omega)
    have hos := oneB_size
    rw [hd, List.length_append] at hdl
    clear hd ht
    by_cases hlt : 9 < k
    · have hb := decDigits_big hlt
      have hl1 : (Lib.decDigits k).length = (Lib.decDigits (k / 10)).length + 1 := by rw [hb]; simp
      have HB := Lib.hid hb
      clear hb
      go_wp2_with fail
      go_roundw
      case rel =>
        refine ⟨k / 10, UInt8.ofNat (48 + k % 10) :: t, by simp, ?_, by omega, ?_, ?_, hbw.alloc hbw.size _⟩
        · rw [oneB_app, show (48 + (k : Int) % 10).toNat = 48 + k % 10 by omega]
        · rw [HD.out, HB.out]; simp
        · simp; omega
      case measure => simp [intOf]; omega
    · have hb := decDigits_small (u := k) (by omega)
      have F : Hid (oneB (48 + (k : Int)) ++ ⟨t.toArray⟩ = ⟨(Lib.itoa n).toArray⟩) := Lib.hid (by
        rw [oneB_app, itoa_nat, HD.out, hb, show (48 + (k : Int)).toNat = 48 + k by omega]; rfl)
      clear hb
      go_wp2_with fail
      go_ret
      exact ⟨ret_str F.out, hbw.alloc hbw.size _⟩
set_option maxRecDepth 20000 in
set_option maxHeartbeats 800000 in
theorem fmtIntNeg_any : ∀ (N m : Nat) (w : World), m ≤ N → 1 ≤ m → m ≤ 9223372036854775808 →
    Calls Tryz.prog 53 #[.int .i64 (-(m : Int))] w fun e w' => e = .returned (.string ⟨(Lib.itoa (-(m : Int))).toArray⟩) ∧ Below w.heap.size w w'
  | 0, m, w, h, h1, _ => by omega
  | N + 1, m, w, h, h1, hm => by
    have kc := conv_one
    have hos := oneB_size
    have hdl := decDigits_len (n := m) hm
    by_cases hlt : m < 10
    · have hq : Int.tdiv (-(m : Int)) 10 = 0 := by rw [Int.neg_tdiv]; simp; omega
      have F : Hid ((⟨#[45]⟩ : ByteArray) ++ oneB (48 + (m : Int)) = ⟨(Lib.itoa (-(m : Int))).toArray⟩) := Lib.hid (by
        rw [itoa_neg h1, decDigits_small hlt, show (48 + (m : Int)) = ((48 + m : Nat) : Int) by simp]; rfl)
      go_enter Tryz.func53, Tryz.ntmps53
      go_wp2_with fail
      go_ret
      exact ⟨ret_str F.out, (Below.refl _ _).alloc (Nat.le_refl _) _⟩
    · have hih : ∀ w, Calls Tryz.prog 53 #[.int .i64 (-((m : Int) / 10))] w fun e w' => e = .returned (.string ⟨(45 :: Lib.decDigits (m / 10)).toArray⟩) ∧ Below w.heap.size w w' := fun w => by
        have := fmtIntNeg_any N (m / 10) w (by omega) (by omega) (by omega)
        rw [itoa_neg (by omega)] at this
        simpa using this
      have HIH := fun w => Lib.hid (hih w)
      have hl10 := decDigits_len (n := m / 10) (by omega)
      have kd := conv_drew
      have F : Hid ((⟨(45 :: Lib.decDigits (m / 10)).toArray⟩ : ByteArray) ++ oneB (IntKind.u8.wrap (IntKind.i64.wrap (48 + (m : Int).tmod 10))) = ⟨(Lib.itoa (-(m : Int))).toArray⟩) := Lib.hid (by
        rw [last_digit, itoa_neg h1, decDigits_big (k := m) (by omega)]; ext1; simp)
      have F2 : Hid ((⟨(45 :: Lib.decDigits (m / 10)).toArray⟩ : ByteArray) ++ oneB (48 + (m : Int) % 10) = ⟨(Lib.itoa (-(m : Int))).toArray⟩) := Lib.hid (by
        rw [show oneB (48 + (m : Int) % 10) = ⟨#[UInt8.ofNat (48 + m % 10)]⟩ by unfold oneB; rw [show (48 + (m : Int) % 10).toNat = 48 + m % 10 by omega], itoa_neg h1, decDigits_big (k := m) (by omega)]; ext1; simp)
      have hl11 : ¬ 9223372036854775807 < (Lib.decDigits (m / 10)).length + 1 + 1 := by omega
      clear hih
      go_enter Tryz.func53, Tryz.ntmps53
      go_wp2_with fail
      go_region_with (go_at_call 53; rw [wrap_id (by omega) (by omega)]; refine (HIH _).out.mono ?_; rintro e w2 ⟨rfl, hb2⟩; (try have kc2 := conv_at w2 w.heap.size _ ((hb2.cell (by simp)).trans (by simp; rfl))); have hk : Below w.heap.size w w2 := Below.now (by repeat (first | exact Below.refl _ _ | refine Below.drew ?_ | refine Below.alloc ?_ (by simp; try omega) _)) hb2; clear hb2)
      all_goals
        go_wp2_with fail
        go_ret
        exact ⟨ret_str (by first | exact F.out | exact F2.out), by repeat (first | exact hk | refine Below.drew ?_ | refine Below.alloc ?_ (by have := hk.size; simp; try omega) _)⟩
theorem specFormatInt_any (n : Int) (w : World) (h0 : -9223372036854775808 ≤ n) (h1 : n ≤ 9223372036854775807) :
    Calls Tryz.prog 53 #[.int .i64 n] w fun e w' => e = .returned (.string ⟨(Lib.itoa n).toArray⟩) ∧ Below w.heap.size w w' := by
  by_cases h : 0 ≤ n
  · obtain ⟨k, rfl⟩ : ∃ k : Nat, n = (k : Int) := ⟨n.toNat, by omega⟩
    exact fmtIntNat_any k w (by omega)
  · obtain ⟨k, rfl⟩ : ∃ k : Nat, n = -(k : Int) := ⟨(-n).toNat, by omega⟩
    exact fmtIntNeg_any k k w (Nat.le_refl _) (by omega) (by omega)
end Go.Proofs.YtdpfgdckgchpdaaGreatDoor
namespace Go.Proofs.YtdpfgdckgchpdaaGreatDoor
open Go.RowKit Go.ChangeShapes Go.WideShapes Go.ChangeAt
set_option linter.unusedVariables false
/-- all lie in the range of an int -/
def Rng64 (l : List Int) : Prop := ∀ j, j < l.length → -9223372036854775808 ≤ nthZ l j ∧ nthZ l j ≤ 9223372036854775807
theorem open_sliceIn {H : Type} {enc : TypeId × Value → H} {P : Program} {w : World} {r : Reach} {b0 : Nat} {t e : TypeId} {v : Value} {d : DataW H} {p : List MemPlace} (ht : P.underlying t = some (.slice e)) (he : P.underlying e = some (.int .i64)) (hc : P.cellsOf e = 1)
    (hv : Value.okWide P w r b0 t v) (h : DataW.Trod enc P w 0 (fun _ => true) true t v d p) : ∃ a l cap, v = .slice a l.length cap ∧ IntsIn w a l ∧ l.length ≤ 9223372036854775807 ∧ Rng64 l := by
  obtain ⟨a0, len0, cap0, rfl⟩ := okWide_slice ht hv
  obtain ⟨fuel, hf⟩ := h
  rcases open_ints ht he hc hf with ⟨hcs, _⟩ | ⟨a, len, cap, zs, hcs, _, hl, hm, hz, _, hcell, hwf⟩
  · have e : (Value.slice a0 len0 cap0) = .slice none 0 0 := by simpa [Value.cells] using hcs
    rw [e]
    exact ⟨none, [], 0, rfl, .inl rfl, by simp, fun j hj => absurd hj (by simp)⟩
  · have e : (Value.slice a0 len0 cap0) = .slice (some a) len cap := by simpa [Value.cells] using hcs
    rw [e]
    simp only [if_true] at hz
    have hlen : (zs.take len).length = len := by rw [List.length_take]; omega
    refine ⟨some a, zs.take len, cap, by rw [hlen], ?_, by rw [hlen]; unfold maxLen at hm; omega, fun j hj => ?_⟩
    · by_cases h0 : len = 0
      · left; subst h0; simp
      · obtain ⟨b, off, rfl, hc'⟩ := ints_at hcell (by omega)
        right
        refine ⟨b, off, rfl, fun i hi => ?_⟩
        rw [List.length_map, hlen] at hi
        rw [hc' i (by omega)]
        simp [List.getElem_take, List.getD_eq_getElem?_getD, show i < zs.length by omega]
    · rw [nthZ_lt hj, List.getElem_take]
      exact bounds_i64 (hwf _ (List.getElem_mem _))
end Go.Proofs.YtdpfgdckgchpdaaGreatDoor
