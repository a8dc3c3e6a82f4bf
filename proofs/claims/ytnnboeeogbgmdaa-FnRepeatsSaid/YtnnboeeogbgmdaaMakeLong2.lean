/-
  The reference's draws of long words: substitutions.
-/
import Derived.Test.YtnnboeeogbgmdaaMakeLong
namespace Go.Proofs.Ytnnboeeogbgmdaa
open Go.RowKit
set_option linter.unusedVariables false
def RetB (w : World) (e : Ending) (w' : World) : Prop := ∃ b : Bool, e = .returned (.bool b) ∧ Below w.heap.size w w'
theorem RetB.mk {w w' : World} {b : Bool} (hb : Below w.heap.size w w') : RetB w (.returned (.bool b)) w' := ⟨b, rfl, hb⟩
/-- the two words of the draw -/
def abBa : List ByteArray := [⟨#[97, 98]⟩, ⟨#[98, 97]⟩]
def RetL2 (w : World) (e : Ending) (w' : World) : Prop := ∃ (y : ByteArray) (b : Bool), (y.size ≤ 400 ∧ allB (letB 2) y = true) ∧ e = .returned (.tuple #[.string y, .bool b]) ∧ Below w.heap.size w w'
theorem RetL2.mk {w w' : World} {y : ByteArray} {b : Bool} (h : y.size ≤ 400) (h2 : allB (letB 2) y = true) (hb : Below w.heap.size w w') : RetL2 w (.returned (.tuple #[.string y, .bool b])) w' := ⟨y, b, ⟨h, h2⟩, rfl, hb⟩
theorem let2_byte {s : ByteArray} (h : allB (letB 2) s = true) {i : Nat} (hi : i < s.size) : s[i].toNat = 97 ∨ s[i].toNat = 98 := by
  unfold allB at h
  rw [List.all_eq_true] at h
  have := h s[i] (by rw [ByteArray.getElem_eq_getElem_data]; simp)
  simp [letB, inB] at this
  omega
theorem abBa_let (x : Nat) (hx : x < 2) : wordOkB 2 (nthS abBa x) = true ∧ allB (letB 2) (nthS abBa x) = true ∧ (nthS abBa x).size = 2 := by
  match x, hx with
  | 0, _ => exact ⟨by decide, by decide, rfl⟩
  | 1, _ => exact ⟨by decide, by decide, rfl⟩
set_option maxRecDepth 20000 in
set_option maxHeartbeats 1000000 in
theorem specSubOk2_any (b0 off cap : Nat) (w : World) (hl : StrsIn w (some ⟨b0, off, none⟩) abBa) :
    Calls Try.prog 83 #[.slice (some ⟨b0, off, none⟩) 2 cap] w fun e w' => e = .returned (.bool true) ∧ Below w.heap.size w w' := by
  have HL := Lib.hid hl
  have P1 : Hid (∀ W, Calls Try.prog 77 #[.int .i64 2, .int .i64 1, .int .i64 4] W fun e w' => e = .returned (.bool true) ∧ W = w') := Lib.hid (fun W => by have := l01In_any 2 1 4 W; rw [show inB 2 1 4 = true by decide] at this; exact this)
  clear hl
  go_enter Try.func83, Try.ntmps83
  go_wp2_with (go_at_call 77; refine (P1.out _).mono ?_; rintro e w' ⟨rfl, rfl⟩)
  go_loopw [11] (fun i wr => ∃ j : Nat, j ≤ 2 ∧ i = .int .i64 (j : Nat) ∧ Below w.heap.size w wr) (fun i _ => 2 - (intOf i).toNat)
  case atStart => exact ⟨0, Nat.zero_le _, rfl, Below.refl _ _⟩
  case round =>
    obtain ⟨j, hj, rfl, hbw⟩ := hrel
    by_cases hlt : j < 2
    · have hji : (j : Int) < 2 := by omega
      have c1 : wr.cell? ⟨b0, off + j, none⟩ = some (.string (nthS abBa j)) := StrsIn.at (HL.out.later hbw) hlt
      obtain ⟨t0, t1, t2⟩ := abBa_let j hlt
      generalize nthS abBa j = v at *
      have HW := Lib.hid (fun W => specWordOk_any 2 v W (by unfold maxLen; omega))
      rw [t0] at HW
      clear t0 t1
      go_wp2_with (go_at_call 89; refine (HW.out _).mono ?_; rintro e w' ⟨rfl, rfl⟩)
      go_roundw
      case rel => exact ⟨j + 1, by omega, by go_num, hbw⟩
      case measure => simp [intOf]; omega
    · have hji : ¬ (j : Int) < 2 := by omega
      go_wp2_with fail
      go_ret
      exact ⟨rfl, hbw⟩
set_option maxRecDepth 20000 in
set_option maxHeartbeats 1000000 in
theorem l19Sub2_any (s : ByteArray) (b0 off cap : Nat) (w : World) (hl : StrsIn w (some ⟨b0, off, none⟩) abBa) (hs : s.size ≤ 400) (hs2 : allB (letB 2) s = true) :
    Calls Try.prog 84 #[.slice (some ⟨b0, off, none⟩) 2 cap, .string s] w (RetL2 w) := by
  have HL := Lib.hid hl
  have HS := Lib.hid hs2
  clear hl hs2
  go_enter Try.func84, Try.ntmps84
  go_wp2_with fail
  go_loopw [6, 7] (fun u v wr => ∃ (i : Nat) (y : ByteArray), v = .int .i64 ((i : Nat) : Int) ∧ u = .string y ∧ i ≤ s.size ∧ y.size ≤ 400 ∧ Hid (allB (letB 2) y = true) ∧ Below w.heap.size w wr) (fun _ v _ => s.size - (intOf v).toNat)
  case atStart => exact ⟨0, ⟨#[]⟩, rfl, rfl, Nat.zero_le _, Nat.zero_le _, Lib.hid rfl, Below.refl _ _⟩
  case round =>
    obtain ⟨i, y, rfl, rfl, hi, hy, hyl, hbw⟩ := hrel
    by_cases hlt : i < s.size
    · have q0 : (i : Int) < (s.size : Int) := by omega
      obtain ⟨x, hx, hc⟩ : ∃ x, x < 2 ∧ s[i].toNat = 97 + x := by
        rcases let2_byte HS.out hlt with h | h
        · exact ⟨0, by omega, h⟩
        · exact ⟨1, by omega, h⟩
      have HC := Lib.hid hc
      have hci : ((s[i].toNat : Nat) : Int) = 97 + (x : Int) := by omega
      have hu : IntKind.u8.wrap (97 + (x : Int) - 97) = (x : Int) := by simp [IntKind.wrap, IntKind.signed, IntKind.bits]; omega
      have c1 : wr.cell? ⟨b0, off + x, none⟩ = some (.string (nthS abBa x)) := StrsIn.at (HL.out.later hbw) hx
      obtain ⟨t0, t1, t2⟩ := abBa_let x hx
      have T1 := Lib.hid t1
      clear t0 t1 hc
      generalize nthS abBa x = v at *
      have hsum : ¬ 9223372036854775807 < y.size + v.size := by omega
      have hyv : Hid (allB (letB 2) (y ++ v) = true) := Lib.hid (by rw [allB_app, hyl.out, T1.out]; rfl)
      have hsz : (y ++ v).size = y.size + 2 := by rw [ByteArray.size_append]; omega
      have HSZ := Lib.hid hsz
      clear hsz
      have hxi : (x : Int) < 2 := by omega
      by_cases h4 : y.size + 2 ≤ 400
      · have q4 : ¬ (400 : Int) < (y.size : Int) + 2 := by omega
        go_wp2_with fail
        go_roundw
        case rel => exact ⟨i + 1, y ++ v, by go_num, rfl, by omega, by rw [HSZ.out]; exact h4, hyv, hbw⟩
        case measure => simp [intOf]; omega
      · have q4 : (400 : Int) < (y.size : Int) + 2 := by omega
        have F : Hid (RetL2 w (.returned (.tuple #[.string ⟨#[]⟩, .bool false])) wr) := Lib.hid (RetL2.mk (Nat.zero_le _) rfl hbw)
        go_wp2_with fail
        exact bodyPost_ret (v := .tuple #[.string ⟨#[]⟩, .bool false]) (by simp [results, Try.results84, go_sem]) rfl F.out
    · have F : Hid (RetL2 w (.returned (.tuple #[.string y, .bool true])) wr) := Lib.hid (RetL2.mk hy hyl.out hbw)
      have q0 : ¬ (i : Int) < (s.size : Int) := by omega
      go_wp2_with fail
      exact bodyPost_ret (v := .tuple #[.string y, .bool true]) (by simp [results, Try.results84, go_sem]) rfl F.out
set_option maxRecDepth 20000 in
set_option maxHeartbeats 1000000 in
theorem subTimes_any (n b0 off cap : Nat) (w : World) (hl : StrsIn w (some ⟨b0, off, none⟩) abBa) (hn : n ≤ 100) :
    Calls Try.prog 74 #[.slice (some ⟨b0, off, none⟩) 2 cap, .string ⟨#[97]⟩, .int .i64 (n : Nat)] w (RetL2 w) := by
  have HL := Lib.hid hl
  have HSO := Lib.hid (specSubOk2_any b0 off cap w hl)
  have HLO : Hid (∀ W, Calls Try.prog 51 #[.int .i64 2, .string ⟨#[97]⟩] W fun e w' => e = .returned (.bool true) ∧ W = w') := Lib.hid (fun W => by have := specLongOk_any 2 ⟨#[97]⟩ W (by decide); rw [show longOkB 2 ⟨#[97]⟩ = true by decide] at this; exact this)
  have P1 : Hid (∀ W, Calls Try.prog 77 #[.int .i64 (n : Nat), .int .i64 0, .int .i64 100] W fun e w' => e = .returned (.bool true) ∧ W = w') := Lib.hid (fun W => by have := l01In_any (n : Int) 0 100 W; rw [show inB (n : Int) 0 100 = true by simp [inB]; omega] at this; exact this)
  clear hl
  go_enter Try.func74, Try.ntmps74
  go_wp2_with fail
  refine HSO.out.mono ?_
  rintro e w2 ⟨rfl, hb2⟩
  have B2 := Lib.hid hb2
  clear hb2 HSO
  go_wp2_with (first
    | (go_at_call 51; refine (HLO.out _).mono ?_; rintro e w' ⟨rfl, rfl⟩)
    | (go_at_call 77; refine (P1.out _).mono ?_; rintro e w' ⟨rfl, rfl⟩))
  go_loopw [1, 8] (fun u v wr => ∃ (i : Nat) (y : ByteArray), v = .int .i64 ((i : Nat) : Int) ∧ u = .string y ∧ i ≤ n ∧ y.size ≤ 400 ∧ Hid (allB (letB 2) y = true) ∧ Below w.heap.size w wr) (fun _ v _ => n - (intOf v).toNat)
  case atStart => exact ⟨0, ⟨#[97]⟩, rfl, rfl, Nat.zero_le _, by decide, Lib.hid (by decide), B2.out⟩
  case round =>
    clear B2
    obtain ⟨i, y, rfl, rfl, hi, hy, hyl, hbw⟩ := hrel
    by_cases hlt : i < n
    · have q0 : (i : Int) < (n : Int) := by omega
      have HSB := Lib.hid (l19Sub2_any y b0 off cap wr (HL.out.later hbw) hy hyl.out)
      go_wp2_with fail
      refine HSB.out.mono ?_
      rintro e w3 ⟨z, b, ⟨hz, hzl⟩, rfl, hb3⟩
      have B3 := Lib.hid (Below.now hbw hb3)
      have HZ := Lib.hid hzl
      clear hb3 hzl HSB
      cases b
      · have F : Hid (RetL2 w (.returned (.tuple #[.string ⟨#[]⟩, .bool false])) w3) := Lib.hid (RetL2.mk (Nat.zero_le _) rfl B3.out)
        go_wp2_with fail
        exact bodyPost_ret (v := .tuple #[.string ⟨#[]⟩, .bool false]) (by simp [results, Try.results74, go_sem]) rfl F.out
      · go_wp2_with fail
        go_roundw
        case rel => exact ⟨i + 1, z, by go_num, rfl, by omega, hz, HZ, B3.out⟩
        case measure => simp [intOf]; omega
    · have F : Hid (RetL2 w (.returned (.tuple #[.string y, .bool true])) wr) := Lib.hid (RetL2.mk hy hyl.out hbw)
      have q0 : ¬ (i : Int) < (n : Int) := by omega
      go_wp2_with fail
      exact bodyPost_ret (v := .tuple #[.string y, .bool true]) (by simp [results, Try.results74, go_sem]) rfl F.out
theorem below_grownB {w w' : World} (h : Below w.heap.size w w') (r : Option Nat) : w.grownBy w' r := ⟨h.os, h.tape, h.output, h.size, fun k hk _ => h.block k hk⟩
/-- a drawn text -/
def RetD (m B : Nat) (a : Option Addr) (l : List UInt8) (cap : Nat) (w : World) (e : Ending) (w' : World) : Prop := ∃ s : ByteArray, s.size ≤ m ∧ e = .returned (.string s) ∧ CurOk w' B a l cap ∧ w.grownBy w' (some B)
theorem RetD.mk {m B : Nat} {a : Option Addr} {l : List UInt8} {cap : Nat} {w w' : World} {s : ByteArray} (h : s.size ≤ m) (hc : CurOk w' B a l cap) (hg : w.grownBy w' (some B)) : RetD m B a l cap w (.returned (.string s)) w' := ⟨s, h, rfl, hc, hg⟩
set_option maxRecDepth 20000 in
set_option maxHeartbeats 1000000 in
theorem l02Any_any (B : Nat) (a : Option Addr) (l : List UInt8) (cap : Nat) (w : World) (h : CurOk w B a l cap) :
    Calls Try.prog 76 #[.pointer (some ⟨B, 0, none⟩)] w (RetD 1000 B a l cap w) := by
  have HN : Hid (Calls Try.prog 63 #[.pointer (some ⟨B, 0, none⟩), .int .i64 2] w fun e w' => ∃ x : Nat, x < 2 ∧ e = .returned (.int .i64 ((x : Nat) : Int)) ∧ CurOk w' B a l cap ∧ w.grownBy w' (some B)) := Lib.hid (l01Below_any B 2 a l cap w h (by omega) (by omega))
  have HD : Hid (∀ (x : Nat) W, x < 2 → CurOk W B a l cap → Calls Try.prog 35 #[.pointer (some ⟨B, 0, none⟩), .int .i64 (2 + (x : Int)), .int .i64 8] W fun e w' => ∃ s : ByteArray, (allB (letB 4) s = true ∧ s.size ≤ 8) ∧ e = .returned (.string s) ∧ CurOk w' B a l cap ∧ W.grownBy w' (some B)) := Lib.hid (fun x W hx hc => by
    have h := l02Draw_any B (2 + x) 8 a l cap W hc (by omega) (by omega) (by omega)
    rw [show (((2 + x : Nat)) : Int) = 2 + (x : Int) by omega] at h
    exact h)
  have HB10 : Hid (∀ W, CurOk W B a l cap → Calls Try.prog 63 #[.pointer (some ⟨B, 0, none⟩), .int .i64 10] W fun e w' => ∃ x : Nat, x < 10 ∧ e = .returned (.int .i64 ((x : Nat) : Int)) ∧ CurOk w' B a l cap ∧ W.grownBy w' (some B)) := Lib.hid (fun W hc => l01Below_any B 10 a l cap W hc (by omega) (by omega))
  clear h
  go_enter Try.func76, Try.ntmps76
  go_wp2_with fail
  refine HN.out.mono ?_
  rintro e w2 ⟨x, hx, rfl, hc2, hg2⟩
  have HC2 := Lib.hid hc2
  have HG2 := Lib.hid hg2
  clear hc2 hg2 HN
  go_wp2_with fail
  refine (HD.out x w2 hx HC2.out).mono ?_
  rintro e w3 ⟨s, ⟨_, hs⟩, rfl, hc3, hg3⟩
  have HC3 := Lib.hid hc3
  have HG3 := Lib.hid (grown_tr HG2.out hg3)
  clear hc3 hg3 HD
  go_wp2_with fail
  refine (HB10.out w3 HC3.out).mono ?_
  rintro e w4 ⟨y, hy, rfl, hc4, hg4⟩
  have HC4 := Lib.hid hc4
  have HG4 := Lib.hid (grown_tr HG3.out hg4)
  have hs1 : (s ++ ⟨#[122]⟩ : ByteArray).size = s.size + 1 := by rw [ByteArray.size_append]; rfl
  have hs2 : (s ++ s ++ ⟨#[97, 98, 97, 98, 97, 98, 97, 98]⟩ : ByteArray).size = s.size + s.size + 8 := by rw [ByteArray.size_append, ByteArray.size_append]; rfl
  have F1 : Hid (RetD 1000 B a l cap w (.returned (.string (s ++ ⟨#[122]⟩))) w4) := Lib.hid (RetD.mk (by omega) HC4.out HG4.out)
  have F2 : Hid (RetD 1000 B a l cap w (.returned (.string (s ++ s ++ ⟨#[97, 98, 97, 98, 97, 98, 97, 98]⟩))) w4) := Lib.hid (RetD.mk (by omega) HC4.out HG4.out)
  have F3 : Hid (RetD 1000 B a l cap w (.returned (.string s)) w4) := Lib.hid (RetD.mk (by omega) HC4.out HG4.out)
  have k1 : ¬ 9223372036854775807 < s.size + 1 := by omega
  have k2 : ¬ 9223372036854775807 < s.size + s.size := by omega
  have k3 : ¬ 9223372036854775807 < s.size + s.size + 8 := by omega
  clear hc4 hg4 hs1 hs2
  by_cases h0 : y = 0
  · subst h0
    go_wp2_with fail
    go_ret
    exact F1.out
  · by_cases h1 : y = 1
    · subst h1
      go_wp2_with fail
      go_ret
      exact F2.out
    · have g0 : ((y : Int) == (0 : Int)) = false := by rw [beq_eq_false_iff_ne]; omega
      have g1 : ((y : Int) == (1 : Int)) = false := by rw [beq_eq_false_iff_ne]; omega
      have g0' : ¬ (y : Int) = 0 := by omega
      have g1' : ¬ (y : Int) = 1 := by omega
      go_wp2_with fail
      go_ret
      exact F3.out
set_option maxRecDepth 20000 in
set_option maxHeartbeats 2000000 in
theorem l20Word_any (B : Nat) (a : Option Addr) (l : List UInt8) (cap : Nat) (w : World) (h : CurOk w B a l cap) :
    Calls Try.prog 50 #[.pointer (some ⟨B, 0, none⟩)] w (RetD 1000 B a l cap w) := by
  have HB4 : Hid (∀ W, CurOk W B a l cap → Calls Try.prog 63 #[.pointer (some ⟨B, 0, none⟩), .int .i64 4] W fun e w' => ∃ x : Nat, x < 4 ∧ e = .returned (.int .i64 ((x : Nat) : Int)) ∧ CurOk w' B a l cap ∧ W.grownBy w' (some B)) := Lib.hid (fun W hc => l01Below_any B 4 a l cap W hc (by omega) (by omega))
  have HB16 : Hid (∀ W, CurOk W B a l cap → Calls Try.prog 63 #[.pointer (some ⟨B, 0, none⟩), .int .i64 16] W fun e w' => ∃ x : Nat, x < 16 ∧ e = .returned (.int .i64 ((x : Nat) : Int)) ∧ CurOk w' B a l cap ∧ W.grownBy w' (some B)) := Lib.hid (fun W hc => l01Below_any B 16 a l cap W hc (by omega) (by omega))
  have HD : Hid (∀ W, CurOk W B a l cap → Calls Try.prog 35 #[.pointer (some ⟨B, 0, none⟩), .int .i64 3, .int .i64 9] W fun e w' => ∃ s : ByteArray, (allB (letB 4) s = true ∧ s.size ≤ 9) ∧ e = .returned (.string s) ∧ CurOk w' B a l cap ∧ W.grownBy w' (some B)) := Lib.hid (fun W hc => l02Draw_any B 3 9 a l cap W hc (by omega) (by omega) (by omega))
  have HC0 := Lib.hid h
  clear h
  go_enter Try.func50, Try.ntmps50
  go_wp2_with fail
  refine (HB4.out w HC0.out).mono ?_
  rintro e w2 ⟨x, hx, rfl, hc2, hg2⟩
  have HC2 := Lib.hid hc2
  have HG2 := Lib.hid hg2
  have HA2 := Lib.hid (hc2.alloc (.cells #[.string ⟨#[97, 98]⟩, .string ⟨#[98, 97]⟩] 9))
  have HL2 : Hid (StrsIn (w2.alloc (.cells #[.string ⟨#[97, 98]⟩, .string ⟨#[98, 97]⟩] 9)) (some ⟨w2.heap.size, 0, none⟩) abBa) := Lib.hid (StrsIn.lit w2 abBa)
  have hBne : w2.heap.size ≠ B := by have := hc2.lt; omega
  clear hc2 hg2
  by_cases h0 : x = 0
  · subst h0
    go_wp2_with fail
    refine (HB4.out _ HA2.out).mono ?_
    rintro e w3 ⟨n, hn, rfl, hc3, hg3⟩
    have HC3 := Lib.hid hc3
    have HG3 := Lib.hid (grown_tr HG2.out (grown_tr (below_grownB ((Below.refl _ _).alloc (Nat.le_refl _) _) (some B)) hg3))
    have HL3 := Lib.hid (HL2.out.grownB hg3 (fun y hy => by have := Option.some.inj hy; rw [← this]; exact hBne))
    have HST : Hid (Calls Try.prog 74 #[.slice (some ⟨w2.heap.size, 0, none⟩) 2 2, .string ⟨#[97]⟩, .int .i64 (2 + (n : Int))] w3 (RetL2 w3)) := Lib.hid (by
      have h := subTimes_any (2 + n) w2.heap.size 0 2 w3 HL3.out (by omega)
      rw [show (((2 + n : Nat)) : Int) = 2 + (n : Int) by omega] at h
      exact h)
    clear hc3 hg3
    go_wp2_with fail
    refine HST.out.mono ?_
    rintro e w4 ⟨y, b, ⟨hy, _⟩, rfl, hb4⟩
    have F : Hid (RetD 1000 B a l cap w (.returned (.string y)) w4) := Lib.hid (RetD.mk (by omega) (HC3.out.later hb4) (grown_tr HG3.out (below_grownB hb4 _)))
    clear hb4 HST
    go_wp2_with fail
    go_ret
    exact F.out
  · clear HA2 HL2
    have g0 : ((x : Int) == (0 : Int)) = false := by rw [beq_eq_false_iff_ne]; omega
    have g0' : ¬ (x : Int) = 0 := by omega
    by_cases h1 : x = 1
    · subst h1
      go_wp2_with fail
      refine (HB16.out _ HC2.out).mono ?_
      rintro e w3 ⟨n, hn, rfl, hc3, hg3⟩
      have HC3 := Lib.hid hc3
      have HG3 := Lib.hid (grown_tr HG2.out hg3)
      have HLS := Lib.hid (specLeastSF_any 3 n w3 (by omega) (by omega) (by omega))
      clear hc3 hg3
      go_wp2_with fail
      refine HLS.out.mono ?_
      rintro e w4 ⟨y, b, hy, rfl, hb4⟩
      have F : Hid (RetD 1000 B a l cap w (.returned (.string y)) w4) := Lib.hid (RetD.mk hy (HC3.out.later hb4) (grown_tr HG3.out (below_grownB hb4 _)))
      clear hb4 HLS
      go_wp2_with fail
      go_ret
      exact F.out
    · have g1 : ((x : Int) == (1 : Int)) = false := by rw [beq_eq_false_iff_ne]; omega
      have g1' : ¬ (x : Int) = 1 := by omega
      by_cases h2 : x = 2
      · subst h2
        have HA := Lib.hid (l02Any_any B a l cap w2 HC2.out)
        go_wp2_with fail
        refine HA.out.mono ?_
        rintro e w3 ⟨y, hy, rfl, hc3, hg3⟩
        have F : Hid (RetD 1000 B a l cap w (.returned (.string y)) w3) := Lib.hid (RetD.mk hy hc3 (grown_tr HG2.out hg3))
        clear hc3 hg3 HA
        go_wp2_with fail
        go_ret
        exact F.out
      · have g2 : ((x : Int) == (2 : Int)) = false := by rw [beq_eq_false_iff_ne]; omega
        have g2' : ¬ (x : Int) = 2 := by omega
        have HA := Lib.hid (HD.out w2 HC2.out)
        go_wp2_with fail
        refine HA.out.mono ?_
        rintro e w3 ⟨y, ⟨_, hy⟩, rfl, hc3, hg3⟩
        have F : Hid (RetD 1000 B a l cap w (.returned (.string y)) w3) := Lib.hid (RetD.mk (by omega) hc3 (grown_tr HG2.out hg3))
        clear hc3 hg3 HA
        go_wp2_with fail
        go_ret
        exact F.out
set_option maxHeartbeats 400000 in
theorem makeLong_any (a : Option Addr) (l : List UInt8) (cap k : Nat) (w : World) (hl : BytesIn w a l) (hlen : l.length ≤ 2 ^ 40) (hk : k ≤ 1000) :
    Calls Try.prog 20 #[.slice a l.length cap, .int .i64 (k : Nat)] w fun e w' => ∃ s, longOkB 4 s = true ∧ e = .returned (.string s) ∧ Below w.heap.size w w' := by
  have HN := Lib.hid (l31New_any a l cap k w hl hlen hk)
  clear hl
  go_enter Try.func20, Try.ntmps20
  go_wp2_with fail
  refine HN.out.mono ?_
  rintro e w2 ⟨rfl, hc, hb⟩
  have HC := Lib.hid hc
  have HB := Lib.hid hb
  clear hc hb HN
  go_wp2_with fail
  refine (l20Word_any _ a l cap w2 HC.out).mono ?_
  rintro e w3 ⟨s, hs, rfl, hc3, hg3⟩
  have HB3 := Lib.hid (below_curs HB.out hg3 (Nat.le_refl _))
  have HLO := Lib.hid (fun W => specLongOk_any 4 s W (by unfold maxLen; omega))
  clear hc3 hg3
  cases hok : longOkB 4 s
  · rw [hok] at HLO
    clear hok
    go_wp2_with (go_at_call 51; refine (HLO.out _).mono ?_; rintro e w' ⟨rfl, rfl⟩)
    go_ret
    exact ⟨⟨#[97, 98, 97, 98]⟩, by decide, rfl, HB3.out⟩
  · rw [hok] at HLO
    have HOK := Lib.hid hok
    clear hok
    go_wp2_with (go_at_call 51; refine (HLO.out _).mono ?_; rintro e w' ⟨rfl, rfl⟩)
    go_ret
    exact ⟨s, HOK.out, rfl, HB3.out⟩
end Go.Proofs.Ytnnboeeogbgmdaa
