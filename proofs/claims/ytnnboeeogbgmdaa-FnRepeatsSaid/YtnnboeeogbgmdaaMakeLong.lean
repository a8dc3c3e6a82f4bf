/-
  The reference's draws of long words.
-/
import Derived.Test.YtnnboeeogbgmdaaEnds
import Derived.Test.YtnnboeeogbgmdaaDraw
namespace Go.Proofs.Ytnnboeeogbgmdaa
open Go.RowKit
set_option linter.unusedVariables false
/-- a word ends with a square -/
def sqP (s : ByteArray) : Prop := ∃ h, 1 ≤ h ∧ endsP s h (h * 2 + 0)
set_option maxRecDepth 20000 in
set_option maxHeartbeats 1000000 in
theorem l20Square_any (s : ByteArray) (w : World) (hs : s.size ≤ 100000) :
    Calls Try.prog 91 #[.string s] w (RetP (sqP s) w) := by
  go_enter Try.func91, Try.ntmps91
  go_wp2_with fail
  go_loopw [3] (fun v wr => ∃ h : Nat, v = .int .i64 ((h : Nat) : Int) ∧ 1 ≤ h ∧ h ≤ s.size + 1 ∧ Hid (∀ h', 1 ≤ h' → h' < h → ¬ endsP s h' (h' * 2 + 0)) ∧ Below w.heap.size w wr) (fun v _ => s.size + 1 - (intOf v).toNat)
  case atStart => exact ⟨1, rfl, Nat.le_refl _, by omega, Lib.hid (fun h' a b => by omega), Below.refl _ _⟩
  case round =>
    obtain ⟨h, rfl, h1, h2, hno, hbw⟩ := hrel
    by_cases hlt : 2 * h ≤ s.size
    · have q1 : 2 * (h : Int) ≤ (s.size : Int) := by omega
      have HE := Lib.hid (fun W => l20Ends_any s h 2 0 W hs h1 (by omega) (by omega) (by omega) (by omega))
      have HN : Hid (¬ endsP s h (h * 2 + 0) → ∀ h', 1 ≤ h' → h' < h + 1 → ¬ endsP s h' (h' * 2 + 0)) := Lib.hid (fun hn h' a b => by
        by_cases e : h' = h
        · rw [e]; exact hn
        · exact hno.out h' a (by omega))
      go_wp2_with fail
      refine (HE.out _).mono ?_
      rintro e w2 ⟨b, hb, rfl, hb2⟩
      have B2 := Lib.hid (Below.now hbw hb2)
      have HB := Lib.hid hb
      clear hb hb2 HE
      cases b
      · have F := Lib.hid (HN.out (fun h => by have := HB.out.2 h; cases this))
        go_wp2_with fail
        go_roundw
        case rel => exact ⟨h + 1, by go_num, by omega, by omega, F, B2.out⟩
        case measure => simp [intOf]; omega
      · have F : Hid (sqP s) := Lib.hid ⟨h, h1, HB.out.1 rfl⟩
        go_wp2_with fail
        go_ret
        exact RetP.yes F.out B2.out
    · have q1 : ¬ 2 * (h : Int) ≤ (s.size : Int) := by omega
      have F : Hid (¬ sqP s) := Lib.hid (fun ⟨h', a, b⟩ => by
        rcases Nat.lt_or_ge h' h with c | c
        · exact hno.out h' a c b
        · have := b.1; omega)
      go_wp2_with fail
      go_ret
      exact RetP.no F.out hbw
/-- a word, and whether -/
def RetW (m : Nat) (w : World) (e : Ending) (w' : World) : Prop := ∃ (y : ByteArray) (b : Bool), y.size ≤ m ∧ e = .returned (.tuple #[.string y, .bool b]) ∧ Below w.heap.size w w'
theorem RetW.mk {m : Nat} {w w' : World} {y : ByteArray} {b : Bool} (h : y.size ≤ m) (hb : Below w.heap.size w w') : RetW m w (.returned (.tuple #[.string y, .bool b])) w' := ⟨y, b, h, rfl, hb⟩
set_option maxRecDepth 20000 in
set_option maxHeartbeats 1000000 in
theorem l20Least_any (k : Nat) (hk : k ≤ 4) : ∀ (f : Nat) (v : ByteArray) (w : World), v.size + f ≤ 1000 →
    Calls Try.prog 85 #[.string v, .int .i64 (k : Nat), .int .i64 (f : Nat)] w (RetW 1000 w) := by
  intro f
  induction f with
  | zero =>
    intro v w hv
    have F : Hid (RetW 1000 w (.returned (.tuple #[.string v, .bool true])) w) := Lib.hid (RetW.mk (by omega) (Below.refl _ _))
    clear hv
    go_enter Try.func85, Try.ntmps85
    go_wp2_with fail
    exact bodyPost_ret (v := .tuple #[.string v, .bool true]) (by simp [results, Try.results85, go_sem]) rfl F.out
  | succ f ih =>
    intro v w hv
    have IH := Lib.hid ih
    have hq : (((f + 1 : Nat) : Int) == (0 : Int)) = false := by rw [beq_eq_false_iff_ne]; omega
    have hq2 : ((f + 1 : Nat) : Int) - 1 = (f : Int) := by omega
    have HV := Lib.hid hv
    have hv9 : v.size ≤ 1000 := by omega
    have hf9 : f ≤ 1000 := by omega
    clear hv ih
    generalize hfm : f + 1 = fm at *
    clear hfm
    go_enter Try.func85, Try.ntmps85
    go_wp2_with fail
    go_loopw [8] (fun i wr => ∃ x : Nat, x ≤ k ∧ i = .int .i64 (x : Nat) ∧ Below w.heap.size w wr) (fun i _ => k - (intOf i).toNat)
    case atStart => exact ⟨0, Nat.zero_le _, rfl, Below.refl _ _⟩
    case round =>
      obtain ⟨x, hx, rfl, hbw⟩ := hrel
      by_cases hlt : x < k
      · have HLe := Lib.hid (fun W => l13Letter_any x W (by omega))
        have hsz : (v ++ letterN x).size = v.size + 1 := by rw [ByteArray.size_append, letterN_size]
        have hsum : ¬ 9223372036854775807 < v.size + (letterN x).size := by rw [letterN_size]; omega
        have HEF := Lib.hid (fun W => l20Square_any (v ++ letterN x) W (by omega))
        have HRC := Lib.hid (fun W => IH.out (v ++ letterN x) W (by have := HV.out; omega))
        have hxk : (x : Int) < (k : Int) := by omega
        clear hsz
        generalize letterN x = y at *
        go_wp2_with fail
        refine (HLe.out _).mono ?_
        rintro e w2 ⟨rfl, hb2⟩
        have B2 := Lib.hid (Below.now hbw hb2)
        clear hb2
        go_wp2_with fail
        refine (HEF.out _).mono ?_
        rintro e w3 ⟨b, _, rfl, hb3⟩
        have B3 := Lib.hid (Below.now B2.out hb3)
        clear hb3 HEF hsum
        cases b
        · go_wp2_with fail
          refine (HRC.out _).mono ?_
          rintro e w4 ⟨z, b, hz, rfl, hb4⟩
          have B4 := Lib.hid (Below.now B3.out hb4)
          have F : Hid (RetW 1000 w (.returned (.tuple #[.string z, .bool true])) w4) := Lib.hid (RetW.mk hz B4.out)
          clear hb4 HRC
          cases b
          · go_wp2_with fail
            go_roundw
            case rel => exact ⟨x + 1, by omega, by go_num, B4.out⟩
            case measure => simp [intOf]; omega
          · go_wp2_with fail
            exact bodyPost_ret (v := .tuple #[.string z, .bool true]) (by simp [results, Try.results85, go_sem]) rfl F.out
        · go_wp2_with fail
          go_roundw
          case rel => exact ⟨x + 1, by omega, by go_num, B3.out⟩
          case measure => simp [intOf]; omega
      · have hxk : ¬ (x : Int) < (k : Int) := by omega
        have F : Hid (RetW 1000 w (.returned (.tuple #[.string ⟨#[]⟩, .bool false])) wr) := Lib.hid (RetW.mk (Nat.zero_le _) hbw)
        go_wp2_with fail
        exact bodyPost_ret (v := .tuple #[.string ⟨#[]⟩, .bool false]) (by simp [results, Try.results85, go_sem]) rfl F.out
set_option maxHeartbeats 400000 in
theorem specLeastSF_any (k n : Nat) (w : World) (hk1 : 1 ≤ k) (hk : k ≤ 4) (hn : n ≤ 60) :
    Calls Try.prog 75 #[.int .i64 (k : Nat), .int .i64 (n : Nat)] w (RetW 1000 w) := by
  have P1 : Hid (inB (k : Int) 1 4 = true) := Lib.hid (by simp [inB]; omega)
  have P2 : Hid (inB (n : Int) 0 60 = true) := Lib.hid (by simp [inB]; omega)
  have HL := Lib.hid (fun W => l20Least_any k hk n ⟨#[]⟩ W (by show 0 + n ≤ 1000; omega))
  have P1a : Hid (∀ W, Calls Try.prog 77 #[.int .i64 (k : Nat), .int .i64 1, .int .i64 4] W fun e w' => e = .returned (.bool true) ∧ W = w') := Lib.hid (fun W => by have := l01In_any (k : Int) 1 4 W; rw [P1.out] at this; exact this)
  have P2a : Hid (∀ W, Calls Try.prog 77 #[.int .i64 (n : Nat), .int .i64 0, .int .i64 60] W fun e w' => e = .returned (.bool true) ∧ W = w') := Lib.hid (fun W => by have := l01In_any (n : Int) 0 60 W; rw [P2.out] at this; exact this)
  go_enter Try.func75, Try.ntmps75
  go_wp2_with (first
    | (go_at_call 77; (with_reducible refine (P1a.out _).mono ?_); rintro e w' ⟨rfl, rfl⟩)
    | (go_at_call 77; (with_reducible refine (P2a.out _).mono ?_); rintro e w' ⟨rfl, rfl⟩))
  refine (HL.out _).mono ?_
  rintro e w2 ⟨z, b, hz, rfl, hb2⟩
  have F : Hid (RetW 1000 w (.returned (.tuple #[.string z, .bool b])) w2) := Lib.hid (RetW.mk hz hb2)
  clear hb2
  go_wp2_with fail
  exact bodyPost_ret (v := .tuple #[.string z, .bool b]) (by simp [results, Try.results75, go_sem]) rfl F.out
end Go.Proofs.Ytnnboeeogbgmdaa
