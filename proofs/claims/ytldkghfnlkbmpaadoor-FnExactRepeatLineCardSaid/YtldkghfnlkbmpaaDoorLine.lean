/-
  RepeatLine: the words without letters, the long words; the lines.
-/
import Derived.Test.YtldkghfnlkbmpaaDoorPeriod3
import Derived.Test.YtldkghfnlkbmpaaDoorParts
import Derived.Test.YtldkghfnlkbmpaaDoorFmtNums
import Derived.LoopN
namespace Go.Proofs.YtldkghfnlkbmpaaDoor
open Go.RowKit
set_option linter.unusedVariables false
def eS : ByteArray := ⟨#[]⟩
theorem okE : longOkB 4 ⟨#[]⟩ = true := by decide
set_option maxHeartbeats 400000 in
theorem implGP0 (w : World) : Calls Tryd.prog 44 #[.string ⟨#[]⟩] w fun e w' => e = .returned (.int .i64 0) ∧ Below w.heap.size w w' := by
  go_enter Tryd.func44, Tryd.ntmps44
  go_wp2_with fail
  go_ret
  exact ⟨rfl, Below.refl _ _⟩
set_option maxHeartbeats 400000 in
theorem specGP0 (w : World) : Calls Tryd.prog 40 #[.string ⟨#[]⟩] w fun e w' => e = .returned (.int .i64 0) ∧ Below w.heap.size w w' := by
  have HL := Lib.hid (fun W => specLongOk_any 4 ⟨#[]⟩ W (by decide))
  rw [okE] at HL
  go_enter Tryd.func40, Tryd.ntmps40
  go_wp2_with (go_at_call 49; refine (HL.out _).mono ?_; rintro e w' ⟨rfl, rfl⟩)
  go_ret
  exact ⟨rfl, Below.refl _ _⟩
set_option maxHeartbeats 400000 in
theorem specBO0 (w : World) : Calls Tryd.prog 59 #[.string ⟨#[]⟩] w fun e w' => e = .returned (.slice none 0 0) ∧ Below w.heap.size w w' := by
  have HL := Lib.hid (fun W => l21Ok_any ⟨#[]⟩ W (by decide))
  rw [okE] at HL
  go_enter Tryd.func59, Tryd.ntmps59
  go_wp2_with (go_at_call 39; refine (HL.out _).mono ?_; rintro e w' ⟨rfl, rfl⟩)
  go_ret
  exact ⟨rfl, Below.refl _ _⟩
set_option maxHeartbeats 400000 in
theorem implBO0 (w : World) : Calls Tryd.prog 61 #[.string ⟨#[]⟩] w fun e w' => e = .returned (.slice none 0 0) ∧ Below w.heap.size w w' := by
  have HL := Lib.hid (fun W => implLongOk_any 4 ⟨#[]⟩ W (by decide))
  rw [okE] at HL
  go_enter Tryd.func61, Tryd.ntmps61
  go_wp2_with (go_at_call 43; refine (HL.out _).mono ?_; rintro e w' ⟨rfl, rfl⟩)
  refine wp_loop_rounds 1 ?_
  rw [rounds_succ]
  go_wp2_with fail
  go_ret
  exact ⟨rfl, Below.refl _ _⟩
set_option maxHeartbeats 400000 in
theorem specPO0 (w : World) : Calls Tryd.prog 50 #[.string ⟨#[]⟩] w fun e w' => ∃ (a : Option Addr) (c : Nat), e = .returned (.slice a 0 c) ∧ Below w.heap.size w w' := by
  have HB := Lib.hid (fun W => specBO0 W)
  go_enter Tryd.func50, Tryd.ntmps50
  go_wp2_with fail
  refine (HB.out _).mono ?_
  rintro e w2 ⟨rfl, hb2⟩
  have B2 := Lib.hid hb2
  clear hb2
  go_wp2_with fail
  refine wp_loop_rounds 1 ?_
  rw [rounds_succ]
  go_wp2_with fail
  go_ret
  exact ⟨_, _, rfl, B2.out.alloc B2.out.size _⟩
set_option maxHeartbeats 400000 in
theorem specLP0 (w : World) : Calls Tryd.prog 41 #[.string ⟨#[]⟩] w fun e w' => e = .returned (.int .i64 0) ∧ Below w.heap.size w w' := by
  have HB := Lib.hid (fun W => specPO0 W)
  go_enter Tryd.func41, Tryd.ntmps41
  go_wp2_with fail
  refine (HB.out _).mono ?_
  rintro e w2 ⟨a, c, rfl, hb2⟩
  have B2 := Lib.hid hb2
  clear hb2
  go_wp2_with fail
  go_ret
  exact ⟨rfl, B2.out⟩
set_option maxHeartbeats 400000 in
theorem implPO0 (w : World) : Calls Tryd.prog 53 #[.string ⟨#[]⟩] w fun e w' => ∃ (a : Option Addr) (c : Nat), e = .returned (.slice a 0 c) ∧ Below w.heap.size w w' := by
  have HB := Lib.hid (fun W => implBO0 W)
  go_enter Tryd.func53, Tryd.ntmps53
  go_wp2_with fail
  refine (HB.out _).mono ?_
  rintro e w2 ⟨rfl, hb2⟩
  have B2 := Lib.hid hb2
  clear hb2
  go_wp2_with fail
  refine wp_loop_rounds 1 ?_
  rw [rounds_succ]
  go_wp2_with fail
  go_ret
  exact ⟨_, _, rfl, B2.out⟩
set_option maxHeartbeats 400000 in
theorem implLP0 (w : World) : Calls Tryd.prog 45 #[.string ⟨#[]⟩] w fun e w' => e = .returned (.int .i64 0) ∧ Below w.heap.size w w' := by
  have HB := Lib.hid (fun W => implPO0 W)
  go_enter Tryd.func45, Tryd.ntmps45
  go_wp2_with fail
  refine (HB.out _).mono ?_
  rintro e w2 ⟨a, c, rfl, hb2⟩
  have B2 := Lib.hid hb2
  clear hb2
  go_wp2_with fail
  go_ret
  exact ⟨rfl, B2.out⟩
set_option maxHeartbeats 400000 in
theorem specPartsBig (s : ByteArray) (w : World) (hok : longOkB 4 s = true) (hs : ¬ s.size ≤ 60) : Calls Tryd.prog 42 #[.string s] w fun e w' => e = .returned (.int .i64 0) ∧ Below w.heap.size w w' := by
  have hsz := longOk_size hok
  have HL := Lib.hid (fun W => l21Ok_any s W (by unfold maxLen; omega))
  rw [hok] at HL
  have q9 : (60 : Int) < (s.size : Int) := by omega
  clear hok
  go_enter Tryd.func42, Tryd.ntmps42
  go_wp2_with (go_at_call 39; refine (HL.out _).mono ?_; rintro e w' ⟨rfl, rfl⟩)
  go_ret
  exact ⟨rfl, Below.refl _ _⟩
set_option maxHeartbeats 400000 in
theorem implPartsBig (s : ByteArray) (w : World) (hok : longOkB 4 s = true) (hs : ¬ s.size ≤ 60) : Calls Tryd.prog 46 #[.string s] w fun e w' => e = .returned (.int .i64 0) ∧ Below w.heap.size w w' := by
  have hsz := longOk_size hok
  have HL := Lib.hid (fun W => implLongOk_any 4 s W (by unfold maxLen; omega))
  rw [hok] at HL
  have q9 : (60 : Int) < (s.size : Int) := by omega
  clear hok
  go_enter Tryd.func46, Tryd.ntmps46
  go_wp2_with (go_at_call 43; refine (HL.out _).mono ?_; rintro e w' ⟨rfl, rfl⟩)
  go_ret
  exact ⟨rfl, Below.refl _ _⟩
def grOk (s : ByteArray) (g : Nat) : Prop := (s.size = 0 ∧ g = 0) ∨ (1 ≤ s.size ∧ 1 ≤ g ∧ ∀ n, 2 ≤ n → (n ≤ g ↔ hasPow n (bl s)))
def lpOk (s : ByteArray) (p : Nat) : Prop := (s.size = 0 ∧ p = 0) ∨ (1 ≤ s.size ∧ ∃ k, isLb (bl s) s.size k ∧ p = s.size - k)
def partsN (s : ByteArray) : Nat := if s.size ≤ 60 then cOut (bl s) s.size else 0
theorem grOk_uniq {s : ByteArray} {g g' : Nat} (h : grOk s g) (h' : grOk s g') : g = g' := by
  rcases h with ⟨a, b⟩ | ⟨a, b, c⟩ <;> rcases h' with ⟨a', b'⟩ | ⟨a', b', c'⟩
  · omega
  · omega
  · omega
  · rcases Nat.lt_trichotomy g g' with h | h | h
    · have := (c g' (by omega)).2 ((c' g' (by omega)).1 (Nat.le_refl _)); omega
    · exact h
    · have := (c' g (by omega)).2 ((c g (by omega)).1 (Nat.le_refl _)); omega
theorem grOk_le {s : ByteArray} {g : Nat} (hs : s.size ≤ 400) (h : grOk s g) : g ≤ 400 := by
  rcases h with ⟨a, b⟩ | ⟨a, b, c⟩
  · omega
  · rcases Nat.lt_or_ge 400 g with h | h
    · obtain ⟨k, e, h1, h2, h3, _⟩ := (c 401 (by omega)).1 h
      rw [bl_len] at h2
      have : 401 * 1 ≤ 401 * k := Nat.mul_le_mul_left _ h1
      omega
    · exact h
theorem lpOk_uniq {s : ByteArray} {p p' : Nat} (h : lpOk s p) (h' : lpOk s p') : p = p' := by
  rcases h with ⟨a, b⟩ | ⟨a, k, b, c⟩ <;> rcases h' with ⟨a', b'⟩ | ⟨a', k', b', c'⟩
  · omega
  · omega
  · omega
  · rw [c, c', lb_uniq b b']
theorem lpOk_le {s : ByteArray} {p : Nat} (hs : s.size ≤ 400) (h : lpOk s p) : p ≤ 400 := by
  rcases h with ⟨a, b⟩ | ⟨a, k, b, c⟩ <;> omega
theorem partsN_le (s : ByteArray) : partsN s ≤ 3601 := by
  unfold partsN
  split
  · rename_i h
    have := cOut_le (l := bl s) (by rw [bl_len]; exact h) s.size
    omega
  · omega
theorem empty_of {s : ByteArray} (h : s.size = 0) : s = ⟨#[]⟩ := by
  obtain ⟨d⟩ := s
  have : d = #[] := Array.eq_empty_of_size_eq_zero h
  rw [this]
theorem specGP (s : ByteArray) (w : World) (hok : longOkB 4 s = true) : Calls Tryd.prog 40 #[.string s] w fun e w' => ∃ g : Nat, grOk s g ∧ e = .returned (.int .i64 ((g : Nat) : Int)) ∧ Below w.heap.size w w' := by
  rcases Nat.eq_zero_or_pos s.size with h0 | h0
  · obtain rfl := empty_of h0
    exact (specGP0 w).mono fun e w' ⟨he, hb⟩ => ⟨0, .inl ⟨rfl, rfl⟩, he, hb⟩
  · exact (specGreatestPower_any s w hok h0).mono fun e w' ⟨g, ⟨h1, h2⟩, he, hb⟩ => ⟨g, .inr ⟨h0, h1, h2⟩, he, hb⟩
theorem specLP (s : ByteArray) (w : World) (hok : longOkB 4 s = true) : Calls Tryd.prog 41 #[.string s] w fun e w' => ∃ p : Nat, lpOk s p ∧ e = .returned (.int .i64 ((p : Nat) : Int)) ∧ Below w.heap.size w w' := by
  rcases Nat.eq_zero_or_pos s.size with h0 | h0
  · obtain rfl := empty_of h0
    exact (specLP0 w).mono fun e w' ⟨he, hb⟩ => ⟨0, .inl ⟨rfl, rfl⟩, he, hb⟩
  · exact (specLeastPeriod_any s w hok h0).mono fun e w' ⟨p, k, ⟨h1, h2⟩, he, hb⟩ => ⟨p, .inr ⟨h0, k, h1, h2⟩, he, hb⟩
theorem specPN (s : ByteArray) (w : World) (hok : longOkB 4 s = true) : Calls Tryd.prog 42 #[.string s] w fun e w' => e = .returned (.int .i64 ((partsN s : Nat) : Int)) ∧ Below w.heap.size w w' := by
  by_cases h : s.size ≤ 60
  · have e : partsN s = cOut (bl s) s.size := by unfold partsN; rw [if_pos h]
    rw [e]
    exact specParts_any s w hok h
  · have e : partsN s = 0 := by unfold partsN; rw [if_neg h]
    rw [e]
    exact specPartsBig s w hok h
theorem implGP (s : ByteArray) (w : World) (hok : longOkB 4 s = true) : Calls Tryd.prog 44 #[.string s] w fun e w' => ∃ g : Nat, grOk s g ∧ e = .returned (.int .i64 ((g : Nat) : Int)) ∧ Below w.heap.size w w' := by
  rcases Nat.eq_zero_or_pos s.size with h0 | h0
  · obtain rfl := empty_of h0
    exact (implGP0 w).mono fun e w' ⟨he, hb⟩ => ⟨0, .inl ⟨rfl, rfl⟩, he, hb⟩
  · exact (greatestPower_any s w hok h0).mono fun e w' ⟨g, ⟨h1, h2⟩, he, hb⟩ => ⟨g, .inr ⟨h0, h1, h2⟩, he, hb⟩
theorem implLP (s : ByteArray) (w : World) (hok : longOkB 4 s = true) : Calls Tryd.prog 45 #[.string s] w fun e w' => ∃ p : Nat, lpOk s p ∧ e = .returned (.int .i64 ((p : Nat) : Int)) ∧ Below w.heap.size w w' := by
  rcases Nat.eq_zero_or_pos s.size with h0 | h0
  · obtain rfl := empty_of h0
    exact (implLP0 w).mono fun e w' ⟨he, hb⟩ => ⟨0, .inl ⟨rfl, rfl⟩, he, hb⟩
  · exact (implLeastPeriod_any s w hok h0).mono fun e w' ⟨p, k, ⟨h1, h2⟩, he, hb⟩ => ⟨p, .inr ⟨h0, k, h1, h2⟩, he, hb⟩
theorem implPN (s : ByteArray) (w : World) (hok : longOkB 4 s = true) : Calls Tryd.prog 46 #[.string s] w fun e w' => e = .returned (.int .i64 ((partsN s : Nat) : Int)) ∧ Below w.heap.size w w' := by
  by_cases h : s.size ≤ 60
  · have e : partsN s = cOut (bl s) s.size := by unfold partsN; rw [if_pos h]
    rw [e]
    exact implParts_any s w hok h
  · have e : partsN s = 0 := by unfold partsN; rw [if_neg h]
    rw [e]
    exact implPartsBig s w hok h
end Go.Proofs.YtldkghfnlkbmpaaDoor
