/-
  Periods; the least period.
-/
import Derived.Test.YtldkghfnlkbmpaaDoorPeriod2
namespace Go.Proofs.YtldkghfnlkbmpaaDoor
open Go.RowKit
set_option linter.unusedVariables false
def perOk (l : List UInt8) (n : Nat) (ys : List Nat) : Prop := 1 ≤ ys.length ∧ ∃ k, isLb l n k ∧ ys.getD 0 0 = n - k
def RetPer (l : List UInt8) (n : Nat) (w : World) (e : Ending) (w' : World) : Prop := ∃ ys : List Nat, perOk l n ys ∧ RetSl 3 1 ys.length (natVals ys) w e w'
def headOk (n k : Nat) (ys : List Nat) : Prop := ys.length = 0 ∨ ys.getD 0 0 = n - k
theorem headOk_snoc {n k v : Nat} {ys : List Nat} (h : headOk n k ys) (hv : ys.length = 0 → v = n - k) : headOk n k (ys ++ [v]) := by
  right
  rcases Nat.eq_zero_or_pos ys.length with h0 | h0
  · have : ys = [] := List.eq_nil_of_length_eq_zero h0
    subst this
    exact hv rfl
  · rw [List.getD_eq_getElem?_getD, List.getElem?_append_left h0, ← List.getD_eq_getElem?_getD]
    rcases h with h | h
    · omega
    · exact h
set_option maxRecDepth 20000 in
set_option maxHeartbeats 4000000 in
theorem implPeriodsOf_any (s : ByteArray) (w : World) (hok : longOkB 4 s = true) (hne : 1 ≤ s.size) :
    Calls Tryd.prog 53 #[.string s] w (RetPer (bl s) s.size w) := by
  have hsz := longOk_size hok
  have HBO := Lib.hid (fun W => implBordersOf_any s W hok hne)
  clear hok
  go_enter Tryd.func53, Tryd.ntmps53
  go_wp2_with fail
  refine (HBO.out _).mono ?_
  rintro e w2 ⟨xs, hbo, a, c, rfl, hoX, hb2⟩
  have HX := Lib.hid hoX
  have HBK := Lib.hid hbo
  have B2 := Lib.hid hb2
  obtain ⟨hx1, hx2, _, _⟩ := hbo
  have HS := Lib.hid (Bld.nil 3 1 (Below.refl w2.heap.size w2))
  clear hoX hb2 HBO
  go_wp2_with fail
  go_loopw [4, 5] (fun o i wr => ∃ (x : Int) (ys : List Nat), i = .int .i64 x ∧ x + 1 + (ys.length : Int) = (xs.length : Int) ∧ -1 ≤ x ∧ Hid (headOk s.size (lastN xs) ys) ∧ Bld 3 1 w2 wr o ys.length (natVals ys)) (fun _ i _ => (intOf i + 1).toNat)
  case atStart => exact ⟨(xs.length : Int) - 1, [], rfl, by simp; try omega, by omega, Lib.hid (.inl rfl), HS.out⟩
  case round =>
    clear HS
    obtain ⟨x, ys, rfl, hxy, hx0, HH, hbd⟩ := hrel
    obtain ⟨a3, c3, rfl⟩ := owns_form hbd.1
    have HB := Lib.hid hbd
    clear hbd
    by_cases hlt : 0 ≤ x
    · obtain ⟨m, rfl⟩ := Int.eq_ofNat_of_zero_le hlt
      have hmx : m < xs.length := by omega
      obtain ⟨b, rfl, hc⟩ := natCell (owns_later HX.out HB.out.2) (j := m) hmx
      have hv := HBK.out.2.2.2 m hmx
      have HLast : Hid (ys.length = 0 → s.size - xs.getD m 0 = s.size - lastN xs) := Lib.hid (fun h => by
        unfold lastN
        rw [show m = xs.length - 1 by omega])
      generalize xs.getD m 0 = v at *
      have q1 : (s.size : Int) - (v : Int) = ((s.size - v : Nat) : Int) := by omega
      have q2 : (m : Int) < (xs.length : Int) := by omega
      have q3 : (0 : Int) ≤ (m : Int) := by omega
      have F := Lib.hid (headOk_snoc HH.out HLast.out)
      have hyl : ys.length ≤ 1000 := by omega
      clear HLast
      go_wp2_with (at_builtin; refine wpList_app1 rfl _ _ rfl Tryd.underlying22 Tryd.infoInt rfl (by decide) rfl HB.out rfl rfl ?c1 ?c2 ?c3 ?c4)
      case c1 => simp [Value.oneCell']
      case c2 => unfold maxLen; omega
      case c3 => omega
      intro v3 w3 hb3
      have F3 : Hid (Bld 3 1 w2 w3 v3 (ys ++ [s.size - v]).length (natVals (ys ++ [s.size - v]))) := Lib.hid (by
        rw [List.length_append, List.length_singleton, natVals_snoc]; exact hb3)
      clear hb3
      go_wp2_with fail
      go_roundw
      case rel => exact ⟨(m : Int) - 1, ys ++ [s.size - v], rfl, by rw [List.length_append, List.length_singleton]; omega, by omega, F, F3.out⟩
      case measure => simp [intOf]
    · obtain rfl : x = -1 := by omega
      have hyx : ys.length = xs.length := by omega
      have F : Hid (RetPer (bl s) s.size w (.returned (.slice a3 ys.length c3)) wr) := Lib.hid ⟨ys, ⟨by omega, lastN xs, HBK.out.2.2.1, HH.out.resolve_left (by omega)⟩, (HB.out.since B2.out).ret⟩
      clear hyx
      go_wp2_with fail
      go_ret
      exact F.out
set_option maxHeartbeats 1000000 in
theorem implLeastPeriod_any (s : ByteArray) (w : World) (hok : longOkB 4 s = true) (hne : 1 ≤ s.size) :
    Calls Tryd.prog 45 #[.string s] w fun e w' => ∃ p k : Nat, (isLb (bl s) s.size k ∧ p = s.size - k) ∧ e = .returned (.int .i64 ((p : Nat) : Int)) ∧ Below w.heap.size w w' := by
  have HP := Lib.hid (fun W => implPeriodsOf_any s W hok hne)
  clear hok
  go_enter Tryd.func45, Tryd.ntmps45
  go_wp2_with fail
  refine (HP.out _).mono ?_
  rintro e w2 ⟨ys, ⟨h1, k, hk, hy⟩, a, c, rfl, hoY, hb2⟩
  obtain ⟨b, rfl, hc⟩ := natCell hoY (j := 0) (by omega)
  rw [hy] at hc
  have HK := Lib.hid hk
  have B2 := Lib.hid hb2
  have q0 : ((ys.length : Int) == 0) = false := by rw [beq_eq_false_iff_ne]; omega
  have q1 : ¬ (ys.length : Int) = 0 := by omega
  have q2 : (0 : Int) < (ys.length : Int) := by omega
  have q3 : ¬ ys.length = 0 := by omega
  obtain ⟨p, hp⟩ : ∃ p, p = s.size - k := ⟨_, rfl⟩
  rw [← hp] at hc
  have HPK := Lib.hid hp
  clear hoY hb2 hk hy HP hp
  go_wp2_with fail
  go_ret
  exact ⟨p, k, ⟨HK.out, HPK.out⟩, rfl, B2.out⟩
set_option maxRecDepth 20000 in
set_option maxHeartbeats 4000000 in
theorem specPeriodsOf_any (s : ByteArray) (w : World) (hok : longOkB 4 s = true) (hne : 1 ≤ s.size) :
    Calls Tryd.prog 50 #[.string s] w (RetPer (bl s) s.size w) := by
  have hsz := longOk_size hok
  have HBO := Lib.hid (fun W => specBordersOf_any s W hok hne)
  clear hok
  go_enter Tryd.func50, Tryd.ntmps50
  go_wp2_with fail
  refine (HBO.out _).mono ?_
  rintro e w2 ⟨xs, hbo, a, c, rfl, hoX, hb2⟩
  have HX := Lib.hid hoX
  have HBK := Lib.hid hbo
  have B2 := Lib.hid hb2
  obtain ⟨hx1, hx2, _, _⟩ := hbo
  have HS : Hid (Bld 3 1 w2 (w2.alloc (.cells #[] 3)) (.slice (some ⟨w2.heap.size, 0, none⟩) 0 0) 0 (natVals [])) := Lib.hid (Bld.empty 3 1 w2)
  clear hoX hb2 HBO
  go_wp2_with fail
  go_loopw [4, 5] (fun o i wr => ∃ (x : Int) (ys : List Nat), i = .int .i64 x ∧ x + 1 + (ys.length : Int) = (xs.length : Int) ∧ -1 ≤ x ∧ Hid (headOk s.size (lastN xs) ys) ∧ Bld 3 1 w2 wr o ys.length (natVals ys)) (fun _ i _ => (intOf i + 1).toNat)
  case atStart => exact ⟨(xs.length : Int) - 1, [], rfl, by simp; try omega, by omega, Lib.hid (.inl rfl), HS.out⟩
  case round =>
    clear HS
    obtain ⟨x, ys, rfl, hxy, hx0, HH, hbd⟩ := hrel
    obtain ⟨a3, c3, rfl⟩ := owns_form hbd.1
    have HB := Lib.hid hbd
    clear hbd
    by_cases hlt : 0 ≤ x
    · obtain ⟨m, rfl⟩ := Int.eq_ofNat_of_zero_le hlt
      have hmx : m < xs.length := by omega
      obtain ⟨b, rfl, hc⟩ := natCell (owns_later HX.out HB.out.2) (j := m) hmx
      have hv := HBK.out.2.2.2 m hmx
      have HLast : Hid (ys.length = 0 → s.size - xs.getD m 0 = s.size - lastN xs) := Lib.hid (fun h => by
        unfold lastN
        rw [show m = xs.length - 1 by omega])
      generalize xs.getD m 0 = v at *
      have q1 : (s.size : Int) - (v : Int) = ((s.size - v : Nat) : Int) := by omega
      have q2 : (m : Int) < (xs.length : Int) := by omega
      have q3 : (0 : Int) ≤ (m : Int) := by omega
      have F := Lib.hid (headOk_snoc HH.out HLast.out)
      have hyl : ys.length ≤ 1000 := by omega
      clear HLast
      go_wp2_with (at_builtin; refine wpList_app1 rfl _ _ rfl Tryd.underlying22 Tryd.infoInt rfl (by decide) rfl HB.out rfl rfl ?c1 ?c2 ?c3 ?c4)
      case c1 => simp [Value.oneCell']
      case c2 => unfold maxLen; omega
      case c3 => omega
      intro v3 w3 hb3
      have F3 : Hid (Bld 3 1 w2 w3 v3 (ys ++ [s.size - v]).length (natVals (ys ++ [s.size - v]))) := Lib.hid (by
        rw [List.length_append, List.length_singleton, natVals_snoc]; exact hb3)
      clear hb3
      go_wp2_with fail
      go_roundw
      case rel => exact ⟨(m : Int) - 1, ys ++ [s.size - v], rfl, by rw [List.length_append, List.length_singleton]; omega, by omega, F, F3.out⟩
      case measure => simp [intOf]
    · obtain rfl : x = -1 := by omega
      have hyx : ys.length = xs.length := by omega
      have F : Hid (RetPer (bl s) s.size w (.returned (.slice a3 ys.length c3)) wr) := Lib.hid ⟨ys, ⟨by omega, lastN xs, HBK.out.2.2.1, HH.out.resolve_left (by omega)⟩, (HB.out.since B2.out).ret⟩
      clear hyx
      go_wp2_with fail
      go_ret
      exact F.out
set_option maxHeartbeats 1000000 in
theorem specLeastPeriod_any (s : ByteArray) (w : World) (hok : longOkB 4 s = true) (hne : 1 ≤ s.size) :
    Calls Tryd.prog 41 #[.string s] w fun e w' => ∃ p k : Nat, (isLb (bl s) s.size k ∧ p = s.size - k) ∧ e = .returned (.int .i64 ((p : Nat) : Int)) ∧ Below w.heap.size w w' := by
  have HP := Lib.hid (fun W => specPeriodsOf_any s W hok hne)
  clear hok
  go_enter Tryd.func41, Tryd.ntmps41
  go_wp2_with fail
  refine (HP.out _).mono ?_
  rintro e w2 ⟨ys, ⟨h1, k, hk, hy⟩, a, c, rfl, hoY, hb2⟩
  obtain ⟨b, rfl, hc⟩ := natCell hoY (j := 0) (by omega)
  rw [hy] at hc
  have HK := Lib.hid hk
  have B2 := Lib.hid hb2
  have q0 : ((ys.length : Int) == 0) = false := by rw [beq_eq_false_iff_ne]; omega
  have q1 : ¬ (ys.length : Int) = 0 := by omega
  have q2 : (0 : Int) < (ys.length : Int) := by omega
  have q3 : ¬ ys.length = 0 := by omega
  obtain ⟨p, hp⟩ : ∃ p, p = s.size - k := ⟨_, rfl⟩
  rw [← hp] at hc
  have HPK := Lib.hid hp
  clear hoY hb2 hk hy HP hp
  go_wp2_with fail
  go_ret
  exact ⟨p, k, ⟨HK.out, HPK.out⟩, rfl, B2.out⟩
end Go.Proofs.YtldkghfnlkbmpaaDoor
