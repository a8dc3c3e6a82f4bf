/-
  firstStep, apply and normal of the program.
-/
import Derived.Test.YtdpfgdckgchpdaaGreatDoorGrp18
namespace Go.Proofs.YtdpfgdckgchpdaaGreatDoor
open Go.RowKit
set_option linter.unusedVariables false
theorem stTo_none {R : List RulD} {w : ByteArray} {i k : Nat} (h0 : stTo R w i k = []) (h : preAt w i (nthR R k).1 = false) : stTo R w i (k + 1) = [] := by rw [stTo_no h, h0]
set_option maxRecDepth 100000 in
set_option maxHeartbeats 2000000 in
theorem implFirstStep_any (k : Int) (R : List RulD) (a : Option Addr) (cap : Nat) (w0 : ByteArray) (w : World) (hl : RulesIn w a R) (hs : sysP k R) (hw : w0.size ≤ 16) :
    Calls Tryz.prog 109 #[.agg #[.int .i64 k, .slice a R.length cap], .string w0] w (RetFS R w0 w) := by
  have h12 : R.length ≤ 12 := hs.1.1.2
  have h8 := left8 hs
  have HL := Lib.hid hl
  have HA2 := Lib.hid (fun o o2 => Below.now (alloc_belowS w o) (alloc_belowS (w.alloc o) o2))
  have e1 : (w.alloc (.cells #[.int .i64 k, .slice a R.length cap] 29)).heap.size = w.heap.size + 1 := by simp
  have HBX := Lib.hid (fun W2 (h : Below ((w.alloc (.cells #[.int .i64 k, .slice a R.length cap] 29)).alloc (.cells #[.int .i64 0, .int .i64 0] 54)).heap.size ((w.alloc (.cells #[.int .i64 k, .slice a R.length cap] 29)).alloc (.cells #[.int .i64 0, .int .i64 0] 54)) W2) => And.intro (box_two (Below.now (alloc_belowS (w.alloc (.cells #[.int .i64 k, .slice a R.length cap] 29)) _) h)) (box_facts h))
  rw [e1] at HBX
  have HW1 : Hid (Below w.heap.size w ((w.alloc (.cells #[.int .i64 k, .slice a R.length cap] 29)).alloc (.cells #[.int .i64 0, .int .i64 0] 54))) := Lib.hid (HA2.out _ _)
  have HL1 := Lib.hid (HL.out.later HW1.out)
  clear hl hs e1
  go_enter Tryz.func109, Tryz.ntmps109
  go_wp2_with fail
  generalize (w.alloc (.cells #[.int .i64 k, .slice a R.length cap] 29)).alloc (.cells #[.int .i64 0, .int .i64 0] 54) = w1 at *
  go_loopw [11] (fun vi wr => ∃ i : Nat, i ≤ w0.size ∧ vi = .int .i64 (i : Nat) ∧ Hid (stTo R w0 i 0 = []) ∧ Below w1.heap.size w1 wr) (fun vi _ => w0.size - (intOf vi).toNat)
  case atStart => exact ⟨0, Nat.zero_le _, rfl, Lib.hid rfl, Below.refl _ _⟩
  case round =>
    obtain ⟨i, hi, rfl, HNO, hbw⟩ := hrel
    have HB := Lib.hid hbw
    obtain ⟨⟨s0, s1⟩, ⟨b0, b1⟩, f0, f1⟩ := HBX.out wr hbw
    clear hbw
    by_cases hlt : i < w0.size
    · have HXT := Lib.hid (stTo_next R w0 i)
      go_wp2_with fail
      generalize hW : wr = wr0 at *
      clear hW s0 s1 b0 b1 f0 f1
      go_loopw [17] (fun vr wr => ∃ r : Nat, r ≤ R.length ∧ vr = .int .i64 (r : Nat) ∧ Hid (stTo R w0 i r = []) ∧ Below w1.heap.size w1 wr) (fun vr _ => R.length - (intOf vr).toNat)
      case atStart => exact ⟨0, Nat.zero_le _, rfl, HNO, HB.out⟩
      case round =>
        clear HB HNO
        obtain ⟨r, hr, rfl, HNO, hbw⟩ := hrel
        by_cases hlr : r < R.length
        · obtain ⟨b, off, rfl, hb, k0, k1⟩ := rule_at HL1.out hbw hlr
          have hl8 := h8 r
          have HY := Lib.hid (fun h => first_at (R := R) (w := w0) (i := i) (k := r) hlt hlr HNO.out h)
          have HN := Lib.hid (fun h => stTo_none (R := R) (w := w0) (i := i) (k := r) HNO.out h)
          have HHP := Lib.hid (fun W => Tryz.strings_HasPrefix (w0.extract i w0.size) (nthR R r).1 W)
          rw [preAt_hp] at HHP
          have x3 : (i : Int) ≤ (w0.size : Int) := by omega
          have x4 : i ≤ w0.size := by omega
          have HB := Lib.hid hbw
          clear hbw
          generalize (nthR R r).1 = l at *
          generalize (nthR R r).2 = q at *
          go_wp2_with fail
          have HB5 := Lib.hid (Below.now HB.out (alloc_belowS wr (.cells #[.string l, .string q] 60)))
          have hcb := alloc_at wr (.cells #[.string l, .string q] 60)
          have hc0 := (sys_cells hcb).1
          clear k0 k1 hcb
          generalize hg : wr.heap.size = g at *
          generalize wr.alloc (.cells #[.string l, .string q] 60) = w5 at *
          cases hp : preAt w0 i l
          · have HNX := Lib.hid (HN.out hp)
            rw [hp] at HHP
            clear hp HY HN
            go_quiet ((go_at_call 150; refine (HHP.out _).mono ?_; rintro e w' ⟨rfl, rfl⟩; exact ⟨rfl, ⟨_, rfl⟩⟩))
            have HB6 := Lib.hid (Below.now HB5.out (below_drewN (Below.refl _ _) nq))
            go_wp2_with fail
            go_roundw
            case rel => exact ⟨r + 1, by omega, by go_num, HNX, HB6.out⟩
            case measure => simp [intOf]; omega
          · have HYX := Lib.hid (HY.out hp)
            rw [hp] at HHP
            clear hp HY HN
            go_quiet ((go_at_call 150; refine (HHP.out _).mono ?_; rintro e w' ⟨rfl, rfl⟩; exact ⟨rfl, ⟨_, rfl⟩⟩))
            have HB6 := Lib.hid (Below.now HB5.out (below_drewN (Below.refl _ _) nq))
            obtain ⟨_, ⟨b0, b1⟩, f0, f1⟩ := HBX.out _ HB6.out
            have HW6 := Lib.hid (Below.now HW1.out HB6.out)
            clear hc0
            go_wp2_with fail
            refine bodyPost_ret (v := .tuple #[.agg #[.int .i64 (r : Nat), .int .i64 (i : Nat)], .bool true]) ?_ rfl ?_
            · simp [results, Tryz.results109, go_sem, b0, b1]
            · exact ⟨(HW6.out.setCell (show w.heap.size ≤ w.heap.size + 1 by omega) _).setCell (show w.heap.size ≤ w.heap.size + 1 by omega) _, .inl ⟨(r, i), HYX.out, rfl⟩⟩
        · obtain rfl : r = R.length := by omega
          have HN2 : Hid (stTo R w0 (i + 1) 0 = []) := Lib.hid (by rw [← HXT.out]; exact HNO.out)
          go_wp2_with fail
          go_roundw
          case rel => exact ⟨i + 1, by omega, by go_num, HN2, hbw⟩
          case measure => simp [intOf]; omega
    · obtain rfl : i = w0.size := by omega
      have HHD : Hid ((stepsF R w0).head? = none) := Lib.hid (by rw [← stTo_done, HNO.out]; rfl)
      have HW6 := Lib.hid (Below.now HW1.out HB.out)
      go_wp2_with fail
      refine bodyPost_ret (v := .tuple #[.agg #[.int .i64 0, .int .i64 0], .bool false]) ?_ rfl ?_
      · simp [results, Tryz.results109, go_sem, b0, b1]
      · exact ⟨(HW6.out.setCell (show w.heap.size ≤ w.heap.size + 1 by omega) _).setCell (show w.heap.size ≤ w.heap.size + 1 by omega) _, .inr ⟨HHD.out, rfl⟩⟩
end Go.Proofs.YtdpfgdckgchpdaaGreatDoor
