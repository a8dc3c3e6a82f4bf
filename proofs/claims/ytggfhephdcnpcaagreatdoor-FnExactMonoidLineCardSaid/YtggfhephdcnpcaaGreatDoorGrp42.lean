/-
  StepsOf and ApplyStep of the program.
-/
import Derived.Test.YtggfhephdcnpcaaGreatDoorGrp41
import Derived.Deep.RegionHeld3
namespace Go.Proofs.YtggfhephdcnpcaaGreatDoor
open Go.RowKit
set_option linter.unusedVariables false
set_option maxHeartbeats 1000000 in
theorem implStepsOf_any (k : Int) (R : List RulD) (a : Option Addr) (cap : Nat) (w0 : ByteArray) (w : World) (hl : RulesIn w a R) (hs : sysP k R) (hw : w0.size ≤ 16) :
    Calls Tryz.prog 138 #[.agg #[.int .i64 k, .slice a R.length cap], .string w0] w (RetSl 54 2 (stepsF R w0).length (cellsL stV (stepsF R w0)) w) := by
  have HL := Lib.hid hl
  have hz : SzR R := fun j hj => by have := (hs.1.2 _ (nthR_mem hj)).1.2; unfold maxLen; omega
  have HRO := Lib.hid (fun W h => implRulesOk_any k R a cap W h (by have := hs.1.1.2; omega) hz)
  have HRP := Lib.hid hs.1
  have HST := Lib.hid (fun W h => implSteps_any k R a cap w0 W h hs hw)
  have HBX := Lib.hid (fun W2 (h : Below (w.alloc (.cells #[.int .i64 k, .slice a R.length cap] 29)).heap.size (w.alloc (.cells #[.int .i64 k, .slice a R.length cap] 29)) W2) => box_two h)
  have HA := Lib.hid (fun o => alloc_belowS w o)
  clear hl hs hz
  go_enter Tryz.func138, Tryz.ntmps138
  go_wp2_with fail
  refine (HRO.out _ (HL.out.later (HA.out _))).mono ?_
  rintro e w1 ⟨bb, hbb, rfl, hb1⟩
  obtain rfl := hbb.2 HRP.out
  obtain ⟨s0, s1⟩ := HBX.out _ hb1
  have HW1 := Lib.hid (Below.now (HA.out _) hb1)
  clear hbb hb1
  go_wp2_with fail
  refine (HST.out _ (HL.out.later HW1.out)).mono ?_
  rintro e w2 ⟨a2, c2, rfl, ho, hb2⟩
  have F : Hid (RetSl 54 2 (stepsF R w0).length (cellsL stV (stepsF R w0)) w (.returned (.slice a2 (stepsF R w0).length c2)) w2) := Lib.hid ⟨a2, c2, rfl, owns_mono ho HW1.out.size, Below.now HW1.out hb2⟩
  clear ho hb2
  go_wp2_with fail
  go_ret
  exact F.out
set_option maxRecDepth 100000 in
set_option maxHeartbeats 2000000 in
theorem indexStep_any (S : List (Nat × Nat)) (a : Option Addr) (cap : Nat) (x y : Nat) (w : World) (hl : RowsIn stV w a S) (hlen : S.length ≤ 1000) (hm : (x, y) ∈ S) :
    Calls Tryz.prog 190 #[.slice a S.length cap, .agg #[.int .i64 (x : Nat), .int .i64 (y : Nat)]] w fun e w' => ∃ j : Nat, e = .returned (.int .i64 (j : Nat)) ∧ Below w.heap.size w w' := by
  have HM := Lib.hid hm
  have hb1 := alloc_belowS w (.cells #[.int .i64 (x : Nat), .int .i64 (y : Nat)] 54)
  have HBX := Lib.hid (fun W2 (h : Below (w.alloc (.cells #[.int .i64 (x : Nat), .int .i64 (y : Nat)] 54)).heap.size (w.alloc (.cells #[.int .i64 (x : Nat), .int .i64 (y : Nat)] 54)) W2) => box_two h)
  have HW1 := Lib.hid hb1
  have HI : Hid (RowsIn stV (w.alloc (.cells #[.int .i64 (x : Nat), .int .i64 (y : Nat)] 54)) a S) := Lib.hid (hl.later hb1)
  clear hl hm hb1
  go_enter Tryz.func190, Tryz.ntmps190
  go_wp2_with fail
  generalize w.alloc (.cells #[.int .i64 (x : Nat), .int .i64 (y : Nat)] 54) = w1 at *
  go_loopw [8] (fun vj wr => ∃ j : Nat, j ≤ S.length ∧ vj = .int .i64 (j : Nat) ∧ Hid (∀ i (h : i < S.length), i < j → S[i] ≠ (x, y)) ∧ Below w1.heap.size w1 wr) (fun vj _ => S.length - (intOf vj).toNat)
  case atStart => exact ⟨0, Nat.zero_le _, rfl, Lib.hid (fun i _ h => absurd h (Nat.not_lt_zero _)), Below.refl _ _⟩
  case round =>
    obtain ⟨j, hj, rfl, HNO, hbw⟩ := hrel
    have HBW := Lib.hid hbw
    by_cases hlt : j < S.length
    · obtain ⟨b, off, rfl, hb, hc⟩ := RowsIn.cell stV_len (by omega) (HI.out.later hbw) hlt
      have c0 : wr.cell? ⟨b, off + j * 2, none⟩ = some (.int .i64 (S[j].1 : Nat)) := hc j hlt 0 _ rfl
      have c1 : wr.cell? ⟨b, off + j * 2 + 1, none⟩ = some (.int .i64 (S[j].2 : Nat)) := hc j hlt 1 _ rfl
      have HST : Hid (S[j] ≠ (x, y) → ∀ i (h : i < S.length), i < j + 1 → S[i] ≠ (x, y)) := Lib.hid (fun h i hi hij => by
        by_cases e : i = j
        · subst e; exact h
        · exact HNO.out i hi (by omega))
      obtain ⟨d0, d1⟩ := HBX.out wr hbw
      clear hc hbw
      generalize S[j] = z at *
      obtain ⟨z1, z2⟩ := z
      by_cases hx : z1 = x
      · subst hx
        by_cases hy : z2 = y
        · subst hy
          go_wp2_with fail
          go_quiet (fail)
          have HB2 := Lib.hid (Below.now HW1.out (Below.now HBW.out (below_drewN (Below.refl _ _) nq)))
          go_wp2_with fail
          go_ret
          exact ⟨j, rfl, HB2.out⟩
        · have F := Lib.hid (HST.out (by simp; exact hy))
          have g1 : ¬ (y : Int) = (z2 : Int) := by omega
          go_wp2_with fail
          go_quiet (fail)
          have HB2 := Lib.hid (Below.now HBW.out (below_drewN (Below.refl _ _) nq))
          go_wp2_with fail
          go_roundw
          case rel => exact ⟨j + 1, by omega, by go_num, F, HB2.out⟩
          case measure => simp [intOf]; omega
      · have F := Lib.hid (HST.out (by simp; intro h; exact absurd h hx))
        have g1 : ¬ (x : Int) = (z1 : Int) := by omega
        go_wp2_with fail
        go_quiet (fail)
        have HB2 := Lib.hid (Below.now HBW.out (below_drewN (Below.refl _ _) nq))
        go_wp2_with fail
        go_roundw
        case rel => exact ⟨j + 1, by omega, by go_num, F, HB2.out⟩
        case measure => simp [intOf]; omega
    · exfalso
      obtain ⟨i, hi, he⟩ := List.getElem_of_mem HM.out
      exact HNO.out i hi (by omega) he
set_option maxHeartbeats 1000000 in
theorem containsStep_any (S : List (Nat × Nat)) (a : Option Addr) (cap : Nat) (x y : Nat) (w : World) (hl : RowsIn stV w a S) (hlen : S.length ≤ 1000) (hm : (x, y) ∈ S) :
    Calls Tryz.prog 137 #[.slice a S.length cap, .agg #[.int .i64 (x : Nat), .int .i64 (y : Nat)]] w fun e w' => e = .returned (.bool true) ∧ Below w.heap.size w w' := by
  have hb1 := alloc_belowS w (.cells #[.int .i64 (x : Nat), .int .i64 (y : Nat)] 54)
  have HI := Lib.hid (indexStep_any S a cap x y (w.alloc (.cells #[.int .i64 (x : Nat), .int .i64 (y : Nat)] 54)) (hl.later hb1) hlen hm)
  have HW1 := Lib.hid hb1
  clear hl hm hb1
  go_enter Tryz.func137, Tryz.ntmps137
  go_wp2_with fail
  refine HI.out.mono ?_
  rintro e w2 ⟨j, rfl, hb2⟩
  have HB2 := Lib.hid (Below.now HW1.out hb2)
  have hj : (0 : Int) ≤ (j : Int) := by omega
  clear hb2
  go_wp2_with fail
  go_ret
  exact ⟨rfl, HB2.out⟩
set_option maxRecDepth 100000 in
set_option maxHeartbeats 2000000 in
theorem implApplyStep_any (k : Int) (R : List RulD) (a : Option Addr) (cap : Nat) (w0 : ByteArray) (x y : Nat) (w : World) (hl : RulesIn w a R) (hs : sysP k R) (hw : w0.size ≤ 16) (hm : (x, y) ∈ stepsF R w0) :
    Calls Tryz.prog 74 #[.agg #[.int .i64 k, .slice a R.length cap], .string w0, .agg #[.int .i64 (x : Nat), .int .i64 (y : Nat)]] w fun e w' => e = .returned (.tuple #[.string (applyF R w0 (x, y)), .bool true]) ∧ Below w.heap.size w w' := by
  have HL := Lib.hid hl
  have HSO := Lib.hid (fun W h => implStepsOf_any k R a cap w0 W h hs hw)
  have HAP := Lib.hid (fun W h => implApply_any k R a cap w0 x y W h hs hw hm)
  have hlen := stepsF_len R w0
  have hlb : w0.size * R.length ≤ 16 * 12 := Nat.mul_le_mul hw hs.1.1.2
  have HCT := Lib.hid (fun a c W h => containsStep_any (stepsF R w0) a c x y W h (by omega) hm)
  have HA2 := Lib.hid (fun o o2 => Below.now (alloc_belowS w o) (alloc_belowS (w.alloc o) o2))
  have e1 : (w.alloc (.cells #[.int .i64 k, .slice a R.length cap] 29)).heap.size = w.heap.size + 1 := by simp
  have HBX := Lib.hid (fun W2 (h : Below ((w.alloc (.cells #[.int .i64 k, .slice a R.length cap] 29)).alloc (.cells #[.int .i64 (x : Nat), .int .i64 (y : Nat)] 54)).heap.size ((w.alloc (.cells #[.int .i64 k, .slice a R.length cap] 29)).alloc (.cells #[.int .i64 (x : Nat), .int .i64 (y : Nat)] 54)) W2) => And.intro (box_two (Below.now (alloc_belowS (w.alloc (.cells #[.int .i64 k, .slice a R.length cap] 29)) _) h)) (box_facts h).1)
  rw [e1] at HBX
  have HW1 : Hid (Below w.heap.size w ((w.alloc (.cells #[.int .i64 k, .slice a R.length cap] 29)).alloc (.cells #[.int .i64 (x : Nat), .int .i64 (y : Nat)] 54))) := Lib.hid (HA2.out _ _)
  clear hl hs hm e1 HA2 hlen hlb
  go_enter Tryz.func74, Tryz.ntmps74
  go_wp2_with fail
  generalize (w.alloc (.cells #[.int .i64 k, .slice a R.length cap] 29)).alloc (.cells #[.int .i64 (x : Nat), .int .i64 (y : Nat)] 54) = w1 at *
  have HL1 := Lib.hid (HL.out.later HW1.out)
  obtain ⟨⟨r0, r1⟩, r2, r3⟩ := HBX.out w1 (Below.refl _ _)
  generalize stepsF R w0 = S at *
  generalize hv : applyF R w0 (x, y) = v at *
  have HV := Lib.hid hv
  clear hv
  go_region_held3 (fun w' => w'.cell? ⟨w.heap.size, 0, none⟩ = some (.int .i64 k) ∧ w'.cell? ⟨w.heap.size, 1, none⟩ = some (.slice a R.length cap) ∧ w'.cell? ⟨w.heap.size + 1, 0, none⟩ = some (.int .i64 (x : Nat)) ∧ w'.cell? ⟨w.heap.size + 1, 1, none⟩ = some (.int .i64 (y : Nat))) (go_keep) (first
    | (go_at_call 138; refine (HSO.out _ (HL1.out.later (by repeat (first | exact Below.refl _ _ | refine Below.drew ?_ | refine below_drewN ?_ _)))).mono ?_; rintro e w5 ⟨a5, c5, rfl, ho5, hb5⟩; have K5 : Hid (Below w1.heap.size w1 w5) := Lib.hid (Below.now (by repeat (first | exact Below.refl _ _ | refine Below.drew ?_ | refine below_drewN ?_ _)) hb5); have I5 := Lib.hid (owns_rows ho5); have t0 := (HBX.out w5 K5.out).1.1; have t1 := (HBX.out w5 K5.out).1.2; have t2 := (HBX.out w5 K5.out).2.1; have t3 := (HBX.out w5 K5.out).2.2; clear hb5 ho5)
    | (go_at_call 137; refine (HCT.out _ _ _ (I5.out.later (by repeat (first | exact Below.refl _ _ | refine Below.drew ?_ | refine below_drewN ?_ _)))).mono ?_; rintro e w6 ⟨rfl, hb6⟩; have K6 : Hid (Below w1.heap.size w1 w6) := Lib.hid (Below.now K5.out (Below.now (by repeat (first | exact Below.refl _ _ | refine Below.drew ?_ | refine below_drewN ?_ _)) hb6)); have u0 := (HBX.out w6 K6.out).1.1; have u1 := (HBX.out w6 K6.out).1.2; have u2 := (HBX.out w6 K6.out).2.1; have u3 := (HBX.out w6 K6.out).2.2; clear hb6))
  all_goals
    clear r0 r1 r2 r3 t0 t1 t2 t3
    have HLW := Lib.hid (HL1.out.later K6.out)
    go_wp2_with fail
    refine (HAP.out _ HLW.out).mono ?_
    rintro e w9 ⟨rfl, hb9⟩
    have HB9 := Lib.hid (Below.now HW1.out (Below.now K6.out hb9))
    clear hb9 u0 u1 u2 u3
    go_wp2_with fail
    refine bodyPost_ret (v := .tuple #[.string v, .bool true]) ?_ rfl ⟨by rw [HV.out], HB9.out⟩
    simp [results, Tryz.results74, go_sem]
end Go.Proofs.YtggfhephdcnpcaaGreatDoor
