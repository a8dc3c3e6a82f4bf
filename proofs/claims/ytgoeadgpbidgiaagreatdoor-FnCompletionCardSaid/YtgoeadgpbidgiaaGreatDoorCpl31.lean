/-
  PairsOf, SidesOf, IsJoined of the program.
-/
import Derived.Test.YtgoeadgpbidgiaaGreatDoorCpl30
import Derived.Test.YtgoeadgpbidgiaaGreatDoorCpl29
import Derived.Test.YtgoeadgpbidgiaaGreatDoorCpl07
import Derived.Test.YtgoeadgpbidgiaaGreatDoorCpl13
import Derived.Test.YtgoeadgpbidgiaaGreatDoorCpl04
import Derived.Test.YtgoeadgpbidgiaaGreatDoorCpl24
import Derived.Test.YtgoeadgpbidgiaaGreatDoorCpl14
namespace Go.Proofs.YtgoeadgpbidgiaaGreatDoor
open Go.RowKit
set_option linter.unusedVariables false
def turnsZ (c T : Nat) : Int := if c = 0 then (T : Int) else -1
set_option maxRecDepth 20000 in
set_option maxHeartbeats 2000000 in
theorem implTurnsFor_any (k : Int) (E : List RulD) (a : Option Addr) (cap : Nat) (w : World) (hl : RulesIn w a E) (hlen : E.length ≤ 2 ^ 40) (hz : SzR E) (hmx : MaxL w) (hst : startP k E) :
    Calls Tryz.prog 13 #[.int .i64 k, .slice a E.length cap] w fun e w' => ∃ c R Q T, RunIs [] E 0 c R Q T ∧ e = .returned (.int .i64 (turnsZ c T)) ∧ Below w.heap.size w w' := by
  have HR := Lib.hid (implCompleted_any k E a cap w hl hlen hz hmx)
  have HST := Lib.hid hst
  clear hl hz hmx hst
  go_enter Tryz.func13, Tryz.ntmps13
  go_wp2_with fail
  refine HR.out.mono ?_
  rintro e w2 hr
  rcases hr with ⟨hst, c, R, Q, T, aR, cR, aQ, cQ, hrun, rfl, hR, hQ, hb2⟩ | ⟨hst, rfl, hb2⟩
  · unfold workVal
    have HRN := Lib.hid hrun
    have HB := Lib.hid (Below.now hb2 (alloc_belowS w2 (.cells #[.int .i64 k, .slice aR R.length cR, .slice aQ Q.length cQ, .int .i64 ((T : Nat) : Int)] 69)))
    obtain ⟨⟨q0, q1, q2, q3⟩, _⟩ := four_cells (alloc_at w2 (.cells #[.int .i64 k, .slice aR R.length cR, .slice aQ Q.length cQ, .int .i64 ((T : Nat) : Int)] 69))
    clear hst hR hQ hb2 hrun
    by_cases hc : c = 0
    · have hc2 : ((c : Nat) : Int) = 0 := by omega
      have F : Hid (((T : Nat) : Int) = turnsZ c T) := Lib.hid (by unfold turnsZ; rw [if_pos hc])
      clear hc
      rw [hc2]
      clear hc2
      go_wp2_with fail
      go_ret
      exact ⟨c, R, Q, T, HRN.out, ret_int F.out, HB.out⟩
    · have hc2 : (((c : Nat) : Int) == 0) = false := by rw [beq_eq_false_iff_ne]; omega
      have hc3 : (((c : Nat) : Int) != 0) = true := by rw [bne_iff_ne]; omega
      have hc4 : ¬ ((c : Nat) : Int) = 0 := by omega
      have F : Hid ((-1 : Int) = turnsZ c T) := Lib.hid (by unfold turnsZ; rw [if_neg hc])
      go_wp2_with fail
      go_ret
      exact ⟨c, R, Q, T, HRN.out, ret_int F.out, HB.out⟩
  · exact absurd HST.out hst
set_option maxRecDepth 20000 in
set_option maxHeartbeats 4000000 in
theorem implIsInterreduced_any (k : Int) (R : List RulD) (a : Option Addr) (cap : Nat) (w : World) (hl : RulesIn w a R) (hs : sysP k R) (hi : InterP R) (hmx : MaxL w) :
    Calls Tryz.prog 17 #[.agg #[.int .i64 k, .slice a R.length cap]] w fun e w' => e = .returned (.bool true) ∧ Below w.heap.size w w' := by
  have h12 : R.length ≤ 12 := hs.1.1.2
  have hSz : SzR R := szR_of hs
  have HSO : Hid (∀ W, RulesIn W a R → Calls Tryz.prog 14 #[.agg #[.int .i64 k, .slice a R.length cap]] W fun e w' => e = .returned (.bool true) ∧ Below W.heap.size W w') := Lib.hid (fun W hW => by
    refine (implSystemOk_any k R a cap W hW (by omega) hSz).mono ?_
    rintro e w' ⟨b, hb, rfl, hb2⟩
    rw [hb.2 hs]
    exact ⟨rfl, hb2⟩)
  have HZ : Hid (∀ i, i < R.length → ((nthR R i).1.size ≤ 8 ∧ (nthR R i).2.size ≤ 8) ∧ (nthR R i).1.size ≠ 0) := Lib.hid (fun i hi2 => ⟨(hs.1.2 _ (nthR_mem hi2)).1.2, (hs.1.2 _ (nthR_mem hi2)).2⟩)
  have HIL : Hid (∀ i j, i < R.length → j < R.length → i ≠ j → hasB (nthR R j).1 (nthR R i).1 = false) := Lib.hid (fun i j hi2 hj hne => by
    have hp := List.pairwise_iff_getElem.1 hi.left
    rcases Nat.lt_or_gt_of_ne hne with h | h
    · have := (hp i j hi2 hj h).2
      rw [nthR_lt hi2, nthR_lt hj]; exact this
    · have := (hp j i hj hi2 h).1
      rw [nthR_lt hi2, nthR_lt hj]; exact this)
  have HIR : Hid (∀ i j, i < R.length → j < R.length → hasB (nthR R j).2 (nthR R i).1 = false) := Lib.hid (fun i j hi2 hj => hi.right _ (nthR_mem hj) _ (nthR_mem hi2))
  have HCO := Lib.hid (fun (x y : ByteArray) W (h1 : y.size ≠ 0) (h2 : x.size ≤ 8) (h3 : MaxL W) => contains_any x y W h1 (by omega) h3)
  have HB := Lib.hid (alloc_belowS w (.cells #[.int .i64 k, .slice a R.length cap] 33))
  have HX : Hid (∀ W, Below (w.alloc (.cells #[.int .i64 k, .slice a R.length cap] 33)).heap.size (w.alloc (.cells #[.int .i64 k, .slice a R.length cap] 33)) W → (W.cell? ⟨w.heap.size, 0, none⟩ = some (.int .i64 k) ∧ W.cell? ⟨w.heap.size, 1, none⟩ = some (.slice a R.length cap)) ∧ RulesIn W a R ∧ MaxL W) := Lib.hid (fun W hW => ⟨⟨by rw [hW.cell (by simp)]; simp, by rw [hW.cell (by simp)]; simp⟩, (hl.later HB.out).later hW, (hmx.later HB.out).later hW⟩)
  clear hl hs hi hmx hSz
  go_enter Tryz.func17, Tryz.ntmps17
  go_upto_region 1 with fail
  generalize w.alloc (.cells #[.int .i64 k, .slice a R.length cap] 33) = w1 at *
  obtain ⟨⟨s0, s1⟩, hR1, -⟩ := HX.out w1 (Below.refl _ _)
  have HR1 := Lib.hid hR1
  clear hR1
  go_wp2_with fail
  refine (HSO.out _ HR1.out).mono ?_
  rintro e w2 ⟨rfl, hb2⟩
  have HB2 := Lib.hid hb2
  clear s0 s1 hb2 HR1
  obtain ⟨⟨s0, s1⟩, -⟩ := HX.out w2 HB2.out
  go_wp2_with fail
  go_loopw [13] (fun i wr => ∃ j : Nat, j ≤ R.length ∧ i = .int .i64 (j : Nat) ∧ Hid (Below w1.heap.size w1 wr)) (fun i _ => R.length - (intOf i).toNat)
  case atStart => exact ⟨0, Nat.zero_le _, rfl, HB2⟩
  case round =>
    clear s0 s1 HB2
    obtain ⟨i, hi, rfl, HBR⟩ := hrel
    obtain ⟨⟨s0, s1⟩, hRr, -⟩ := HX.out wr HBR.out
    by_cases hlt : i < R.length
    · obtain ⟨b, off, rfl, hb, hc⟩ := hRr.cell hlt
      obtain ⟨c0, c1⟩ := hc i hlt
      obtain ⟨⟨hz1, hz2⟩, hz3⟩ := HZ.out i hlt
      have HILi := Lib.hid (fun j hj hne => HIL.out i j hlt hj hne)
      have HIRi := Lib.hid (fun j hj => HIR.out i j hlt hj)
      have hil : (i : Int) < (R.length : Int) := by omega
      clear hc hRr
      generalize (nthR R i).1 = x at *
      generalize (nthR R i).2 = y at *
      go_upto_region 6 with fail
      have HB5 := Lib.hid (Below.now HBR.out (alloc_belowS wr (.cells #[.string x, .string y] 39)))
      have HY : Hid (∀ W, Below (wr.alloc (.cells #[.string x, .string y] 39)).heap.size (wr.alloc (.cells #[.string x, .string y] 39)) W → W.cell? ⟨wr.heap.size, 0, none⟩ = some (.string x) ∧ W.cell? ⟨wr.heap.size, 1, none⟩ = some (.string y)) := Lib.hid (fun W hW => ⟨by rw [hW.cell (by simp)]; simp, by rw [hW.cell (by simp)]; simp⟩)
      generalize hg4 : wr.heap.size = g4 at *
      clear hg4 c0 c1 s0 s1
      generalize wr.alloc (.cells #[.string x, .string y] 39) = w5 at *
      obtain ⟨⟨s0, s1⟩, -⟩ := HX.out w5 HB5.out
      go_wp2_with fail
      go_loopw [21] (fun c wr => ∃ j : Nat, j ≤ R.length ∧ c = .int .i64 (j : Nat) ∧ Hid (Below w5.heap.size w5 wr)) (fun c _ => R.length - (intOf c).toNat)
      case atStart => exact ⟨0, Nat.zero_le _, rfl, Lib.hid (Below.refl _ _)⟩
      case round =>
        clear s0 s1
        obtain ⟨j, hj, rfl, HBJ⟩ := hrel
        obtain ⟨⟨s0, s1⟩, hRr, -⟩ := HX.out wr (Below.now HB5.out HBJ.out)
        by_cases hlt2 : j < R.length
        · obtain ⟨b2, off2, hbe, hb2, hc2⟩ := hRr.cell hlt2
          simp only [Option.some.injEq, Addr.mk.injEq, and_true] at hbe
          obtain ⟨rfl, rfl⟩ := hbe
          obtain ⟨c0, c1⟩ := hc2 j hlt2
          obtain ⟨⟨hu1, hu2⟩, hu3⟩ := HZ.out j hlt2
          have HL1 := Lib.hid (fun hne => HILi.out j hlt2 hne)
          have HL2 := Lib.hid (HIRi.out j hlt2)
          have hjl : (j : Int) < (R.length : Int) := by omega
          clear hc2 hRr s0 s1
          generalize (nthR R j).1 = u at *
          generalize (nthR R j).2 = v at *
          go_upto_region 9 with fail
          have HB8 := Lib.hid (Below.now HBJ.out (alloc_belowS wr (.cells #[.string u, .string v] 39)))
          obtain ⟨v0, v1⟩ := sys_cells (alloc_at wr (.cells #[.string u, .string v] 39))
          generalize hg6 : wr.heap.size = g6 at *
          clear hg6 c0 c1
          generalize wr.alloc (.cells #[.string u, .string v] 39) = w8 at *
          obtain ⟨x0, x1⟩ := HY.out w8 HB8.out
          obtain ⟨-, -, hM8⟩ := HX.out w8 (Below.now HB5.out HB8.out)
          have HM8 := Lib.hid hM8
          clear hM8
          by_cases hne : i = j
          · have hij : (((j : Nat) : Int) != ((i : Nat) : Int)) = false := by rw [bne_eq_false_iff_eq]; omega
            clear hne
            go_wp2_with fail
            refine (HCO.out v x _ hz3 hu2 HM8.out).mono ?_
            rintro e w9 ⟨rfl, rfl⟩
            rw [HL2.out]
            go_wp2_with fail
            go_roundw
            case rel => exact ⟨j + 1, by omega, by go_num, HB8⟩
            case measure => simp [intOf]; omega
          · have hij : (((j : Nat) : Int) != ((i : Nat) : Int)) = true := by rw [bne_iff_ne]; omega
            have HL3 := Lib.hid (HL1.out hne)
            clear hne
            go_wp2_with fail
            refine (HCO.out u x _ hz3 hu1 HM8.out).mono ?_
            rintro e w9 ⟨rfl, rfl⟩
            rw [HL3.out]
            go_wp2_with fail
            refine (HCO.out v x _ hz3 hu2 HM8.out).mono ?_
            rintro e w9 ⟨rfl, rfl⟩
            rw [HL2.out]
            go_wp2_with fail
            go_roundw
            case rel => exact ⟨j + 1, by omega, by go_num, HB8⟩
            case measure => simp [intOf]; omega
        · have HBE := Lib.hid (Below.now HB5.out HBJ.out)
          clear hRr
          go_wp2_with fail
          go_roundw
          case rel => exact ⟨i + 1, by omega, by go_num, HBE⟩
          case measure => simp [intOf]; omega
    · clear hRr
      go_wp2_with fail
      go_ret
      exact ⟨rfl, Below.now HB.out HBR.out⟩
end Go.Proofs.YtgoeadgpbidgiaaGreatDoor
namespace Go.Proofs.YtgoeadgpbidgiaaGreatDoor
open Go.RowKit
set_option linter.unusedVariables false
theorem turn_code (R Q : List RulD) (T : Nat) : (turnF R Q T).1 ≤ 3 := by
  cases Q with
  | nil => exact Nat.zero_le _
  | cons q Qt =>
    unfold turnF
    simp only
    repeat' split
    all_goals simp
theorem RunIs.code {R Q : List RulD} {T c : Nat} {R' Q' : List RulD} {T' : Nat} (r : RunIs R Q T c R' Q' T') : c ≤ 3 := by
  induction r with
  | done => omega
  | fail _ _ => exact turn_code _ _ _
  | step _ _ _ ih => exact ih
/-- the line at the end of a completion -/
noncomputable def lineC (k : Int) (c : Nat) (R : List RulD) : ByteArray := if c = 0 then sysT0 k R else ⟨#[99, 111, 100, 101, 32]⟩ ++ numB (c : Int)
def CLine (k : Int) (E : List RulD) (s : ByteArray) : Prop :=
  (startP k E ∧ ∃ c R Q T, RunIs [] E 0 c R Q T ∧ s = lineC k c R) ∨ (¬ startP k E ∧ s = lineC k 4 [])
theorem CLine.uniq {k : Int} {E : List RulD} {s t : ByteArray} (a : CLine k E s) (b : CLine k E t) : s = t := by
  rcases a with ⟨a1, c, R, Q, T, ar, rfl⟩ | ⟨a1, rfl⟩
  · rcases b with ⟨b1, c2, R2, Q2, T2, br, rfl⟩ | ⟨b1, rfl⟩
    · obtain ⟨rfl, rfl, _, _⟩ := ar.uniq br
      rfl
    · exact absurd a1 b1
  · rcases b with ⟨b1, _⟩ | ⟨b1, rfl⟩
    · exact absurd b1 a1
    · rfl
def RetCL (k : Int) (E : List RulD) (w : World) (e : Ending) (w' : World) : Prop := ∃ s, CLine k E s ∧ e = .returned (.string s) ∧ Below w.heap.size w w'
theorem lineC_zero (k : Int) (R : List RulD) : lineC k 0 R = sysT0 k R := if_pos rfl
theorem lineC_code {k : Int} {c : Nat} (R : List RulD) (h : ¬ c = 0) : lineC k c R = ⟨#[99, 111, 100, 101, 32]⟩ ++ numB (c : Int) := if_neg h
set_option maxRecDepth 20000 in
set_option maxHeartbeats 2000000 in
theorem specCompleteLine_any (k : Int) (E : List RulD) (a : Option Addr) (cap : Nat) (w : World) (hl : RulesIn w a E) (hlen : E.length ≤ 2 ^ 40) (hz : SzR E) :
    Calls Tryz.prog 7 #[.int .i64 k, .slice a E.length cap] w (RetCL k E w) := by
  have HC := Lib.hid (specComplete_any k E a cap w hl hlen hz)
  clear hl hz
  go_enter Tryz.func7, Tryz.ntmps7
  go_wp2_with fail
  refine HC.out.mono ?_
  rintro e w2 hr
  rcases hr with ⟨hst, c, R, Q, T, aR, cR, hrun, rfl, hR, hb2⟩ | ⟨hst, rfl, hb2⟩
  · have HB4 := Lib.hid (Below.now hb2 (alloc_belowS w2 (.cells #[.int .i64 k, .slice aR R.length cR] 33)))
    have HR4 := Lib.hid (hR.later (alloc_belowS w2 (.cells #[.int .i64 k, .slice aR R.length cR] 33)))
    obtain ⟨s0, s1, _, _⟩ := rec_cells (alloc_at w2 (.cells #[.int .i64 k, .slice aR R.length cR] 33))
    have HW := Lib.hid (hrun.work hst.work).1
    have HCD := Lib.hid hrun.code
    by_cases hc : c = 0
    · have hc2 : ((c : Nat) : Int) = 0 := by omega
      have HL : Hid (CLine k E (sysT0 k R)) := Lib.hid (.inl ⟨hst, c, R, Q, T, hrun, by subst hc; exact (lineC_zero k R).symm⟩)
      have HF := Lib.hid (specFormatSystem_any k R aR cR _ HR4.out (by have := HW.out.sys.1.1.2; omega) (szR_of HW.out.sys))
      clear hst hrun hR hb2 HC hc
      rw [hc2]
      clear hc2
      go_wp2_with fail
      refine HF.out.mono ?_
      rintro e w5 ⟨rfl, hb5⟩
      have HB5 := Lib.hid (Below.now HB4.out hb5)
      clear hb5 HF s0 s1
      go_wp2_with fail
      go_ret
      exact ⟨_, HL.out, rfl, HB5.out⟩
    · have hc2 : (((c : Nat) : Int) == 0) = false := by rw [beq_eq_false_iff_ne]; omega
      have hc3 : ¬ ((c : Nat) : Int) = 0 := by omega
      have HL : Hid (CLine k E (⟨#[99, 111, 100, 101, 32]⟩ ++ numB (c : Int))) := Lib.hid (.inl ⟨hst, c, R, Q, T, hrun, (lineC_code R hc).symm⟩)
      have hn := itoa_len (n := (c : Int)) (by have := HCD.out; omega) (by have := HCD.out; omega)
      have HF := Lib.hid (specFormatInt_any (c : Int) (w2.alloc (.cells #[.int .i64 k, .slice aR R.length cR] 33)) (by have := HCD.out; omega) (by have := HCD.out; omega))
      have HNB : Hid (numB (c : Int) = ⟨(Lib.itoa (c : Int)).toArray⟩) := Lib.hid rfl
      rw [← HNB.out] at HF
      generalize numB (c : Int) = nb at *
      have n1 : ¬ 9223372036854775807 < 5 + nb.size := by omega
      clear hst hrun hR hb2 HC hc hn HNB
      go_wp2_with fail
      refine HF.out.mono ?_
      rintro e w5 ⟨rfl, hb5⟩
      have HB5 := Lib.hid (Below.now HB4.out hb5)
      clear hb5 HF s0 s1
      go_wp2_with fail
      go_ret
      exact ⟨_, HL.out, rfl, HB5.out⟩
  · have HB4 := Lib.hid (Below.now hb2 (alloc_belowS w2 (.cells #[.int .i64 0, .slice none 0 0] 33)))
    have HL : Hid (CLine k E (⟨#[99, 111, 100, 101, 32]⟩ ++ numB (4 : Int))) := Lib.hid (.inr ⟨hst, (lineC_code (c := 4) [] (by decide)).symm⟩)
    have hn := itoa_len (n := (4 : Int)) (by omega) (by omega)
    have HF := Lib.hid (specFormatInt_any (4 : Int) (w2.alloc (.cells #[.int .i64 0, .slice none 0 0] 33)) (by omega) (by omega))
    have HNB : Hid (numB (4 : Int) = ⟨(Lib.itoa (4 : Int)).toArray⟩) := Lib.hid rfl
    rw [← HNB.out] at HF
    generalize numB (4 : Int) = nb at *
    have n1 : ¬ 9223372036854775807 < 5 + nb.size := by omega
    clear hst hb2 HC hn HNB
    go_wp2_with fail
    refine HF.out.mono ?_
    rintro e w5 ⟨rfl, hb5⟩
    have HB5 := Lib.hid (Below.now HB4.out hb5)
    clear hb5 HF
    go_wp2_with fail
    go_ret
    exact ⟨_, HL.out, rfl, HB5.out⟩
end Go.Proofs.YtgoeadgpbidgiaaGreatDoor
namespace Go.Proofs.YtgoeadgpbidgiaaGreatDoor
open Go.RowKit
set_option linter.unusedVariables false
set_option maxRecDepth 20000 in
set_option maxHeartbeats 1000000 in
theorem implFormatRule_any (x y : ByteArray) (w : World) (hx : x.size + y.size + 3 ≤ maxLen) :
    Calls Tryz.prog 48 #[.agg #[.string x, .string y]] w fun e w' => e = .returned (.string (ruleT (x, y))) ∧ Below w.heap.size w w' := by
  have h1 := dotB_size x
  have h2 := dotB_size y
  unfold maxLen at hx
  have P1 := Lib.hid (fun W => dotted_any x W)
  have P2 := Lib.hid (fun W => dotted_any y W)
  have HR : Hid (ruleT (x, y) = dotB x ++ ⟨#[62]⟩ ++ dotB y) := Lib.hid rfl
  generalize ruleT (x, y) = rt at *
  generalize dotB x = a at *
  generalize dotB y = b at *
  have c1 : ¬ 9223372036854775807 < a.size + 1 := by omega
  have c3 : ¬ 9223372036854775807 < a.size + 1 + b.size := by omega
  go_enter Tryz.func48, Tryz.ntmps48
  go_wp2_with fail
  obtain ⟨w0, hw0⟩ : ∃ w0, w0 = (w.alloc (.cells #[.string x, .string y] 39)) := ⟨_, rfl⟩
  have HX : Hid (Below w.heap.size w w0) := Lib.hid (by rw [hw0]; exact (Below.refl _ _).alloc (Nat.le_refl _) _)
  have hx0 : ∀ W, Below w0.heap.size w0 W → W.cell? ⟨w.heap.size, 0, none⟩ = some (.string x) := fun W hW => by rw [hW.cell (by rw [hw0]; simp), hw0]; simp
  have hx1 : ∀ W, Below w0.heap.size w0 W → W.cell? ⟨w.heap.size, 1, none⟩ = some (.string y) := fun W hW => by rw [hW.cell (by rw [hw0]; simp), hw0]; simp
  rw [← hw0]
  clear hw0
  have q0 : ∀ x, (wide w0 x).cell? ⟨w.heap.size, 0, none⟩ = some _ := wide_cell (hx0 _ (Below.refl _ _))
  have q1 : ∀ x, (wide w0 x).cell? ⟨w.heap.size, 1, none⟩ = some _ := wide_cell (hx1 _ (Below.refl _ _))
  clear hx0 hx1
  refine region_wide (by kernel_rfl) (by kernel_rfl) ?_
  repeat (quiet_step (first
    | (go_at_call 95; refine (P1.out _).mono ?_; rintro e w2 ⟨rfl, rfl⟩; exact ⟨rfl, _, rfl⟩)
    | (go_at_call 95; refine (P2.out _).mono ?_; rintro e w2 ⟨rfl, rfl⟩; exact ⟨rfl, _, rfl⟩)))
  refine wpQuiet_nil ?_
  rintro w4 ⟨x4, rfl⟩
  have hend := Below.now HX.out (below_wide w0 x4)
  clear q0 q1
  go_wp2_with fail
  go_ret
  exact ⟨ret_str HR.out.symm, hend⟩
end Go.Proofs.YtgoeadgpbidgiaaGreatDoor
namespace Go.Proofs.YtgoeadgpbidgiaaGreatDoor
open Go.RowKit
set_option linter.unusedVariables false
def sysL (k : Int) (R : List RulD) (j : Nat) : List ByteArray := numB k :: (R.take j).map ruleT
theorem sysL_len {k : Int} {R : List RulD} {j : Nat} (h : j ≤ R.length) : (sysL k R j).length = j + 1 := by
  simp [sysL]; omega
theorem sysL_succ {k : Int} {R : List RulD} {j : Nat} (h : j < R.length) : sysL k R (j + 1) = sysL k R j ++ [ruleT (nthR R j)] := by
  unfold sysL
  rw [List.take_succ_eq_append_getElem h, List.map_append, nthR_lt h]
  rfl
theorem sysL_nth {k : Int} {R : List RulD} {j : Nat} (h : j < R.length) : nthS (sysL k R R.length) (j + 1) = ruleT (nthR R j) := by
  have e : nthS (sysL k R R.length) (j + 1) = nthS (R.map ruleT) j := by
    unfold sysL
    rw [List.take_length]
    rfl
  rw [e, nthS_lt (by simpa using h), List.getElem_map, nthR_lt h]
theorem sysL_join {k : Int} {R : List RulD} : ∀ j, j ≤ R.length → joinTo (sysL k R R.length) ⟨#[32]⟩ (j + 1) = rulesT (numB k) R j
  | 0, _ => joinTo_one _ _
  | j + 1, h => by
    rw [joinTo_succ _ _ (by omega), sysL_join j (by omega), sysL_nth (by omega)]
    rfl
theorem sysL_all {k : Int} {R : List RulD} : joinF (sysL k R R.length) ⟨#[32]⟩ = rulesT (numB k) R R.length := by
  unfold joinF
  rw [sysL_len (Nat.le_refl _)]
  exact sysL_join _ (Nat.le_refl _)
set_option maxRecDepth 20000 in
set_option maxHeartbeats 2000000 in
theorem implFormatSystem_any (k : Int) (l : List RulD) (a : Option Addr) (cap : Nat) (w : World) (hl : RulesIn w a l) (hlen : l.length ≤ 2 ^ 40) (hz : SzR l) (ht : Tab10 w) :
    Calls Tryz.prog 18 #[.agg #[.int .i64 k, .slice a l.length cap]] w fun e w' => e = .returned (.string (sysT0 k l)) ∧ Below w.heap.size w w' := by
  have HL := Lib.hid hl
  have HR := Lib.hid (fun W h => implRulesOk_any k l a cap W h hlen hz)
  have HA := Lib.hid (fun o => alloc_belowS w o)
  have HT := Lib.hid ht
  clear hl hz ht
  go_enter Tryz.func18, Tryz.ntmps18
  go_wp2_with fail
  refine (HR.out _ (HL.out.later (HA.out _))).mono ?_
  rintro e w2 ⟨bb, hbb, rfl, hb2⟩
  have HBB := Lib.hid hbb
  have hb0 := (hb2.block w.heap.size (by simp)).trans (alloc_at w (.cells #[.int .i64 k, .slice a l.length cap] 33))
  obtain ⟨s0, s1⟩ := sys_cells hb0
  have HW2 := Lib.hid (Below.now (HA.out _) hb2)
  clear hbb hb2 HR
  cases bb
  · have F : Hid (sysT0 k l = ⟨#[]⟩) := Lib.hid (if_neg (fun h => by have := HBB.out.2 h; cases this))
    go_wp2_with fail
    go_ret
    exact ⟨ret_str F.out.symm, HW2.out⟩
  · have HRP := Lib.hid (HBB.out.1 rfl)
    have F : Hid (sysT0 k l = joinF (sysL k l l.length) ⟨#[32]⟩) := Lib.hid (by rw [sysL_all]; exact if_pos HRP.out)
    clear HBB
    have hk1 := HRP.out.1.1
    have hn := itoa_len (n := k) (by omega) (by omega)
    have HF := Lib.hid (fun W h => implFormatInt_any k W (by omega) (by omega) h)
    go_wp2_with fail
    refine (HF.out _ (HT.out.later HW2.out)).mono ?_
    rintro e w3 ⟨rfl, hb3⟩
    have hb03 := (hb3.block w.heap.size (Array.getElem?_eq_some_iff.1 hb0).1).trans hb0
    have HW3 := Lib.hid (Below.now HW2.out hb3)
    obtain ⟨s0, s1⟩ := sys_cells ((alloc_belowS w3 (.cells #[.string (numB k)] 9)).block w.heap.size (Array.getElem?_eq_some_iff.1 hb03).1 |>.trans hb03)
    have HB1 : Hid (Bld 9 1 w (w3.alloc (.cells #[.string (numB k)] 9)) (.slice (some ⟨w3.heap.size, 0, none⟩) 1 1) 1 (strVals (sysL k l 0))) := Lib.hid ⟨World.ownsRow_lit w3 (e := 9) (size := 1) #[.string (numB k)] 1 HW3.out.size (by unfold maxLen; omega) rfl, HW3.out.alloc HW3.out.size _⟩
    have h12 := HRP.out.1.2
    clear hb3 HF hb0 hb03
    go_wp2_with fail
    clear s0 s1
    go_loopw [3, 16] (fun v i wr => ∃ j : Nat, j ≤ l.length ∧ i = .int .i64 (j : Nat) ∧ Bld 9 1 w wr v (j + 1) (strVals (sysL k l j))) (fun _ i _ => l.length - (intOf i).toNat)
    case atStart => exact ⟨0, Nat.zero_le _, rfl, HB1.out⟩
    case round =>
      clear HB1
      obtain ⟨j, hj, rfl, hbd⟩ := hrel
      obtain ⟨a3, c3, rfl⟩ := owns_form hbd.1
      have HB := Lib.hid hbd
      by_cases hlt : j < l.length
      · obtain ⟨b, off, rfl, hb, hc⟩ := (HL.out.later hbd.2).cell hlt
        obtain ⟨c1, c2⟩ := hc j hlt
        have hz2 := (HRP.out.2 _ (nthR_mem hlt)).1.2
        have F1 := Lib.hid (sysL_succ (k := k) hlt)
        clear hc hbd
        have HNE : Hid (nthR l j = ((nthR l j).1, (nthR l j).2)) := Lib.hid rfl
        rw [HNE.out] at F1
        generalize (nthR l j).1 = x at *
        generalize (nthR l j).2 = y at *
        have HFR := Lib.hid (fun W => implFormatRule_any x y W (by unfold maxLen; omega))
        generalize ruleT (x, y) = rt at *
        have HB4 := Lib.hid (HB.out.later (alloc_belowS wr (.cells #[.string x, .string y] 39)))
        clear HNE
        go_wp2_with fail
        refine (HFR.out _).mono ?_
        rintro e w5 ⟨rfl, hb5⟩
        have HB5 := Lib.hid (HB4.out.later hb5)
        clear hb5 HB4 c1 c2
        go_wp2_with (at_builtin; refine wpList_app1 rfl _ _ rfl Tryz.underlying48 Tryz.infoStr rfl (by decide) rfl HB5.out rfl rfl ?c1 ?c2 ?c3 ?c4)
        case c1 => simp [Value.oneCell']
        case c2 => unfold maxLen; omega
        case c3 => omega
        intro v2 w4 hb2
        have F2 : Hid (Bld 9 1 w w4 v2 (j + 1 + 1) (strVals (sysL k l (j + 1)))) := by
          rw [F1.out]; unfold strVals at *; rw [List.map_append]; exact Lib.hid hb2
        clear hb2
        go_wp2_with fail
        go_roundw
        case rel => exact ⟨j + 1, by omega, by go_num, F2.out⟩
        case measure => simp [intOf]; omega
      · obtain rfl : j = l.length := by omega
        have hdl := sysL_len (k := k) (Nat.le_refl l.length)
        have HZ : Hid ((joinF (sysL k l l.length) ⟨#[32]⟩).size ≤ 2 ^ 46) := Lib.hid (by
          rw [sysL_all]
          have h1 := rulesT_size (s := numB k) HRP.out l.length (Nat.le_refl _)
          have h2 : (numB k).size ≤ 100 := by first | exact Nat.le_trans hn (by omega) | (unfold numB; omega) | omega
          omega)
        have hJ := Lib.hid (implJoin_any (sysL k l l.length) ⟨#[32]⟩ a3 c3 wr (owns_strs HB.out.1) (by decide) (by decide) (by omega) (by rw [hdl]; exact owns_capS HB.out.1) HZ.out)
        rw [hdl] at hJ
        have HBW := Lib.hid hbd.2
        clear hbd hdl
        go_wp2_with fail
        refine hJ.out.mono ?_
        rintro e w5 ⟨rfl, hb5⟩
        have HB6 := Lib.hid (Below.now HBW.out hb5)
        clear hb5 hJ
        go_wp2_with fail
        go_ret
        exact ⟨ret_str F.out.symm, HB6.out⟩
end Go.Proofs.YtgoeadgpbidgiaaGreatDoor
namespace Go.Proofs.YtgoeadgpbidgiaaGreatDoor
open Go.RowKit
set_option linter.unusedVariables false
set_option maxRecDepth 20000 in
set_option maxHeartbeats 2000000 in
theorem implCompleteLine_any (k : Int) (E : List RulD) (a : Option Addr) (cap : Nat) (w : World) (hl : RulesIn w a E) (hlen : E.length ≤ 2 ^ 40) (hz : SzR E) (hmx : MaxL w) (ht : Tab10 w) :
    Calls Tryz.prog 9 #[.int .i64 k, .slice a E.length cap] w (RetCL k E w) := by
  have HC := Lib.hid (implComplete_any k E a cap w hl hlen hz hmx)
  have HT := Lib.hid ht
  clear hl hz
  go_enter Tryz.func9, Tryz.ntmps9
  go_wp2_with fail
  refine HC.out.mono ?_
  rintro e w2 hr
  rcases hr with ⟨hst, c, R, Q, T, aR, cR, hrun, rfl, hR, hb2⟩ | ⟨hst, rfl, hb2⟩
  · have HB4 := Lib.hid (Below.now hb2 (alloc_belowS w2 (.cells #[.int .i64 k, .slice aR R.length cR] 33)))
    have HR4 := Lib.hid (hR.later (alloc_belowS w2 (.cells #[.int .i64 k, .slice aR R.length cR] 33)))
    obtain ⟨s0, s1, _, _⟩ := rec_cells (alloc_at w2 (.cells #[.int .i64 k, .slice aR R.length cR] 33))
    have HW := Lib.hid (hrun.work hst.work).1
    have HCD := Lib.hid hrun.code
    by_cases hc : c = 0
    · have hc2 : ((c : Nat) : Int) = 0 := by omega
      have HL : Hid (CLine k E (sysT0 k R)) := Lib.hid (.inl ⟨hst, c, R, Q, T, hrun, by subst hc; exact (lineC_zero k R).symm⟩)
      have HF := Lib.hid (implFormatSystem_any k R aR cR _ HR4.out (by have := HW.out.sys.1.1.2; omega) (szR_of HW.out.sys) (HT.out.later HB4.out))
      clear hst hrun hR hb2 HC hc
      rw [hc2]
      clear hc2
      go_wp2_with fail
      refine HF.out.mono ?_
      rintro e w5 ⟨rfl, hb5⟩
      have HB5 := Lib.hid (Below.now HB4.out hb5)
      clear hb5 HF s0 s1
      go_wp2_with fail
      go_ret
      exact ⟨_, HL.out, rfl, HB5.out⟩
    · have hc2 : (((c : Nat) : Int) == 0) = false := by rw [beq_eq_false_iff_ne]; omega
      have hc3 : ¬ ((c : Nat) : Int) = 0 := by omega
      have HL : Hid (CLine k E (⟨#[99, 111, 100, 101, 32]⟩ ++ numB (c : Int))) := Lib.hid (.inl ⟨hst, c, R, Q, T, hrun, (lineC_code R hc).symm⟩)
      have hn := itoa_len (n := (c : Int)) (by have := HCD.out; omega) (by have := HCD.out; omega)
      have HF := Lib.hid (implFormatInt_any (c : Int) (w2.alloc (.cells #[.int .i64 k, .slice aR R.length cR] 33)) (by have := HCD.out; omega) (by have := HCD.out; omega) (HT.out.later HB4.out))
      have HNB : Hid (numB (c : Int) = ⟨(Lib.itoa (c : Int)).toArray⟩) := Lib.hid rfl
      generalize numB (c : Int) = nb at *
      have n1 : ¬ 9223372036854775807 < 5 + nb.size := by omega
      clear hst hrun hR hb2 HC hc hn HNB
      go_wp2_with fail
      refine HF.out.mono ?_
      rintro e w5 ⟨rfl, hb5⟩
      have HB5 := Lib.hid (Below.now HB4.out hb5)
      clear hb5 HF s0 s1
      go_wp2_with fail
      go_ret
      exact ⟨_, HL.out, rfl, HB5.out⟩
  · have HB4 := Lib.hid (Below.now hb2 (alloc_belowS w2 (.cells #[.int .i64 0, .slice none 0 0] 33)))
    have HL : Hid (CLine k E (⟨#[99, 111, 100, 101, 32]⟩ ++ numB (4 : Int))) := Lib.hid (.inr ⟨hst, (lineC_code (c := 4) [] (by decide)).symm⟩)
    have hn := itoa_len (n := (4 : Int)) (by omega) (by omega)
    have HF := Lib.hid (implFormatInt_any (4 : Int) (w2.alloc (.cells #[.int .i64 0, .slice none 0 0] 33)) (by omega) (by omega) (HT.out.later HB4.out))
    have HNB : Hid (numB (4 : Int) = ⟨(Lib.itoa (4 : Int)).toArray⟩) := Lib.hid rfl
    generalize numB (4 : Int) = nb at *
    have n1 : ¬ 9223372036854775807 < 5 + nb.size := by omega
    clear hst hb2 HC hn HNB
    go_wp2_with fail
    refine HF.out.mono ?_
    rintro e w5 ⟨rfl, hb5⟩
    have HB5 := Lib.hid (Below.now HB4.out hb5)
    clear hb5 HF
    go_wp2_with fail
    go_ret
    exact ⟨_, HL.out, rfl, HB5.out⟩
end Go.Proofs.YtgoeadgpbidgiaaGreatDoor
namespace Go.Proofs.YtgoeadgpbidgiaaGreatDoor
open Go.RowKit
set_option linter.unusedVariables false
set_option maxRecDepth 100000 in
set_option maxHeartbeats 2000000 in
theorem implSidesOf_any (k : Int) (R : List RulD) (a : Option Addr) (cap : Nat) (p : PairD) (w : World) (hl : RulesIn w a R) (hs : sysP k R) (hp : PairOk R k p) :
    Calls Tryz.prog 137 #[.agg #[.int .i64 k, .slice a R.length cap], pairVal p] w fun e w' => e = .returned (.tuple #[.string (leftP R p), .string (rightP R p), .bool true]) ∧ Below w.heap.size w w' := by
  have HL := Lib.hid hl
  have HSO := Lib.hid (fun W h => implSystemOk_any k R a cap W h (by have := hs.1.1.2; omega) (szR_of hs))
  have HYES := Lib.hid hs
  have H1 := Lib.hid (fun W h => implApplyStep_any k R a cap p.1 p.2.1 0 W h hs (wdP_of hp.word).len hp.one)
  have H2 := Lib.hid (fun W h => implApplyStep_any k R a cap p.1 p.2.2.1 p.2.2.2 W h hs (wdP_of hp.word).len hp.two)
  have HLP : Hid (applyF R p.1 (p.2.1, 0) = leftP R p) := Lib.hid rfl
  have HRP : Hid (applyF R p.1 (p.2.2.1, p.2.2.2) = rightP R p) := Lib.hid rfl
  rw [HLP.out] at H1
  rw [HRP.out] at H2
  have HPO : Hid (Obj.cells #[.string p.1, .int .i64 (p.2.1 : Nat), .int .i64 0, .int .i64 (p.2.2.1 : Nat), .int .i64 (p.2.2.2 : Nat)] 122 = pairObj p) := Lib.hid rfl
  clear hl hs hp HLP HRP
  unfold pairVal
  generalize leftP R p = lp at *
  generalize rightP R p = rp at *
  have e1 : (w.alloc (.cells #[.int .i64 k, .slice a R.length cap] 33)).heap.size = w.heap.size + 1 := by simp
  have hbb := alloc_belowS (w.alloc (.cells #[.int .i64 k, .slice a R.length cap] 33)) (pairObj p)
  have HB0 := Lib.hid (Below.now (alloc_belowS w (.cells #[.int .i64 k, .slice a R.length cap] 33)) hbb)
  have HBX := Lib.hid (fun W2 (h : Below ((w.alloc (.cells #[.int .i64 k, .slice a R.length cap] 33)).alloc (pairObj p)).heap.size ((w.alloc (.cells #[.int .i64 k, .slice a R.length cap] 33)).alloc (pairObj p)) W2) => And.intro (box_two (Below.now hbb h)) (pairAt_box h))
  rw [e1] at HBX
  unfold PairAt at HBX
  clear hbb e1
  go_enter Tryz.func137, Tryz.ntmps137
  go_wp2_with fail
  rw [HPO.out]
  generalize (w.alloc (.cells #[.int .i64 k, .slice a R.length cap] 33)).alloc (pairObj p) = w1 at *
  refine (HSO.out _ (HL.out.later HB0.out)).mono ?_
  rintro e w2 ⟨bb, hbb, rfl, hb2⟩
  obtain rfl := hbb.2 HYES.out
  have HW2 := Lib.hid (Below.now HB0.out hb2)
  have HB2 := Lib.hid hb2
  obtain ⟨⟨s0, s1⟩, q0, q1, q2, q3, q4⟩ := HBX.out w2 hb2
  clear hbb hb2 HSO HPO
  obtain ⟨u, x, y, z⟩ := p
  go_wp2_with fail
  refine (H1.out _ (HL.out.later HW2.out)).mono ?_
  rintro e w3 ⟨rfl, hb3⟩
  have HW3 := Lib.hid (Below.now HW2.out hb3)
  have HB3 := Lib.hid (Below.now HB2.out hb3)
  obtain ⟨⟨t0, t1⟩, p0, p1, p2, p3, p4⟩ := HBX.out w3 HB3.out
  clear hb3 s0 s1 q0 q1 q2 q3 q4
  go_wp2_with fail
  refine (H2.out _ (HL.out.later HW3.out)).mono ?_
  rintro e w4 ⟨rfl, hb4⟩
  have HW4 := Lib.hid (Below.now HW3.out hb4)
  have F : Hid (∀ W, Below w.heap.size w W → Ending.returned (.tuple #[.string lp, .string rp, .bool true]) = .returned (.tuple #[.string lp, .string rp, .bool true]) ∧ Below w.heap.size w W) := Lib.hid (fun W h => ⟨rfl, h⟩)
  clear hb4 t0 t1 p0 p1 p2 p3 p4
  go_wp2_with fail
  refine bodyPost_ret (v := .tuple #[.string lp, .string rp, .bool true]) ?_ rfl ⟨rfl, HW4.out⟩
  simp [results, Tryz.results137, go_sem]
set_option maxRecDepth 100000 in
set_option maxHeartbeats 2000000 in
theorem implIsJoined_any (k : Int) (R : List RulD) (a : Option Addr) (cap : Nat) (p : PairD) (w : World) (hl : RulesIn w a R) (hs : sysP k R) (hp : PairOk R k p) :
    Calls Tryz.prog 93 #[.agg #[.int .i64 k, .slice a R.length cap], pairVal p] w (RetP (Joined R p) w) := by
  have HL := Lib.hid hl
  have HSD := Lib.hid (fun W h => implSidesOf_any k R a cap p W h hs hp)
  have HN1 := Lib.hid (fun W h => implNormalForm_ok k R a cap (leftP R p) W h hs (left_word hs hp))
  have HN2 := Lib.hid (fun W h => implNormalForm_ok k R a cap (rightP R p) W h hs (right_word hs hp))
  have HJ := Lib.hid (fun x y h1 h2 => joined_iff (R := R) (p := p) (x := x) (y := y) h1 h2)
  have HPO : Hid (Obj.cells #[.string p.1, .int .i64 (p.2.1 : Nat), .int .i64 0, .int .i64 (p.2.2.1 : Nat), .int .i64 (p.2.2.2 : Nat)] 122 = pairObj p) := Lib.hid rfl
  clear hl hs hp
  unfold pairVal at HSD
  unfold pairVal
  generalize leftP R p = lp at *
  generalize rightP R p = rp at *
  have e1 : (w.alloc (.cells #[.int .i64 k, .slice a R.length cap] 33)).heap.size = w.heap.size + 1 := by simp
  have hbb := alloc_belowS (w.alloc (.cells #[.int .i64 k, .slice a R.length cap] 33)) (pairObj p)
  have HB0 := Lib.hid (Below.now (alloc_belowS w (.cells #[.int .i64 k, .slice a R.length cap] 33)) hbb)
  have HBX := Lib.hid (fun W2 (h : Below ((w.alloc (.cells #[.int .i64 k, .slice a R.length cap] 33)).alloc (pairObj p)).heap.size ((w.alloc (.cells #[.int .i64 k, .slice a R.length cap] 33)).alloc (pairObj p)) W2) => (box_two (Below.now hbb h)))
  clear hbb e1
  go_enter Tryz.func93, Tryz.ntmps93
  go_wp2_with fail
  rw [HPO.out]
  generalize (w.alloc (.cells #[.int .i64 k, .slice a R.length cap] 33)).alloc (pairObj p) = w1 at *
  refine (HSD.out _ (HL.out.later HB0.out)).mono ?_
  rintro e w2 ⟨rfl, hb2⟩
  have HB2 := Lib.hid hb2
  obtain ⟨s0, s1⟩ := HBX.out w2 hb2
  clear hb2 HSD HPO
  go_wp2_with fail
  refine (HN1.out _ (HL.out.later (Below.now HB0.out HB2.out))).mono ?_
  rintro e w3 ⟨x, hx, rfl, hb3⟩
  have HX := Lib.hid hx
  have HB3 := Lib.hid (Below.now HB2.out hb3)
  obtain ⟨t0, t1⟩ := HBX.out w3 HB3.out
  clear hb3 hx s0 s1
  go_wp2_with fail
  refine (HN2.out _ (HL.out.later (Below.now HB0.out HB3.out))).mono ?_
  rintro e w4 ⟨y, hy, rfl, hb4⟩
  have F : Hid (RetP (Joined R p) w (.returned (.bool (x.toList == y.toList))) w4) := Lib.hid ⟨_, ⟨fun h => (HJ.out x y HX.out hy).2 (bytes_eq.1 h), fun h => bytes_eq.2 ((HJ.out x y HX.out hy).1 h)⟩, rfl, Below.now HB0.out (Below.now HB3.out hb4)⟩
  clear hb4 hy t0 t1
  go_wp2_with fail
  go_ret
  exact F.out
set_option maxHeartbeats 1000000 in
theorem implPairsOf_any (k : Int) (R : List RulD) (a : Option Addr) (cap : Nat) (w : World) (hl : RulesIn w a R) (hs : sysP k R) :
    Calls Tryz.prog 91 #[.agg #[.int .i64 k, .slice a R.length cap]] w (RetSl 122 5 (pairsF R).length (cellsL prV (pairsF R)) w) := by
  have HL := Lib.hid hl
  have HSO := Lib.hid (fun W h => implSystemOk_any k R a cap W h (by have := hs.1.1.2; omega) (szR_of hs))
  have HYES := Lib.hid hs
  have HPF := Lib.hid (fun W h => implPairs_any k R a cap W h hs)
  have HBX := Lib.hid (fun W2 (h : Below (w.alloc (.cells #[.int .i64 k, .slice a R.length cap] 33)).heap.size (w.alloc (.cells #[.int .i64 k, .slice a R.length cap] 33)) W2) => box_two h)
  have HA := Lib.hid (fun o => alloc_belowS w o)
  clear hl hs
  go_enter Tryz.func91, Tryz.ntmps91
  go_wp2_with fail
  refine (HSO.out _ (HL.out.later (HA.out _))).mono ?_
  rintro e w1 ⟨bb, hbb, rfl, hb1⟩
  obtain rfl := hbb.2 HYES.out
  obtain ⟨s0, s1⟩ := HBX.out _ hb1
  have HW1 := Lib.hid (Below.now (HA.out _) hb1)
  clear hbb hb1
  go_wp2_with fail
  refine (HPF.out _ (HL.out.later HW1.out)).mono ?_
  rintro e w2 ⟨a2, c2, rfl, ho, hb2⟩
  have F : Hid (RetSl 122 5 (pairsF R).length (cellsL prV (pairsF R)) w (.returned (.slice a2 (pairsF R).length c2)) w2) := Lib.hid ⟨a2, c2, rfl, owns_mono ho HW1.out.size, Below.now HW1.out hb2⟩
  clear ho hb2
  go_wp2_with fail
  go_ret
  exact F.out
end Go.Proofs.YtgoeadgpbidgiaaGreatDoor
