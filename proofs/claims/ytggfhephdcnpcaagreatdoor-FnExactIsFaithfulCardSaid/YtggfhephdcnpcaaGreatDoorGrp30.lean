/-
  StepsOf of the reference.
-/
import Derived.Test.YtggfhephdcnpcaaGreatDoorGrp03
import Derived.Test.YtggfhephdcnpcaaGreatDoorGrp05
import Derived.Deep.QuietTactic
import Derived.Test.YtggfhephdcnpcaaGreatDoorGrp29
namespace Go.Proofs.YtggfhephdcnpcaaGreatDoor
open Go.RowKit Go.ChangeShapes Go.WideShapes Go.ChangeAt Go.Joins Go.Deep
set_option linter.unusedVariables false
theorem Tryz.infoRule : (Tryz.prog.info? 60).map (fun i => (i.zero, i.size, i.bytes)) = some (some (.agg #[.string ⟨#[]⟩, .string ⟨#[]⟩]), 2, 32) := by kernel_rfl
/-- what szRuleS hands back -/
def szRF (left : Int) (l : List RulD) : Int := if left < (l.length : Int) + ruleSum l then -1 else left - l.length - ruleSum l
theorem szRF_big {left : Int} {l : List RulD} (h : left < (l.length : Int) + ruleSum l) : szRF left l = -1 := by simp [szRF, h]
theorem szRF_ok {left : Int} {l : List RulD} (h : ¬ left < (l.length : Int) + ruleSum l) : szRF left l = left - l.length - ruleSum l := by simp only [szRF, if_neg h]
def szR1 (left : Int) (x y : ByteArray) : Int := if left < (x.size : Int) + y.size then -1 else left - x.size - y.size
set_option maxHeartbeats 400000 in
theorem szRule_any (x y : ByteArray) (left : Int) (w : World) (hx : x.size ≤ maxLen) (hy : y.size ≤ maxLen) (h0 : 0 ≤ left) (h1 : left ≤ 1048576) :
    Calls Tryz.prog 66 #[.agg #[.string x, .string y], .int .i64 left] w fun e w' => e = .returned (.int .i64 (szR1 left x y)) ∧ Below w.heap.size w w' := by
  unfold maxLen at hx hy
  by_cases e1 : left - x.size < 0
  · have F : Hid (szR1 left x y = -1) := Lib.hid (by unfold szR1; rw [if_pos (by omega)])
    go_enter Tryz.func66, Tryz.ntmps66
    go_wp2_with fail
    go_ret
    exact ⟨ret_int F.out.symm, by repeat (first | exact Below.refl _ _ | refine Below.alloc ?_ (by simp; try omega) _)⟩
  · by_cases e2 : left - x.size - y.size < 0
    · have F : Hid (szR1 left x y = -1) := Lib.hid (by unfold szR1; rw [if_pos (by omega)])
      go_enter Tryz.func66, Tryz.ntmps66
      go_wp2_with fail
      go_ret
      exact ⟨ret_int F.out.symm, by repeat (first | exact Below.refl _ _ | refine Below.alloc ?_ (by simp; try omega) _)⟩
    · have F : Hid (szR1 left x y = left - x.size - y.size) := Lib.hid (by unfold szR1; rw [if_neg (by omega)])
      go_enter Tryz.func66, Tryz.ntmps66
      go_wp2_with fail
      go_ret
      exact ⟨ret_int F.out.symm, by repeat (first | exact Below.refl _ _ | refine Below.alloc ?_ (by simp; try omega) _)⟩
set_option maxHeartbeats 400000 in
theorem szRuleS_any (l : List RulD) (a : Option Addr) (cap : Nat) (left : Int) (w : World) (hl : RulesIn w a l) (hn : l.length ≤ 9223372036854775807) (hm : ∀ j, j < l.length → (nthR l j).1.size ≤ maxLen ∧ (nthR l j).2.size ≤ maxLen) (h0 : 0 ≤ left) (h1 : left ≤ 1048576) :
    Calls Tryz.prog 21 #[.slice a l.length cap, .int .i64 left] w fun e w' => e = .returned (.int .i64 (szRF left l)) ∧ Below w.heap.size w w' := by
  by_cases hlt : left < (l.length : Int)
  · have F := Lib.hid (szRF_big (l := l) (left := left) (by omega))
    go_enter Tryz.func21, Tryz.ntmps21
    go_wp2_with fail
    go_ret
    exact ⟨ret_int F.out.symm, Below.refl _ _⟩
  · have HL := Lib.hid hl
    have HM := Lib.hid hm
    clear hl hm
    go_enter Tryz.func21, Tryz.ntmps21
    go_wp2_with fail
    go_loopw [1, 5] (fun s i wr => ∃ (j : Nat) (x : Int), j ≤ l.length ∧ i = .int .i64 j ∧ s = .int .i64 x ∧ x = left - l.length - ruleSumTo l j ∧ 0 ≤ x ∧ Below w.heap.size w wr) (fun _ i _ => l.length - (intOf i).toNat)
    case atStart => exact ⟨0, _, Nat.zero_le _, rfl, rfl, by simp [ruleSumTo], by omega, Below.refl _ _⟩
    case round =>
      obtain ⟨j, x, hj, rfl, rfl, hx, hx0, hbw⟩ := hrel
      by_cases hlj : j < l.length
      · obtain ⟨b, off, rfl, hb, hc⟩ := (HL.out.later hbw).cell hlj
        obtain ⟨c1, c2⟩ := hc j hlj
        obtain ⟨z1, z2⟩ := HM.out j hlj
        have hs : ruleSumTo l (j + 1) = ruleSumTo l j + ((nthR l j).1.size + (nthR l j).2.size) := rfl
        have hle : ruleSumTo l (j + 1) ≤ ruleSum l := by rw [← ruleSumTo_all]; exact ruleSumTo_mono l hlj
        clear hc
        have HX := Lib.hid hx
        have hx1 : x ≤ 1048576 := by omega
        clear hx
        generalize hu : (nthR l j).1 = u at *
        generalize hv : (nthR l j).2 = v at *
        clear hu hv
        have HS := Lib.hid (fun W => szRule_any u v x W z1 z2 hx0 hx1)
        by_cases hneg : x < (u.size : Int) + v.size
        · have F := Lib.hid (szRF_big (l := l) (left := left) (by have := HX.out; omega))
          have e1 : szR1 x u v = -1 := by unfold szR1; rw [if_pos hneg]
          rw [e1] at HS
          clear hs hle e1 hneg
          go_wp2_with (go_at_call 66; refine (HS.out _).mono ?_; rintro e w2 ⟨rfl, hb2⟩)
          have hbw2 := Below.now hbw hb2
          clear hb2 hbw
          go_wp2_with fail
          go_ret
          exact ⟨ret_int F.out.symm, hbw2⟩
        · have HX2 : Hid (x - u.size - v.size = left - l.length - ruleSumTo l (j + 1)) := Lib.hid (by have := HX.out; omega)
          have e1 : szR1 x u v = x - u.size - v.size := by unfold szR1; rw [if_neg hneg]
          have hge : 0 ≤ x - u.size - v.size := by omega
          rw [e1] at HS
          clear hs hle e1 hneg
          generalize hq : x - u.size - v.size = y at *
          clear hq
          go_wp2_with (go_at_call 66; refine (HS.out _).mono ?_; rintro e w2 ⟨rfl, hb2⟩)
          have hbw2 := Below.now hbw hb2
          clear hb2 hbw
          go_wp2_with fail
          go_roundw
          case rel => exact ⟨j + 1, y, by omega, by go_num, rfl, HX2.out, hge, hbw2⟩
          case measure => simp [intOf]; omega
      · obtain rfl : j = l.length := by omega
        have ha := ruleSumTo_all l
        have F := Lib.hid (szRF_ok (l := l) (left := left) (by omega))
        have F2 : Hid (x = szRF left l) := Lib.hid (by rw [F.out]; omega)
        clear ha hx
        go_wp2_with fail
        go_ret
        exact ⟨ret_int F2.out, hbw⟩
set_option maxHeartbeats 400000 in
theorem szSystem_any (k : Int) (l : List RulD) (a : Option Addr) (cap : Nat) (left : Int) (w : World) (hl : RulesIn w a l) (hn : l.length ≤ 9223372036854775807) (hm : ∀ j, j < l.length → (nthR l j).1.size ≤ maxLen ∧ (nthR l j).2.size ≤ maxLen) (h0 : 0 ≤ left) (h1 : left ≤ 1048576) :
    Calls Tryz.prog 9 #[.agg #[.int .i64 k, .slice a l.length cap], .int .i64 left] w fun e w' => e = .returned (.int .i64 (szRF left l)) ∧ Below w.heap.size w w' := by
  have HS := Lib.hid (fun W hW => szRuleS_any l a cap left W (hl.later hW) hn hm h0 h1)
  clear hl hm
  by_cases hlt : left < (l.length : Int) + ruleSum l
  · have F := Lib.hid (szRF_big hlt)
    rw [F.out] at HS
    clear hlt
    rw [F.out]
    clear F
    go_enter Tryz.func9, Tryz.ntmps9
    go_wp2_with fail
    refine (HS.out _ (by repeat (first | exact Below.refl _ _ | refine Below.alloc ?_ (by simp; try omega) _))).mono ?_
    rintro e w2 ⟨rfl, hb2⟩
    have hbw : Below w.heap.size w w2 := Below.now (by repeat (first | exact Below.refl _ _ | refine Below.alloc ?_ (by simp; try omega) _)) hb2
    clear hb2 HS
    go_wp2_with fail
    go_ret
    exact ⟨rfl, hbw⟩
  · have hge : 0 ≤ left - l.length - ruleSum l := by omega
    have F := Lib.hid (szRF_ok hlt)
    rw [F.out] at HS
    clear hlt
    rw [F.out]
    clear F
    generalize hq : left - l.length - ruleSum l = y at *
    clear hq
    go_enter Tryz.func9, Tryz.ntmps9
    go_wp2_with fail
    refine (HS.out _ (by repeat (first | exact Below.refl _ _ | refine Below.alloc ?_ (by simp; try omega) _))).mono ?_
    rintro e w2 ⟨rfl, hb2⟩
    have hbw : Below w.heap.size w w2 := Below.now (by repeat (first | exact Below.refl _ _ | refine Below.alloc ?_ (by simp; try omega) _)) hb2
    clear hb2 HS
    go_wp2_with fail
    go_ret
    exact ⟨rfl, hbw⟩
set_option maxHeartbeats 400000 in
theorem toRule_any (x y : ByteArray) (w : World) :
    Calls Tryz.prog 69 #[.agg #[.string x, .string y]] w fun e w' => e = .returned (.agg #[.string x, .string y]) ∧ Below w.heap.size w w' := by
  go_enter Tryz.func69, Tryz.ntmps69
  go_wp2_with fail
  refine bodyPost_ret (v := .agg #[.string x, .string y]) ?_ rfl ?_
  · simp [results, Tryz.results69, go_sem]
  · refine ⟨rfl, ?_⟩
    repeat (first | exact Below.refl _ _ | refine Below.setCell ?_ (by simp; try omega) _ | refine Below.alloc ?_ (by simp; try omega) _)
theorem eqRule_same2 (x y : ByteArray) (w : World) :
    Calls Tryz.prog 70 #[.agg #[.string x, .string y], .agg #[.string x, .string y]] w fun e w' => e = .returned (.bool true) ∧ Below w.heap.size w w' := by
  go_enter Tryz.func70, Tryz.ntmps70
  go_wp2_with fail
  go_ret
  exact ⟨rfl, by repeat (first | exact Below.refl _ _ | refine Below.alloc ?_ (by simp; try omega) _)⟩
set_option maxRecDepth 20000 in
set_option maxHeartbeats 1000000 in
theorem toRuleS_any (l : List RulD) (a : Option Addr) (cap : Nat) (w : World) (hl : RulesIn w a l) (hlen : l.length ≤ 2097152) :
    Calls Tryz.prog 23 #[.slice a l.length cap] w (RetSl 60 2 l.length (ruleCells l) w) := by
  have hmk := run_make_k (P := Tryz.prog) 27 60 _ 2 32 Tryz.underlying27 Tryz.infoRule .i64 .i64 l.length (by omega) (by omega)
  have HL := Lib.hid hl
  clear hl
  go_enter Tryz.func23, Tryz.ntmps23
  go_wp2_with fail
  clear hmk
  have HF := FillK.start w 60 (madeCells #[.string ⟨#[]⟩, .string ⟨#[]⟩] (l.length * 2)) 2 l.length (ruleCells l) (size_madeCells _ _) (by unfold maxLen; omega) (ruleCells_len l)
  generalize (w.alloc (.cells (madeCells #[.string ⟨#[]⟩, .string ⟨#[]⟩] (l.length * 2)) 60)) = w1 at *
  obtain ⟨g, hg⟩ : ∃ g, w.heap.size = g := ⟨_, rfl⟩
  rw [hg] at HF
  rw [hg]
  have HG := Lib.hid hg
  clear hg
  go_loopw [4] (fun i wr => ∃ j : Nat, j ≤ l.length ∧ i = .int .i64 j ∧ FillK w wr 60 2 g l.length (ruleCells l) (j * 2)) (fun i _ => l.length - (intOf i).toNat)
  case atStart => exact ⟨0, Nat.zero_le _, rfl, HF⟩
  case round =>
    clear HF
    obtain ⟨j, hj, rfl, HF⟩ := hrel
    by_cases hlt : j < l.length
    · obtain ⟨b, off, rfl, hb, hc⟩ := (HL.out.later HF.below).cell hlt
      obtain ⟨c1, c2⟩ := hc j hlt
      obtain ⟨t1, t2⟩ := ruleCells_at l j hlt
      have HF0 := Lib.hid HF
      have T1 := Lib.hid t1
      have T2 := Lib.hid t2
      clear hc HF t1 t2
      go_wp2_with fail
      refine (toRule_any _ _ _).mono ?_
      rintro e w2 ⟨rfl, hb2⟩
      have HF1 := HF0.out.later hb2
      obtain ⟨v0, hv0⟩ := HF1.cell (i := j * 2) (by omega)
      obtain ⟨v1, hv1⟩ := HF1.cell (i := j * 2 + 1) (by omega)
      have z0 := HF1.frozen (j * 2)
      have z1 := HF1.frozen (j * 2 + 1)
      have HF2 := Lib.hid ((HF1.store (c := j * 2) (by omega) T1.out).store (c := j * 2 + 1) (by omega) T2.out)
      clear HF1 c1 c2 hb2
      go_wp2_with fail
      go_roundw
      case rel => exact ⟨j + 1, by omega, by go_num, by rw [show (j + 1) * 2 = j * 2 + 1 + 1 by omega]; exact HF2.out⟩
      case measure => simp [intOf]; omega
    · have HF2 := Lib.hid (HF.done (by omega))
      clear HF
      go_wp2_with fail
      go_ret
      exact HF2.out
set_option maxHeartbeats 1000000 in
theorem eqRuleS_same (l : List RulD) (a1 a2 : Option Addr) (c1 c2 : Nat) (w : World) (h1 : RulesIn w a1 l) (h2 : RulesIn w a2 l) (hlen : l.length ≤ 2 ^ 47) :
    Calls Tryz.prog 25 #[.slice a1 l.length c1, .slice a2 l.length c2] w fun e w' => e = .returned (.bool true) ∧ Below w.heap.size w w' := by
  have H1 := Lib.hid h1
  have H2 := Lib.hid h2
  clear h1 h2
  go_enter Tryz.func25, Tryz.ntmps25
  go_wp2
  go_loopw [5] (fun i wr => ∃ j : Nat, j ≤ l.length ∧ i = .int .i64 j ∧ Below w.heap.size w wr) (fun i _ => l.length - (intOf i).toNat)
  case atStart => exact ⟨0, Nat.zero_le _, rfl, Below.refl _ _⟩
  case round =>
    obtain ⟨j, hj, rfl, hbel⟩ := hrel
    by_cases hlt : j < l.length
    · obtain ⟨b1, o1, rfl, hb1, hc1⟩ := (H1.out.later hbel).cell hlt
      obtain ⟨b2, o2, rfl, hb2, hc2⟩ := (H2.out.later hbel).cell hlt
      have g1 : ∀ x, (wide wr x).cell? ⟨b1, o1 + j * 2, none⟩ = some (.string (nthR l j).1) := wide_cell (hc1 j hlt).1
      have g2 : ∀ x, (wide wr x).cell? ⟨b1, o1 + j * 2 + 1, none⟩ = some (.string (nthR l j).2) := wide_cell (hc1 j hlt).2
      have g3 : ∀ x, (wide wr x).cell? ⟨b2, o2 + j * 2, none⟩ = some (.string (nthR l j).1) := wide_cell (hc2 j hlt).1
      have g4 : ∀ x, (wide wr x).cell? ⟨b2, o2 + j * 2 + 1, none⟩ = some (.string (nthR l j).2) := wide_cell (hc2 j hlt).2
      clear hc1 hc2
      go_wp2_with fail
      refine region_wide (by kernel_rfl) (by kernel_rfl) ?_
      repeat (quiet_step ((go_at_call 70; refine (eqRule_same2 _ _ _).mono ?_; rintro e w2 ⟨rfl, hb2⟩; exact ⟨rfl, wide_next hb2⟩)))
      refine wpQuiet_nil ?_
      rintro w4 ⟨x4, rfl⟩
      have hbel2 := Below.now hbel (below_wide wr x4)
      clear hbel g1 g2 g3 g4
      go_wp2_with fail
      go_roundw
      case rel => exact ⟨j + 1, by omega, by go_num, hbel2⟩
      case measure => simp [intOf]; omega
    · go_wp2_with fail
      go_ret
      exact ⟨rfl, hbel⟩
/-- what toSystem hands back -/
def RetSys (T : TypeId) (k : Int) (l : List RulD) (w : World) (e : Ending) (w' : World) : Prop :=
  ∃ a cap, e = .returned (.agg #[.int .i64 k, .slice a l.length cap]) ∧ w'.ownsRow w.heap.size T 2 (.slice a l.length cap) l.length (ruleCells l) ∧ Below w.heap.size w w'
set_option maxHeartbeats 400000 in
theorem toSystem_any (n : Int) (l : List RulD) (a : Option Addr) (cap : Nat) (w : World) (hl : RulesIn w a l) (hlen : l.length ≤ 2097152) :
    Calls Tryz.prog 11 #[.agg #[.int .i64 n, .slice a l.length cap]] w (RetSys 60 n l w) := by
  have HL := Lib.hid hl
  clear hl
  go_enter Tryz.func11, Tryz.ntmps11
  go_wp2_with fail
  refine (toRuleS_any l a cap _ (HL.out.later (by repeat (first | exact Below.refl _ _ | refine Below.setCell ?_ (by simp) _ | refine Below.alloc ?_ (by simp; try omega) _))) hlen).mono ?_
  rintro e w2 ⟨a2, c2, rfl, ho, hb2⟩
  have hs := hb2.size
  have hsz : w.heap.size + 1 + 1 < w2.heap.size := by simp at hs; omega
  have h10 : w2.cell? ⟨w.heap.size + 1, 0, none⟩ = some (.int .i64 0) := by rw [hb2.cell (by simp; try omega)]; simp [go_sem]
  have h11 : w2.cell? ⟨w.heap.size + 1, 1, none⟩ = some (.slice none 0 0) := by rw [hb2.cell (by simp; try omega)]; simp [go_sem]
  have h20 : w2.cell? ⟨w.heap.size + 1 + 1, 0, none⟩ = some (.int .i64 n) := by rw [hb2.cell (by simp; try omega)]; simp [go_sem]
  have h21 : w2.cell? ⟨w.heap.size + 1 + 1, 1, none⟩ = some (.slice none 0 0) := by rw [hb2.cell (by simp; try omega)]; simp [go_sem]
  have f10 : w2.frozen? ⟨w.heap.size + 1, 0, none⟩ = false := by rw [hb2.frozen (by simp; try omega)]; simp [go_sem]
  have f11 : w2.frozen? ⟨w.heap.size + 1, 1, none⟩ = false := by rw [hb2.frozen (by simp; try omega)]; simp [go_sem]
  have f20 : w2.frozen? ⟨w.heap.size + 1 + 1, 0, none⟩ = false := by rw [hb2.frozen (by simp; try omega)]; simp [go_sem]
  have f21 : w2.frozen? ⟨w.heap.size + 1 + 1, 1, none⟩ = false := by rw [hb2.frozen (by simp; try omega)]; simp [go_sem]
  have hbel : Below w.heap.size w w2 := by
    refine Below.trans ?_ (hb2.mono (by simp; try omega))
    repeat (first | exact Below.refl _ _ | refine Below.alloc ?_ (by simp; try omega) _)
  have ho' : w2.ownsRow (w.heap.size + 1 + 1 + 1) 60 2 (.slice a2 l.length c2) l.length (ruleCells l) := by simpa using ho
  clear ho hb2 hs
  have HO := Lib.hid ho'
  clear ho'
  go_wp2_with fail
  refine bodyPost_ret (v := .agg #[.int .i64 n, .slice a2 l.length c2]) ?_ rfl ?_
  · simp [results, Tryz.results11, go_sem, h10, h11]
  · refine ⟨_, _, rfl, ?_, ?_⟩
    · exact owns_mono (ownsRow_setCell_below (ownsRow_setCell_below (ownsRow_setCell_below HO.out (by simp; try omega) _) (by simp; try omega) _) (by simp; try omega) _) (by omega)
    · exact ((hbel.setCell (by simp; try omega) _).setCell (by simp; try omega) _).setCell (by simp; try omega) _
set_option maxHeartbeats 400000 in
theorem eqSystem_same (n : Int) (l : List RulD) (a1 a2 : Option Addr) (c1 c2 : Nat) (w : World) (h1 : RulesIn w a1 l) (h2 : RulesIn w a2 l) (hlen : l.length ≤ 2 ^ 47) :
    Calls Tryz.prog 13 #[.agg #[.int .i64 n, .slice a1 l.length c1], .agg #[.int .i64 n, .slice a2 l.length c2]] w fun e w' => e = .returned (.bool true) ∧ Below w.heap.size w w' := by
  have H1 := Lib.hid h1
  have H2 := Lib.hid h2
  clear h1 h2
  go_enter Tryz.func13, Tryz.ntmps13
  go_wp2_with fail
  have hbel : Below w.heap.size w ((w.alloc (.cells #[.int .i64 n, .slice a1 l.length c1] 29)).alloc (.cells #[.int .i64 n, .slice a2 l.length c2] 29)) := ((Below.refl _ _).alloc (Nat.le_refl _) _).alloc (by simp) _
  refine (eqRuleS_same l a1 a2 c1 c2 _ (H1.out.later hbel) (H2.out.later hbel) hlen).mono ?_
  rintro e w2 ⟨rfl, hb2⟩
  have hbel2 := Below.now hbel hb2
  clear hbel hb2
  go_wp2_with fail
  go_ret
  exact ⟨rfl, hbel2⟩
end Go.Proofs.YtggfhephdcnpcaaGreatDoor
namespace Go.Proofs.YtggfhephdcnpcaaGreatDoor
open Go.RowKit
set_option linter.unusedVariables false
theorem Tryz.infoStep2 : (Tryz.prog.info? 54).map (fun i => (i.zero, i.size, i.bytes)) = some (some (.agg #[.int .i64 0, .int .i64 0]), 2, 16) := by kernel_rfl
theorem stTo_len (R : List RulD) (w : ByteArray) (i k : Nat) : (stTo R w i k).length ≤ i * R.length + k := by
  have h : ∀ j n, (stAt R w j n).length ≤ n := fun j n => by
    unfold stAt
    rw [List.length_map]
    have := List.length_filter_le (fun r => preAt w j (nthR R r).1) (List.range n)
    simpa using this
  unfold stTo
  rw [List.length_append]
  have h1 := flat_len (fun j => stAt R w j R.length) R.length (fun j => h j R.length) i
  have h2 := h i k
  omega
theorem cells_stV (l : List (Nat × Nat)) (r i : Nat) : cellsL stV (l ++ [(r, i)]) = cellsL stV l ++ [.int .i64 (r : Nat), .int .i64 (i : Nat)] := by rw [cellsL_app, cellsL_one]; rfl
/-- the cells of a rule -/
theorem rule_at {w W : World} {a : Option Addr} {R : List RulD} (h : RulesIn w a R) (hb : Below w.heap.size w W) {r : Nat} (hr : r < R.length) : ∃ b off, a = some ⟨b, off, none⟩ ∧ b < w.heap.size ∧ W.cell? ⟨b, off + r * 2, none⟩ = some (.string (nthR R r).1) ∧ W.cell? ⟨b, off + r * 2 + 1, none⟩ = some (.string (nthR R r).2) := by
  obtain ⟨b, off, e, hlt, hc⟩ := h.cell hr
  obtain ⟨h1, h2⟩ := hc r hr
  exact ⟨b, off, e, hlt, by rw [hb.cell (World.block_lt_of_cell? w _ h1)]; exact h1, by rw [hb.cell (World.block_lt_of_cell? w _ h2)]; exact h2⟩
theorem box_two {W : World} {T : TypeId} {u v : Value} {W2 : World} (hb : Below (W.alloc (.cells #[u, v] T)).heap.size (W.alloc (.cells #[u, v] T)) W2) : W2.cell? ⟨W.heap.size, 0, none⟩ = some u ∧ W2.cell? ⟨W.heap.size, 1, none⟩ = some v :=
  sys_cells ((hb.block W.heap.size (by simp)).trans (alloc_at W _))
set_option maxRecDepth 100000 in
set_option maxHeartbeats 2000000 in
theorem specStepsOf_any (k : Int) (R : List RulD) (a : Option Addr) (cap : Nat) (w0 : ByteArray) (w : World) (hl : RulesIn w a R) (hs : sysP k R) (hw : w0.size ≤ 16) :
    Calls Tryz.prog 256 #[.agg #[.int .i64 k, .slice a R.length cap], .string w0] w (RetSl 54 2 (stepsF R w0).length (cellsL stV (stepsF R w0)) w) := by
  have h12 : R.length ≤ 12 := hs.1.1.2
  have hz : SzR R := fun j hj => by have := (hs.1.2 _ (nthR_mem hj)).1.2; unfold maxLen; omega
  have h8 := left8 hs
  have HPOS : Hid (∀ r, r < R.length → 0 < (nthR R r).1.size) := Lib.hid (fun r hr => by have := (hs.1.2 _ (nthR_mem hr)).2; omega)
  have HL := Lib.hid hl
  have HRO := Lib.hid (fun W h => specRulesOk_any k R a cap W h (by omega) hz)
  have HRP := Lib.hid hs.1
  have HA := Lib.hid (fun o => alloc_belowS w o)
  have HBX : Hid (∀ W2, Below (w.alloc (.cells #[.int .i64 k, .slice a R.length cap] 29)).heap.size (w.alloc (.cells #[.int .i64 k, .slice a R.length cap] 29)) W2 → W2.cell? ⟨w.heap.size, 0, none⟩ = some (.int .i64 k) ∧ W2.cell? ⟨w.heap.size, 1, none⟩ = some (.slice a R.length cap)) := Lib.hid (fun W2 h => box_two h)
  clear hl hs hz
  go_enter Tryz.func256, Tryz.ntmps256
  go_wp2_with fail
  refine (HRO.out _ (HL.out.later (HA.out _))).mono ?_
  rintro e w1 ⟨bb, hbb, rfl, hb1⟩
  obtain rfl := hbb.2 HRP.out
  have HW1 := Lib.hid (Below.now (HA.out _) hb1)
  have HBX1 : Hid (∀ W2, Below w1.heap.size w1 W2 → W2.cell? ⟨w.heap.size, 0, none⟩ = some (.int .i64 k) ∧ W2.cell? ⟨w.heap.size, 1, none⟩ = some (.slice a R.length cap)) := Lib.hid (fun W2 hW2 => HBX.out W2 (Below.now hb1 hW2))
  have HL1 := Lib.hid (HL.out.later (Below.now (HA.out _) hb1))
  have HB0 : Hid (Bld 54 2 w1 (w1.alloc (.cells #[] 54)) (.slice (some ⟨w1.heap.size, 0, none⟩) 0 0) (stTo R w0 0 0).length (cellsL stV (stTo R w0 0 0))) := Lib.hid (Bld.empty 54 2 w1)
  clear hbb hb1 HRO HBX
  go_wp2_with fail
  go_loopw [5, 6] (fun vo vi wr => ∃ i : Nat, i ≤ w0.size ∧ vi = .int .i64 (i : Nat) ∧ Bld 54 2 w1 wr vo (stTo R w0 i 0).length (cellsL stV (stTo R w0 i 0))) (fun _ vi _ => w0.size - (intOf vi).toNat)
  case atStart => exact ⟨0, Nat.zero_le _, rfl, HB0.out⟩
  case round =>
    clear HB0
    obtain ⟨i, hi, rfl, hbd⟩ := hrel
    obtain ⟨ao, co, rfl⟩ := owns_form hbd.1
    have HB := Lib.hid hbd
    obtain ⟨s0, s1⟩ := HBX1.out wr hbd.2
    clear hbd
    by_cases hlt : i < w0.size
    · have HXT := Lib.hid (stTo_next R w0 i)
      go_wp2_with fail
      generalize hW : wr = wr0 at *
      clear hW s0 s1
      go_loopw [5, 22] (fun vo vr wr => ∃ r : Nat, r ≤ R.length ∧ vr = .int .i64 (r : Nat) ∧ Bld 54 2 w1 wr vo (stTo R w0 i r).length (cellsL stV (stTo R w0 i r))) (fun _ vr _ => R.length - (intOf vr).toNat)
      case atStart => exact ⟨0, Nat.zero_le _, rfl, HB.out⟩
      case round =>
        clear HB
        obtain ⟨r, hr, rfl, hbd⟩ := hrel
        obtain ⟨a2, c2, rfl⟩ := owns_form hbd.1
        have HB := Lib.hid hbd
        have hsl := stTo_len R w0 i r
        have hil : i * R.length ≤ 16 * 12 := Nat.mul_le_mul (by omega) h12
        by_cases hlr : r < R.length
        · obtain ⟨b, off, rfl, hb, k0, k1⟩ := rule_at HL1.out hbd.2 hlr
          have hl8 := h8 r
          have hpos := HPOS.out r hlr
          have HY := Lib.hid (fun h => stTo_yes (R := R) (w := w0) (i := i) (k := r) h)
          have HN := Lib.hid (fun h => stTo_no (R := R) (w := w0) (i := i) (k := r) h)
          have HEX := Lib.hid (preAt_ext (w0 := w0) (l := (nthR R r).1) (i := i))
          have HFT := Lib.hid (fun h => preAt_fits (w := w0) (l := (nthR R r).1) (i := i) h hpos)
          have hw9 : IntKind.i64.wrap ((w0.size : Int) - (i : Int)) = ((w0.size - i : Nat) : Int) := by rw [IntWalk.i64_in _ (by omega)]; omega
          have hw8 : IntKind.i64.wrap ((i : Int) + ((nthR R r).1.size : Int)) = ((i + (nthR R r).1.size : Nat) : Int) := by rw [IntWalk.i64_in _ (by omega)]; omega
          clear hbd
          generalize (nthR R r).1 = l at *
          generalize (nthR R r).2 = q at *
          go_wp2_with fail
          have HB5 := Lib.hid (HB.out.later (alloc_belowS wr (.cells #[.string l, .string q] 60)))
          have hcb := alloc_at wr (.cells #[.string l, .string q] 60)
          have hc0 := (sys_cells hcb).1
          have HCB := Lib.hid hcb
          clear k0 k1 hcb
          generalize hg : wr.heap.size = g at *
          generalize wr.alloc (.cells #[.string l, .string q] 60) = w5 at *
          cases hp : preAt w0 i l
          · have HNX := Lib.hid (HN.out hp)
            have he := HEX.out.trans hp
            clear hp HY HN HFT
            generalize hX : stTo R w0 i r = X at *
            clear hX
            by_cases hf : i + l.size ≤ w0.size
            · have f1 : (l.size : Int) ≤ ((w0.size - i : Nat) : Int) := by omega
              have f2 : ((i + l.size : Nat) : Int) ≤ (w0.size : Int) := by omega
              go_quiet (fail)
              have HB6 := Lib.hid (HB5.out.later (below_drewN (Below.refl _ _) nq))
              go_wp2_with fail
              go_roundw
              case rel => exact ⟨r + 1, by omega, by go_num, by rw [HNX.out]; exact HB6.out⟩
              case measure => simp [intOf]; omega
            · have f1 : ¬ (l.size : Int) ≤ ((w0.size - i : Nat) : Int) := by omega
              go_quiet (fail)
              have HB6 := Lib.hid (HB5.out.later (below_drewN (Below.refl _ _) nq))
              go_wp2_with fail
              go_roundw
              case rel => exact ⟨r + 1, by omega, by go_num, by rw [HNX.out]; exact HB6.out⟩
              case measure => simp [intOf]; omega
          · have hf := HFT.out hp
            have HNX := Lib.hid (HY.out hp)
            have he := HEX.out.trans hp
            clear hp HY HN HFT
            generalize hX : stTo R w0 i r = X at *
            clear hX
            have f1 : (l.size : Int) ≤ ((w0.size - i : Nat) : Int) := by omega
            have f2 : ((i + l.size : Nat) : Int) ≤ (w0.size : Int) := by omega
            go_quiet (fail)
            have HB6 := Lib.hid (HB5.out.later (below_drewN (Below.refl _ _) nq))
            go_wp2_with (at_builtin; refine wpList_app1 rfl _ _ rfl Tryz.underlying76 Tryz.infoStep2 rfl (by decide) rfl HB6.out rfl ?c1 ?c2 ?c3 ?c4 ?c5)
            case c2 => intro u hu; simp at hu; rcases hu with rfl | rfl <;> rfl
            case c3 => unfold maxLen; omega
            case c4 => omega
            case c1 => rfl
            intro v4 w4 hb4
            have HB4 : Hid (Bld 54 2 w1 w4 v4 (stTo R w0 i (r + 1)).length (cellsL stV (stTo R w0 i (r + 1)))) := Lib.hid (by
              rw [HNX.out, List.length_append, cells_stV]; exact hb4)
            obtain ⟨a4, c4, hv4⟩ := owns_form HB4.out.1
            subst hv4
            clear hb4
            go_wp2_with fail
            go_roundw
            case rel => exact ⟨r + 1, by omega, by go_num, HB4.out⟩
            case measure => simp [intOf]; omega
        · obtain rfl : r = R.length := by omega
          have HB2 : Hid (Bld 54 2 w1 wr (.slice a2 (stTo R w0 i R.length).length c2) (stTo R w0 (i + 1) 0).length (cellsL stV (stTo R w0 (i + 1) 0))) := Lib.hid (by rw [← HXT.out]; exact HB.out)
          clear hbd
          go_wp2_with fail
          go_roundw
          case rel => exact ⟨i + 1, by omega, by go_num, HB2.out⟩
          case measure => simp [intOf]; omega
    · obtain rfl : i = w0.size := by omega
      have F : Hid (RetSl 54 2 (stepsF R w0).length (cellsL stV (stepsF R w0)) w (.returned (.slice ao (stTo R w0 w0.size 0).length co)) wr) := Lib.hid (by
        rw [stTo_done] at HB ⊢
        exact ((HB.out.since HW1.out).ret))
      go_wp2_with fail
      go_ret
      exact F.out
end Go.Proofs.YtggfhephdcnpcaaGreatDoor
