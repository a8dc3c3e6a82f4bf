/-
  The laws' own helpers over systems: sz, to, eq.
-/
import Derived.Test.YtdpfgdckgchpdaaGreatDoorGrp04
import Derived.Test.YtdpfgdckgchpdaaGreatDoorGrp07
import Derived.Deep.QuietTactic
namespace Go.Proofs.YtdpfgdckgchpdaaGreatDoor
open Go.RowKit Go.ChangeShapes Go.WideShapes Go.ChangeAt Go.Joins Go.Deep
set_option linter.unusedVariables false
theorem Tryz.infoRule : (Tryz.prog.info? 60).map (fun i => (i.zero, i.size, i.bytes)) = some (some (.agg #[.string ⟨#[]⟩, .string ⟨#[]⟩]), 2, 32) := by kernel_rfl
/-- what szRuleS hands back -/
def szRF (left : Int) (l : List RulD) : Int := if left < (l.length : Int) + ruleSum l then -1 else left - l.length - ruleSum l
theorem szRF_big {left : Int} {l : List RulD} (h : left < (l.length : Int) + ruleSum l) : szRF left l = -1 := by simp [szRF, h]
theorem szRF_ok {left : Int} {l : List RulD} (h : ¬ left < (l.length : Int) + ruleSum l) : szRF left l = left - l.length - ruleSum l := by simp only [szRF, if_neg h]
def szR1 (left : Int) (x y : ByteArray) : Int := if left < (x.size : Int) + y.size then -1 else left - x.size - y.size
set_option maxHeartbeats 400000 in
theorem szRule_any (x y : ByteArray) (left : Int) (w : World) (hx : x.size ≤ maxLen) (hy : y.size ≤ maxLen) (h0 : 0 ≤ left) (h1 : left ≤ 1048576) :
    Calls Tryz.prog 72 #[.agg #[.string x, .string y], .int .i64 left] w fun e w' => e = .returned (.int .i64 (szR1 left x y)) ∧ Below w.heap.size w w' := by
  unfold maxLen at hx hy
  by_cases e1 : left - x.size < 0
  · have F : Hid (szR1 left x y = -1) := Lib.hid (by unfold szR1; rw [if_pos (by omega)])
    go_enter Tryz.func72, Tryz.ntmps72
    go_wp2_with fail
    go_ret
    exact ⟨ret_int F.out.symm, by repeat (first | exact Below.refl _ _ | refine Below.alloc ?_ (by simp; try omega) _)⟩
  · by_cases e2 : left - x.size - y.size < 0
    · have F : Hid (szR1 left x y = -1) := Lib.hid (by unfold szR1; rw [if_pos (by omega)])
      go_enter Tryz.func72, Tryz.ntmps72
      go_wp2_with fail
      go_ret
      exact ⟨ret_int F.out.symm, by repeat (first | exact Below.refl _ _ | refine Below.alloc ?_ (by simp; try omega) _)⟩
    · have F : Hid (szR1 left x y = left - x.size - y.size) := Lib.hid (by unfold szR1; rw [if_neg (by omega)])
      go_enter Tryz.func72, Tryz.ntmps72
      go_wp2_with fail
      go_ret
      exact ⟨ret_int F.out.symm, by repeat (first | exact Below.refl _ _ | refine Below.alloc ?_ (by simp; try omega) _)⟩
set_option maxHeartbeats 400000 in
theorem szRuleS_any (l : List RulD) (a : Option Addr) (cap : Nat) (left : Int) (w : World) (hl : RulesIn w a l) (hn : l.length ≤ 9223372036854775807) (hm : ∀ j, j < l.length → (nthR l j).1.size ≤ maxLen ∧ (nthR l j).2.size ≤ maxLen) (h0 : 0 ≤ left) (h1 : left ≤ 1048576) :
    Calls Tryz.prog 23 #[.slice a l.length cap, .int .i64 left] w fun e w' => e = .returned (.int .i64 (szRF left l)) ∧ Below w.heap.size w w' := by
  by_cases hlt : left < (l.length : Int)
  · have F := Lib.hid (szRF_big (l := l) (left := left) (by omega))
    go_enter Tryz.func23, Tryz.ntmps23
    go_wp2_with fail
    go_ret
    exact ⟨ret_int F.out.symm, Below.refl _ _⟩
  · have HL := Lib.hid hl
    have HM := Lib.hid hm
    clear hl hm
    go_enter Tryz.func23, Tryz.ntmps23
    go_wp2_with fail
    go_loopw [1, 5] (fun s i wr => ∃ (j : Nat) (x : Int), j ≤ l.length ∧ i = .int .i64 j ∧ s = .int .i64 x ∧ x = left - l.length - ruleSumTo l j ∧ 0 ≤ x ∧ Below w.heap.size w wr) (fun _ i _ => l.length - (intOf i).toNat)
    case atStart => exact ⟨0, _, Nat.zero_le _, rfl, rfl, by simp [ruleSumTo], by omega, Below.refl _ _⟩
    case round =>
      obtain ⟨j, x, hj, rfl, rfl, hx, hx0, hbw⟩ := hrel
      by_cases hlj : j < l.length
      · obtain ⟨b, off, rfl, hb, hc⟩ := (HL.out.later hbw).cell hlj
        obtain ⟨c1, c2⟩ := hc j hlj
        obtain ⟨z1, z2⟩ := HM.out j hlj
        have hs : ruleSumTo l (j + 1) = ruleSumTo l j + ((nthR l j).1.size + (nthR l j).2.size) := rfl
        have hle : ruleSumTo l (j + 1) ≤ ruleSum l := by rw [← ruleSumTo_all]; exact ruleSumTo_mono l hlj
        clear hc
        have HX := Lib.hid hx
        have hx1 : x ≤ 1048576 := by omega
        clear hx
        generalize hu : (nthR l j).1 = u at *
        generalize hv : (nthR l j).2 = v at *
        clear hu hv
        have HS := Lib.hid (fun W => szRule_any u v x W z1 z2 hx0 hx1)
        by_cases hneg : x < (u.size : Int) + v.size
        · have F := Lib.hid (szRF_big (l := l) (left := left) (by have := HX.out; omega))
          have e1 : szR1 x u v = -1 := by unfold szR1; rw [if_pos hneg]
          rw [e1] at HS
          clear hs hle e1 hneg
          go_wp2_with (go_at_call 72; refine (HS.out _).mono ?_; rintro e w2 ⟨rfl, hb2⟩)
          have hbw2 := Below.now hbw hb2
          clear hb2 hbw
          go_wp2_with fail
          go_ret
          exact ⟨ret_int F.out.symm, hbw2⟩
        · have HX2 : Hid (x - u.size - v.size = left - l.length - ruleSumTo l (j + 1)) := Lib.hid (by have := HX.out; omega)
          have e1 : szR1 x u v = x - u.size - v.size := by unfold szR1; rw [if_neg hneg]
          have hge : 0 ≤ x - u.size - v.size := by omega
          rw [e1] at HS
          clear hs hle e1 hneg
          generalize hq : x - u.size - v.size = y at *
          clear hq
          go_wp2_with (go_at_call 72; refine (HS.out _).mono ?_; rintro e w2 ⟨rfl, hb2⟩)
          have hbw2 := Below.now hbw hb2
          clear hb2 hbw
          go_wp2_with fail
          go_roundw
          case rel => exact ⟨j + 1, y, by omega, by go_num, rfl, HX2.out, hge, hbw2⟩
          case measure => simp [intOf]; omega
      · obtain rfl : j = l.length := by omega
        have ha := ruleSumTo_all l
        have F := Lib.hid (szRF_ok (l := l) (left := left) (by omega))
        have F2 : Hid (x = szRF left l) := Lib.hid (by rw [F.out]; omega)
        clear ha hx
        go_wp2_with fail
        go_ret
        exact ⟨ret_int F2.out, hbw⟩
set_option maxHeartbeats 400000 in
theorem szSystem_any (k : Int) (l : List RulD) (a : Option Addr) (cap : Nat) (left : Int) (w : World) (hl : RulesIn w a l) (hn : l.length ≤ 9223372036854775807) (hm : ∀ j, j < l.length → (nthR l j).1.size ≤ maxLen ∧ (nthR l j).2.size ≤ maxLen) (h0 : 0 ≤ left) (h1 : left ≤ 1048576) :
    Calls Tryz.prog 9 #[.agg #[.int .i64 k, .slice a l.length cap], .int .i64 left] w fun e w' => e = .returned (.int .i64 (szRF left l)) ∧ Below w.heap.size w w' := by
  have HS := Lib.hid (fun W hW => szRuleS_any l a cap left W (hl.later hW) hn hm h0 h1)
  clear hl hm
  by_cases hlt : left < (l.length : Int) + ruleSum l
  · have F := Lib.hid (szRF_big hlt)
    rw [F.out] at HS
    clear hlt
    rw [F.out]
    clear F
    go_enter Tryz.func9, Tryz.ntmps9
    go_wp2_with fail
    refine (HS.out _ (by repeat (first | exact Below.refl _ _ | refine Below.alloc ?_ (by simp; try omega) _))).mono ?_
    rintro e w2 ⟨rfl, hb2⟩
    have hbw : Below w.heap.size w w2 := Below.now (by repeat (first | exact Below.refl _ _ | refine Below.alloc ?_ (by simp; try omega) _)) hb2
    clear hb2 HS
    go_wp2_with fail
    go_ret
    exact ⟨rfl, hbw⟩
  · have hge : 0 ≤ left - l.length - ruleSum l := by omega
    have F := Lib.hid (szRF_ok hlt)
    rw [F.out] at HS
    clear hlt
    rw [F.out]
    clear F
    generalize hq : left - l.length - ruleSum l = y at *
    clear hq
    go_enter Tryz.func9, Tryz.ntmps9
    go_wp2_with fail
    refine (HS.out _ (by repeat (first | exact Below.refl _ _ | refine Below.alloc ?_ (by simp; try omega) _))).mono ?_
    rintro e w2 ⟨rfl, hb2⟩
    have hbw : Below w.heap.size w w2 := Below.now (by repeat (first | exact Below.refl _ _ | refine Below.alloc ?_ (by simp; try omega) _)) hb2
    clear hb2 HS
    go_wp2_with fail
    go_ret
    exact ⟨rfl, hbw⟩
set_option maxHeartbeats 400000 in
theorem toRule_any (x y : ByteArray) (w : World) :
    Calls Tryz.prog 75 #[.agg #[.string x, .string y]] w fun e w' => e = .returned (.agg #[.string x, .string y]) ∧ Below w.heap.size w w' := by
  go_enter Tryz.func75, Tryz.ntmps75
  go_wp2_with fail
  refine bodyPost_ret (v := .agg #[.string x, .string y]) ?_ rfl ?_
  · simp [results, Tryz.results75, go_sem]
  · refine ⟨rfl, ?_⟩
    repeat (first | exact Below.refl _ _ | refine Below.setCell ?_ (by simp; try omega) _ | refine Below.alloc ?_ (by simp; try omega) _)
theorem eqRule_same2 (x y : ByteArray) (w : World) :
    Calls Tryz.prog 76 #[.agg #[.string x, .string y], .agg #[.string x, .string y]] w fun e w' => e = .returned (.bool true) ∧ Below w.heap.size w w' := by
  go_enter Tryz.func76, Tryz.ntmps76
  go_wp2_with fail
  go_ret
  exact ⟨rfl, by repeat (first | exact Below.refl _ _ | refine Below.alloc ?_ (by simp; try omega) _)⟩
set_option maxRecDepth 20000 in
set_option maxHeartbeats 1000000 in
theorem toRuleS_any (l : List RulD) (a : Option Addr) (cap : Nat) (w : World) (hl : RulesIn w a l) (hlen : l.length ≤ 2097152) :
    Calls Tryz.prog 25 #[.slice a l.length cap] w (RetSl 60 2 l.length (ruleCells l) w) := by
  have hmk := run_make_k (P := Tryz.prog) 27 60 _ 2 32 Tryz.underlying27 Tryz.infoRule .i64 .i64 l.length (by omega) (by omega)
  have HL := Lib.hid hl
  clear hl
  go_enter Tryz.func25, Tryz.ntmps25
  go_wp2_with fail
  clear hmk
  have HF := FillK.start w 60 (madeCells #[.string ⟨#[]⟩, .string ⟨#[]⟩] (l.length * 2)) 2 l.length (ruleCells l) (size_madeCells _ _) (by unfold maxLen; omega) (ruleCells_len l)
  generalize (w.alloc (.cells (madeCells #[.string ⟨#[]⟩, .string ⟨#[]⟩] (l.length * 2)) 60)) = w1 at *
  obtain ⟨g, hg⟩ : ∃ g, w.heap.size = g := ⟨_, rfl⟩
  rw [hg] at HF
  rw [hg]
  have HG := Lib.hid hg
  clear hg
  go_loopw [4] (fun i wr => ∃ j : Nat, j ≤ l.length ∧ i = .int .i64 j ∧ FillK w wr 60 2 g l.length (ruleCells l) (j * 2)) (fun i _ => l.length - (intOf i).toNat)
  case atStart => exact ⟨0, Nat.zero_le _, rfl, HF⟩
  case round =>
    clear HF
    obtain ⟨j, hj, rfl, HF⟩ := hrel
    by_cases hlt : j < l.length
    · obtain ⟨b, off, rfl, hb, hc⟩ := (HL.out.later HF.below).cell hlt
      obtain ⟨c1, c2⟩ := hc j hlt
      obtain ⟨t1, t2⟩ := ruleCells_at l j hlt
      have HF0 := Lib.hid HF
      have T1 := Lib.hid t1
      have T2 := Lib.hid t2
      clear hc HF t1 t2
      go_wp2_with fail
      refine (toRule_any _ _ _).mono ?_
      rintro e w2 ⟨rfl, hb2⟩
      have HF1 := HF0.out.later hb2
      obtain ⟨v0, hv0⟩ := HF1.cell (i := j * 2) (by omega)
      obtain ⟨v1, hv1⟩ := HF1.cell (i := j * 2 + 1) (by omega)
      have z0 := HF1.frozen (j * 2)
      have z1 := HF1.frozen (j * 2 + 1)
      have HF2 := Lib.hid ((HF1.store (c := j * 2) (by omega) T1.out).store (c := j * 2 + 1) (by omega) T2.out)
      clear HF1 c1 c2 hb2
      go_wp2_with fail
      go_roundw
      case rel => exact ⟨j + 1, by omega, by go_num, by rw [show (j + 1) * 2 = j * 2 + 1 + 1 by omega]; exact HF2.out⟩
      case measure => simp [intOf]; omega
    · have HF2 := Lib.hid (HF.done (by omega))
      clear HF
      go_wp2_with fail
      go_ret
      exact HF2.out
set_option maxHeartbeats 1000000 in
theorem eqRuleS_same (l : List RulD) (a1 a2 : Option Addr) (c1 c2 : Nat) (w : World) (h1 : RulesIn w a1 l) (h2 : RulesIn w a2 l) (hlen : l.length ≤ 2 ^ 47) :
    Calls Tryz.prog 27 #[.slice a1 l.length c1, .slice a2 l.length c2] w fun e w' => e = .returned (.bool true) ∧ Below w.heap.size w w' := by
  have H1 := Lib.hid h1
  have H2 := Lib.hid h2
  clear h1 h2
  go_enter Tryz.func27, Tryz.ntmps27
  go_wp2
  go_loopw [5] (fun i wr => ∃ j : Nat, j ≤ l.length ∧ i = .int .i64 j ∧ Below w.heap.size w wr) (fun i _ => l.length - (intOf i).toNat)
  case atStart => exact ⟨0, Nat.zero_le _, rfl, Below.refl _ _⟩
  case round =>
    obtain ⟨j, hj, rfl, hbel⟩ := hrel
    by_cases hlt : j < l.length
    · obtain ⟨b1, o1, rfl, hb1, hc1⟩ := (H1.out.later hbel).cell hlt
      obtain ⟨b2, o2, rfl, hb2, hc2⟩ := (H2.out.later hbel).cell hlt
      have g1 : ∀ x, (wide wr x).cell? ⟨b1, o1 + j * 2, none⟩ = some (.string (nthR l j).1) := wide_cell (hc1 j hlt).1
      have g2 : ∀ x, (wide wr x).cell? ⟨b1, o1 + j * 2 + 1, none⟩ = some (.string (nthR l j).2) := wide_cell (hc1 j hlt).2
      have g3 : ∀ x, (wide wr x).cell? ⟨b2, o2 + j * 2, none⟩ = some (.string (nthR l j).1) := wide_cell (hc2 j hlt).1
      have g4 : ∀ x, (wide wr x).cell? ⟨b2, o2 + j * 2 + 1, none⟩ = some (.string (nthR l j).2) := wide_cell (hc2 j hlt).2
      clear hc1 hc2
      go_wp2_with fail
      refine region_wide (by kernel_rfl) (by kernel_rfl) ?_
      repeat (quiet_step ((go_at_call 76; refine (eqRule_same2 _ _ _).mono ?_; rintro e w2 ⟨rfl, hb2⟩; exact ⟨rfl, wide_next hb2⟩)))
      refine wpQuiet_nil ?_
      rintro w4 ⟨x4, rfl⟩
      have hbel2 := Below.now hbel (below_wide wr x4)
      clear hbel g1 g2 g3 g4
      go_wp2_with fail
      go_roundw
      case rel => exact ⟨j + 1, by omega, by go_num, hbel2⟩
      case measure => simp [intOf]; omega
    · go_wp2_with fail
      go_ret
      exact ⟨rfl, hbel⟩
/-- what toSystem hands back -/
def RetSys (T : TypeId) (k : Int) (l : List RulD) (w : World) (e : Ending) (w' : World) : Prop :=
  ∃ a cap, e = .returned (.agg #[.int .i64 k, .slice a l.length cap]) ∧ w'.ownsRow w.heap.size T 2 (.slice a l.length cap) l.length (ruleCells l) ∧ Below w.heap.size w w'
set_option maxHeartbeats 400000 in
theorem toSystem_any (n : Int) (l : List RulD) (a : Option Addr) (cap : Nat) (w : World) (hl : RulesIn w a l) (hlen : l.length ≤ 2097152) :
    Calls Tryz.prog 11 #[.agg #[.int .i64 n, .slice a l.length cap]] w (RetSys 60 n l w) := by
  have HL := Lib.hid hl
  clear hl
  go_enter Tryz.func11, Tryz.ntmps11
  go_wp2_with fail
  refine (toRuleS_any l a cap _ (HL.out.later (by repeat (first | exact Below.refl _ _ | refine Below.setCell ?_ (by simp) _ | refine Below.alloc ?_ (by simp; try omega) _))) hlen).mono ?_
  rintro e w2 ⟨a2, c2, rfl, ho, hb2⟩
  have hs := hb2.size
  have hsz : w.heap.size + 1 + 1 < w2.heap.size := by simp at hs; omega
  have h10 : w2.cell? ⟨w.heap.size + 1, 0, none⟩ = some (.int .i64 0) := by rw [hb2.cell (by simp; try omega)]; simp [go_sem]
  have h11 : w2.cell? ⟨w.heap.size + 1, 1, none⟩ = some (.slice none 0 0) := by rw [hb2.cell (by simp; try omega)]; simp [go_sem]
  have h20 : w2.cell? ⟨w.heap.size + 1 + 1, 0, none⟩ = some (.int .i64 n) := by rw [hb2.cell (by simp; try omega)]; simp [go_sem]
  have h21 : w2.cell? ⟨w.heap.size + 1 + 1, 1, none⟩ = some (.slice none 0 0) := by rw [hb2.cell (by simp; try omega)]; simp [go_sem]
  have f10 : w2.frozen? ⟨w.heap.size + 1, 0, none⟩ = false := by rw [hb2.frozen (by simp; try omega)]; simp [go_sem]
  have f11 : w2.frozen? ⟨w.heap.size + 1, 1, none⟩ = false := by rw [hb2.frozen (by simp; try omega)]; simp [go_sem]
  have f20 : w2.frozen? ⟨w.heap.size + 1 + 1, 0, none⟩ = false := by rw [hb2.frozen (by simp; try omega)]; simp [go_sem]
  have f21 : w2.frozen? ⟨w.heap.size + 1 + 1, 1, none⟩ = false := by rw [hb2.frozen (by simp; try omega)]; simp [go_sem]
  have hbel : Below w.heap.size w w2 := by
    refine Below.trans ?_ (hb2.mono (by simp; try omega))
    repeat (first | exact Below.refl _ _ | refine Below.alloc ?_ (by simp; try omega) _)
  have ho' : w2.ownsRow (w.heap.size + 1 + 1 + 1) 60 2 (.slice a2 l.length c2) l.length (ruleCells l) := by simpa using ho
  clear ho hb2 hs
  have HO := Lib.hid ho'
  clear ho'
  go_wp2_with fail
  refine bodyPost_ret (v := .agg #[.int .i64 n, .slice a2 l.length c2]) ?_ rfl ?_
  · simp [results, Tryz.results11, go_sem, h10, h11]
  · refine ⟨_, _, rfl, ?_, ?_⟩
    · exact owns_mono (ownsRow_setCell_below (ownsRow_setCell_below (ownsRow_setCell_below HO.out (by simp; try omega) _) (by simp; try omega) _) (by simp; try omega) _) (by omega)
    · exact ((hbel.setCell (by simp; try omega) _).setCell (by simp; try omega) _).setCell (by simp; try omega) _
set_option maxHeartbeats 400000 in
theorem eqSystem_same (n : Int) (l : List RulD) (a1 a2 : Option Addr) (c1 c2 : Nat) (w : World) (h1 : RulesIn w a1 l) (h2 : RulesIn w a2 l) (hlen : l.length ≤ 2 ^ 47) :
    Calls Tryz.prog 13 #[.agg #[.int .i64 n, .slice a1 l.length c1], .agg #[.int .i64 n, .slice a2 l.length c2]] w fun e w' => e = .returned (.bool true) ∧ Below w.heap.size w w' := by
  have H1 := Lib.hid h1
  have H2 := Lib.hid h2
  clear h1 h2
  go_enter Tryz.func13, Tryz.ntmps13
  go_wp2_with fail
  have hbel : Below w.heap.size w ((w.alloc (.cells #[.int .i64 n, .slice a1 l.length c1] 29)).alloc (.cells #[.int .i64 n, .slice a2 l.length c2] 29)) := ((Below.refl _ _).alloc (Nat.le_refl _) _).alloc (by simp) _
  refine (eqRuleS_same l a1 a2 c1 c2 _ (H1.out.later hbel) (H2.out.later hbel) hlen).mono ?_
  rintro e w2 ⟨rfl, hb2⟩
  have hbel2 := Below.now hbel hb2
  clear hbel hb2
  go_wp2_with fail
  go_ret
  exact ⟨rfl, hbel2⟩
end Go.Proofs.YtdpfgdckgchpdaaGreatDoor
