/-
  The laws' own helpers over slices of links.
-/
import Derived.Test.YtldkghfnlkbmpaaDoorLinks
import Derived.Test.YtldkghfnlkbmpaaDoorLift
import Derived.Deep.QuietTactic
namespace Go.Proofs.YtldkghfnlkbmpaaDoor
open Go.RowKit Go.ChangeShapes Go.WideShapes Go.ChangeAt Go.Joins Go.Deep
set_option linter.unusedVariables false
theorem Tryd.infoLink : (Tryd.prog.info? 61).map (fun i => (i.zero, i.size, i.bytes)) = some (some (.agg #[.int .i64 0, .int .i64 0, .bool false]), 3, 24) := by kernel_rfl
set_option maxHeartbeats 400000 in
theorem szLinkS_any (n cap : Nat) (a : Option Addr) (left : Int) (w : World) (hn : n ≤ 9223372036854775807) (h0 : 0 ≤ left) (h1 : left ≤ 1048576) :
    Calls Tryd.prog 21 #[.slice a n cap, .int .i64 left] w fun e w' => e = .returned (.int .i64 (if left < n then -1 else left - n)) ∧ w = w' := by
  by_cases hlt : left < (n : Int)
  · rw [if_pos hlt]
    go_enter Tryd.func21, Tryd.ntmps21
    go_wp2
    go_ret
    exact ⟨rfl, rfl⟩
  · rw [if_neg hlt]
    go_enter Tryd.func21, Tryd.ntmps21
    go_wp2
    go_ret
    exact ⟨rfl, rfl⟩
set_option maxHeartbeats 400000 in
theorem toLink_any (x y : Int) (z : Bool) (w : World) :
    Calls Tryd.prog 37 #[.agg #[.int .i64 x, .int .i64 y, .bool z]] w fun e w' => e = .returned (.agg #[.int .i64 x, .int .i64 y, .bool z]) ∧ Below w.heap.size w w' := by
  go_enter Tryd.func37, Tryd.ntmps37
  go_wp2_with fail
  refine bodyPost_ret (v := .agg #[.int .i64 x, .int .i64 y, .bool z]) ?_ rfl ?_
  · simp [results, Tryd.results37, go_sem]
  · refine ⟨rfl, ?_⟩
    repeat (first | exact Below.refl _ _ | refine Below.setCell ?_ (by simp; try omega) _ | refine Below.alloc ?_ (by simp; try omega) _)
set_option maxHeartbeats 400000 in
theorem eqLink_same (x y : Int) (z : Bool) (w : World) :
    Calls Tryd.prog 38 #[.agg #[.int .i64 x, .int .i64 y, .bool z], .agg #[.int .i64 x, .int .i64 y, .bool z]] w fun e w' => e = .returned (.bool true) ∧ Below w.heap.size w w' := by
  go_enter Tryd.func38, Tryd.ntmps38
  go_wp2_with fail
  go_ret
  exact ⟨rfl, by repeat (first | exact Below.refl _ _ | refine Below.alloc ?_ (by simp; try omega) _)⟩
set_option maxRecDepth 20000 in
set_option maxHeartbeats 1000000 in
theorem toLinkS_any (l : List (Int × Int × Bool)) (a : Option Addr) (cap : Nat) (w : World) (hl : LinksIn w a l) (hlen : l.length ≤ 2097152) :
    Calls Tryd.prog 23 #[.slice a l.length cap] w (RetSl 61 3 l.length (linkCells l) w) := by
  have hmk := run_make_k (P := Tryd.prog) 44 61 _ 3 24 Tryd.underlying44 Tryd.infoLink .i64 .i64 l.length (by omega) (by omega)
  have HL := Lib.hid hl
  clear hl
  go_enter Tryd.func23, Tryd.ntmps23
  go_wp2_with fail
  clear hmk
  have HF := FillK.start w 61 (madeCells #[.int .i64 0, .int .i64 0, .bool false] (l.length * 3)) 3 l.length (linkCells l) (size_madeCells _ _) (by unfold maxLen; omega) (linkCells_len l)
  generalize (w.alloc (.cells (madeCells #[.int .i64 0, .int .i64 0, .bool false] (l.length * 3)) 61)) = w1 at *
  obtain ⟨g, hg⟩ : ∃ g, w.heap.size = g := ⟨_, rfl⟩
  rw [hg] at HF
  rw [hg]
  have HG := Lib.hid hg
  clear hg
  go_loopw [4] (fun i wr => ∃ j : Nat, j ≤ l.length ∧ i = .int .i64 j ∧ FillK w wr 61 3 g l.length (linkCells l) (j * 3)) (fun i _ => l.length - (intOf i).toNat)
  case atStart => exact ⟨0, Nat.zero_le _, rfl, HF⟩
  case round =>
    clear HF
    obtain ⟨j, hj, rfl, HF⟩ := hrel
    by_cases hlt : j < l.length
    · obtain ⟨b, off, rfl, hb, hc⟩ := (HL.out.later HF.below).cell hlt
      obtain ⟨c1, c2, d3⟩ := hc j hlt
      obtain ⟨t1, t2, t3⟩ := linkCells_at l j hlt
      have HF0 := Lib.hid HF
      have T1 := Lib.hid t1
      have T2 := Lib.hid t2
      have T3 := Lib.hid t3
      clear hc HF t1 t2 t3
      go_wp2_with fail
      refine (toLink_any _ _ _ _).mono ?_
      rintro e w2 ⟨rfl, hb2⟩
      have HF1 := HF0.out.later hb2
      obtain ⟨v0, hv0⟩ := HF1.cell (i := j * 3) (by omega)
      obtain ⟨v1, hv1⟩ := HF1.cell (i := j * 3 + 1) (by omega)
      obtain ⟨v2, hv2⟩ := HF1.cell (i := j * 3 + 2) (by omega)
      have z0 := HF1.frozen (j * 3)
      have z1 := HF1.frozen (j * 3 + 1)
      have z2 := HF1.frozen (j * 3 + 2)
      have HF2 := Lib.hid (((HF1.store (c := j * 3) (by omega) T1.out).store (c := j * 3 + 1) (by omega) T2.out).store (c := j * 3 + 2) (by omega) T3.out)
      clear HF1 c1 c2 d3 hb2
      go_wp2_with fail
      go_roundw
      case rel => exact ⟨j + 1, by omega, by go_num, by rw [show (j + 1) * 3 = j * 3 + 1 + 1 + 1 by omega]; exact HF2.out⟩
      case measure => simp [intOf]; omega
    · have HF2 := Lib.hid (HF.done (by omega))
      clear HF
      go_wp2_with fail
      go_ret
      exact HF2.out
set_option maxHeartbeats 1000000 in
theorem eqLinkS_same (l : List (Int × Int × Bool)) (a1 a2 : Option Addr) (c1 c2 : Nat) (w : World) (h1 : LinksIn w a1 l) (h2 : LinksIn w a2 l) (hlen : l.length ≤ 2 ^ 47) :
    Calls Tryd.prog 25 #[.slice a1 l.length c1, .slice a2 l.length c2] w fun e w' => e = .returned (.bool true) ∧ Below w.heap.size w w' := by
  have H1 := Lib.hid h1
  have H2 := Lib.hid h2
  clear h1 h2
  go_enter Tryd.func25, Tryd.ntmps25
  go_wp2
  go_loopw [5] (fun i wr => ∃ j : Nat, j ≤ l.length ∧ i = .int .i64 j ∧ Below w.heap.size w wr) (fun i _ => l.length - (intOf i).toNat)
  case atStart => exact ⟨0, Nat.zero_le _, rfl, Below.refl _ _⟩
  case round =>
    obtain ⟨j, hj, rfl, hbel⟩ := hrel
    by_cases hlt : j < l.length
    · obtain ⟨b1, o1, rfl, hb1, hc1⟩ := (H1.out.later hbel).cell hlt
      obtain ⟨b2, o2, rfl, hb2, hc2⟩ := (H2.out.later hbel).cell hlt
      have g1 : ∀ x, (wide wr x).cell? ⟨b1, o1 + j * 3, none⟩ = some (.int .i64 (nthK l j).1) := wide_cell (hc1 j hlt).1
      have g2 : ∀ x, (wide wr x).cell? ⟨b1, o1 + j * 3 + 1, none⟩ = some (.int .i64 (nthK l j).2.1) := wide_cell (hc1 j hlt).2.1
      have g5 : ∀ x, (wide wr x).cell? ⟨b1, o1 + j * 3 + 2, none⟩ = some (.bool (nthK l j).2.2) := wide_cell (hc1 j hlt).2.2
      have g3 : ∀ x, (wide wr x).cell? ⟨b2, o2 + j * 3, none⟩ = some (.int .i64 (nthK l j).1) := wide_cell (hc2 j hlt).1
      have g4 : ∀ x, (wide wr x).cell? ⟨b2, o2 + j * 3 + 1, none⟩ = some (.int .i64 (nthK l j).2.1) := wide_cell (hc2 j hlt).2.1
      have g6 : ∀ x, (wide wr x).cell? ⟨b2, o2 + j * 3 + 2, none⟩ = some (.bool (nthK l j).2.2) := wide_cell (hc2 j hlt).2.2
      clear hc1 hc2
      go_wp2_with fail
      refine region_wide (by kernel_rfl) (by kernel_rfl) ?_
      repeat (quiet_step ((go_at_call 38; refine (eqLink_same _ _ _ _).mono ?_; rintro e w2 ⟨rfl, hb2⟩; exact ⟨rfl, wide_next hb2⟩)))
      refine wpQuiet_nil ?_
      rintro w4 ⟨x4, rfl⟩
      have hbel2 := Below.now hbel (below_wide wr x4)
      clear hbel g1 g2 g3 g4 g5 g6
      go_wp2_with fail
      go_roundw
      case rel => exact ⟨j + 1, by omega, by go_num, hbel2⟩
      case measure => simp [intOf]; omega
    · go_wp2_with fail
      go_ret
      exact ⟨rfl, hbel⟩
end Go.Proofs.YtldkghfnlkbmpaaDoor
