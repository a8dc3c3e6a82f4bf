/-
  'FnExactZeroOf' holds: whatever the table, the program's ZeroOf answers as the reference's does, and leaves the table as it was. No condition.
-/
import Derived.Test.YtkkffaiacipibaaZeroSpec
import Derived.Test.YtkkffaiacipibaaTabHelp
import Derived.Test.YtkkffaiacipibaaLift
import Derived.Deep.RegionHeld3
namespace Go.Proofs.Ytkkffaiacipibaa.fnExactZeroOf
open Go.ChangeShapes Go.WideShapes Go.ChangeAt Go.RowKit Go.Joins
set_option linter.unusedVariables false
theorem own : ownKnob Try.prog.godebug = none := by kernel_rfl
set_option maxHeartbeats 1000000 in
theorem walk (n : Int) (l : List Int) (a : Option Addr) (cap : Nat) (w : World) (hl : IntsIn w a l) (hlen : l.length ≤ 9223372036854775807) :
    Calls Try.prog 3 #[.agg #[.int .i64 n, .slice a l.length cap]] w fun e w' => e = .returned (.bool true) ∧ Below w.heap.size w w' := by
  have HL := Lib.hid hl
  clear hl
  by_cases hs : (1048576 : Int) < l.length
  · have HC := fun w => szTable_any n l.length cap a 1048576 w (by omega) (by omega) (by omega)
    rw [if_pos hs] at HC
    have HC' := fun w => Lib.hid (HC w)
    clear HC
    go_enter Try.func3, Try.ntmps3
    go_wp2_with fail
    refine (HC' _).out.mono ?_
    rintro e w2 ⟨rfl, hb2⟩
    have hbel := Below.now ((Below.refl w.heap.size w).alloc (Nat.le_refl _) _) hb2
    clear hb2
    go_wp2_with fail
    go_ret
    exact ⟨rfl, hbel⟩
  have HC := fun w => szTable_any n l.length cap a 1048576 w (by omega) (by omega) (by omega)
  rw [if_neg hs] at HC
  have HC' := fun w => Lib.hid (HC w)
  clear HC
  have hs2 : l.length ≤ 1048576 := by omega
  clear hs
  go_enter Try.func3, Try.ntmps3
  go_wp2_with fail
  refine (HC' _).out.mono ?_
  rintro e w1 ⟨rfl, hb1⟩
  have hx0 := box_later hb1 (i := 0) (v := .int .i64 n) rfl
  have hx1 := box_later hb1 (i := 1) (v := .slice a l.length cap) rfl
  have hbel := Lib.hid (Below.now ((Below.refl w.heap.size w).alloc (Nat.le_refl _) _) hb1)
  have HL1 := Lib.hid (HL.out.later hbel.out)
  have hw1 := Below.refl w1.heap.size w1
  clear hb1
  go_wp2_with fail
  refine (toTable_any n l a cap _ HL1.out (by omega)).mono ?_
  rintro e w2 ⟨a2, c2, rfl, ho2, hb2⟩
  have HL2 := Lib.hid (owns_ints (l := l) ho2)
  clear ho2 hw1
  go_wp2_with fail
  refine (specZeroOf_any n l a2 c2 _ HL2.out (by omega)).mono ?_
  rintro e w3 ⟨rfl, hb3⟩
  have hw3 := Below.now hb2 hb3
  clear hb2 hb3
  go_wp2_with fail
  refine (toTable_any n l a cap _ (HL1.out.later hw3) (by omega)).mono ?_
  rintro e w4 ⟨a4, c4, rfl, ho4, hb4⟩
  have hw4 := Below.now hw3 hb4
  have HL4 := Lib.hid (owns_ints (l := l) ho4)
  clear ho4 hb4 hw3
  go_wp2_with fail
  have hb5 : Below w4.heap.size w4 (w4.alloc (.cells #[.int .i64 n, .slice a4 l.length c4] 27)) := (Below.refl _ _).alloc (Nat.le_refl _) _
  refine (implZeroOf_any n l a4 c4 _ (HL4.out.later hb5) (by omega)).mono ?_
  rintro e w6 ⟨rfl, hb6⟩
  have hy0 := box_later hb6 (i := 0) (v := .int .i64 n) rfl
  have hy1 := box_later hb6 (i := 1) (v := .slice a4 l.length c4) rfl
  have hw6 := Below.now hw4 (hb5.trans (hb6.mono hb5.size))
  have HL6 := Lib.hid (HL4.out.later (Below.now hb5 hb6))
  have hbb := Below.refl w6.heap.size w6
  clear hb6 hb5 hw4
  go_wp2_with fail
  have z0 := hx0 _ hw6
  have z1 := hx1 _ hw6
  have z2 := hy0 _ hbb
  have z3 := hy1 _ hbb
  have HLa := Lib.hid (HL1.out.later hw6)
  clear hx0 hx1 hy0 hy1 hbb
  go_region_held3 (fun w' => w'.cell? ⟨w.heap.size, 0, none⟩ = some (.int .i64 n) ∧ w'.cell? ⟨w.heap.size, 1, none⟩ = some (.slice a l.length cap) ∧ w'.cell? ⟨w4.heap.size, 0, none⟩ = some (.int .i64 n) ∧ w'.cell? ⟨w4.heap.size, 1, none⟩ = some (.slice a4 l.length c4)) (go_keep)
    (first
      | (go_at_call 19; refine (toTable_any n l a cap _ (HLa.out.later (Below.drew (Below.refl _ _))) (by omega)).mono ?_; rintro e w7 ⟨a7, c7, rfl, ho7, hb7⟩; have k7 : Below w6.heap.size w6 w7 := Below.now (Below.drew (Below.refl _ _)) hb7; have y0 := (k7.cell (World.block_lt_of_cell? w6 _ z0)).trans z0; have y1 := (k7.cell (World.block_lt_of_cell? w6 _ z1)).trans z1; have y2 := (k7.cell (World.block_lt_of_cell? w6 _ z2)).trans z2; have y3 := (k7.cell (World.block_lt_of_cell? w6 _ z3)).trans z3; have HL7 := Lib.hid (owns_ints (l := l) ho7); clear ho7 hb7)
      | (go_at_call 21; refine (eqTable_same n l a4 a7 c4 c7 _ (HL6.out.later k7) HL7.out (by omega)).mono ?_; rintro e w8 ⟨rfl, hb8⟩; have k8 : Below w6.heap.size w6 w8 := Below.now k7 hb8; have x0 := (k8.cell (World.block_lt_of_cell? w6 _ z0)).trans z0; have x1 := (k8.cell (World.block_lt_of_cell? w6 _ z1)).trans z1; have x2 := (k8.cell (World.block_lt_of_cell? w6 _ z2)).trans z2; have x3 := (k8.cell (World.block_lt_of_cell? w6 _ z3)).trans z3; clear hb8))
  have hend := Below.now hbel.out (Below.now hw6 k8)
  clear y0 y1 y2 y3 x0 x1 x2 x3 z0 z1 z2 z3
  go_wp2_with fail
  go_ret
  exact ⟨rfl, hend⟩
theorem cellsT : Try.prog.cellsOf 24 = 2 := by kernel_rfl
theorem cellsI : Try.prog.cellsOf 3 = 1 := by kernel_rfl
theorem laidOut : laidOutB Try.prog = true := by kernel_rfl
theorem rd : ∀ t ∈ Try.f3.params.toList, Try.prog.readableRec t = true ∧ t < Try.prog.types.size := by
  rw [Try.params3]
  intro t ht
  simp at ht
  subst ht
  exact ⟨by kernel_rfl, of_decide_eq_true (by kernel_rfl)⟩
set_option maxRecDepth 100000 in
theorem lifted (os : Os) (started : os.Started) (H : Type) (enc : TypeId × Value → H) :
    ReturnsInHanded {} Try.checked os 3 .any (Rows.fnExactZeroOfSpec.pre6 enc Try.prog Try.f3 Rows.fnExactZeroOfRow.domain false) (Rows.fnExactZeroOfSpec.post enc Try.prog Try.f3 false true false false) := by
  refine returnsInHanded_of_change (C := Try.checked) own started (by kernel_rfl) Try.func3
    (ChangeSpec.witness6 (enc := enc) (C := Try.checked) false ⟨#[], #[.agg #[.int .i64 0, .slice none 0 0]], []⟩ 8 (by kernel_rfl) (by kernel_rfl) (by kernel_rfl) (by kernel_rfl)) ?_
  intro W base args ds gs before hval0 hW hcnd _
  have hval : ∀ (j : Nat) t v, Try.f3.params[j]? = some t → args[j]? = some v → Value.okWide Try.prog W .any base t v := hval0
  have hW' := hW
  obtain ⟨p, q, hA0, hV, rfl, hfz, hnd⟩ := hW
  have hA : DataW.TrodAll enc Try.prog W 0 (fun _ => true) true Try.f3.params.toList args.toList ds p := hA0
  rw [Try.params3] at hA hval
  obtain ⟨v0, vs0, d0, ds0, p0, q0, hargs, rfl, rfl, h0, r0⟩ := trodAll_cons hA
  obtain ⟨rfl, rfl, rfl⟩ := trodAll_nil r0
  obtain rfl : args = #[v0] := by cases args; simp_all
  obtain ⟨rfl, rfl⟩ := trodVars_none hV
  obtain ⟨n, a, l, cap, rfl, hl, hlen⟩ := open_tableIn Try.underlying24 (by kernel_rfl) cellsT Try.underlying3 Try.underlying22 Try.underlying3 cellsI (hval 0 24 v0 rfl rfl) h0
  clear hA0 hval0
  refine (walk n l a cap W hl hlen).mono fun e W' ⟨he, hg⟩ => ?_
  subst he
  exact ⟨_, rfl, law_post laidOut rd rfl hW' rfl Try.underlying4 rfl hg⟩
theorem over : Rows.fnExactZeroOfRow.holds Try.pinned (OpenSpec.ofChange Rows.fnExactZeroOfSpec) :=
  OpenClaim.holds_of_wide 3 Try.f3 rfl rfl rfl rfl rfl rfl rfl ⟨rfl, rfl, rfl, rfl, rfl⟩ rfl rfl rfl rfl rfl (by kernel_rfl) Try.func3 (by kernel_rfl)
    (of_decide_eq_true (by kernel_rfl)) (by unfold Func.isWrapper; first | (rw [if_pos (by decide +kernel)]; kernel_rfl) | (rw [if_neg (by decide +kernel)]; exact ⟨rfl, rfl⟩))
    (fun os started H enc _ => lifted os started H enc)
theorem proved : Rows.FnExactZeroOfSaid :=
  over
#print axioms proved
end Go.Proofs.Ytkkffaiacipibaa.fnExactZeroOf
