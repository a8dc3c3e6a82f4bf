/-
  slices.Index at pairs of integers. Printed by meeti.py.
-/
import Derived.Test.YtoddpmdjjgnpgaaGreatDoorGra25
import Derived.Test.YtoddpmdjjgnpgaaGreatDoorGra06
import Derived.Test.YtoddpmdjjgnpgaaGreatDoorGra10
namespace Go.Proofs.YtoddpmdjjgnpgaaGreatDoor
open Go.RowKit
set_option linter.unusedVariables false
theorem eqP2 (a b c d : Int) (w : World) : (Op.equalIn 10000 101 (.agg #[.int .i64 a, .int .i64 b]) (.agg #[.int .i64 c, .int .i64 d])).run Tryz.prog w = .ok (a == c && b == d) w := by
  have u3 := Tryz.underlying3
  have a3 := Tryz.isAgg3
  have z3 := Tryz.sizeOf3
  rw [show (10000 : Nat) = 9999 + 1 from rfl, Op.equalIn]
  simp only [Sem.run_bind, run_underlying Tryz.underlying101, Result.andThen_ok]
  simp only [Std.Legacy.Range.forIn_eq_forIn_range', Std.Legacy.Range.size, Nat.sub_zero, Nat.add_sub_cancel, Nat.div_one, List.range'_succ, List.range'_zero, List.forIn_cons, List.forIn_nil]
  go_simp
  by_cases h1 : a = c <;> by_cases h2 : b = d <;> simp [h1, h2]
def RetIxP2 (l : List (Nat × Nat)) (p : Nat × Nat) (w : World) (e : Ending) (w' : World) : Prop := ((∃ j : Nat, l[j]? = some p ∧ e = .returned (.int .i64 (j : Nat))) ∨ (p ∉ l ∧ e = .returned (.int .i64 (-1)))) ∧ Below w.heap.size w w'
set_option maxRecDepth 20000 in
set_option maxHeartbeats 2000000 in
theorem indexP2_any (l : List (Nat × Nat)) (a : Option Addr) (cap p q : Nat) (w : World) (hl : RowsIn stV w a l) (hlen : l.length ≤ 1000000) :
    Calls Tryz.prog 56 #[.slice a l.length cap, .agg #[.int .i64 (p : Nat), .int .i64 (q : Nat)]] w (RetIxP2 l (p, q) w) := by
  have HW1 := Lib.hid (alloc_belowS w (.cells #[.int .i64 (p : Nat), .int .i64 (q : Nat)] 101))
  have HX1 := Lib.hid (alloc_at w (.cells #[.int .i64 (p : Nat), .int .i64 (q : Nat)] 101))
  have HL := Lib.hid (RowsIn.later hl HW1.out)
  have q2 := eqP2
  clear hl
  go_enter Tryz.func56, Tryz.ntmps56
  go_upto_region 1 with fail
  generalize w.alloc (.cells #[.int .i64 (p : Nat), .int .i64 (q : Nat)] 101) = w1 at *
  go_wp2_with fail
  go_loopw [8] (fun i wr => ∃ j : Nat, j ≤ l.length ∧ i = .int .i64 (j : Nat) ∧ Hid (∀ i, i < j → l[i]? ≠ some (p, q)) ∧ Hid (Below w1.heap.size w1 wr)) (fun i _ => l.length - (intOf i).toNat)
  case atStart => exact ⟨0, Nat.zero_le _, rfl, Lib.hid (fun i h => by omega), Lib.hid (Below.refl _ _)⟩
  case round =>
    obtain ⟨j, hj, rfl, HT, HB⟩ := hrel
    by_cases hlt : j < l.length
    · have hji : (j : Int) < (l.length : Int) := by omega
      obtain ⟨b, off, rfl, hbb, hcs⟩ := RowsIn.cell stV_len (by omega) (RowsIn.later HL.out HB.out) hlt
      obtain ⟨x, y, hxy⟩ : ∃ x y, l[j] = (x, y) := ⟨_, _, rfl⟩
      have C3 := Lib.hid (hcs j hlt 0 (.int .i64 (x : Nat)) (by rw [hxy]; rfl))
      have C4 := Lib.hid (hcs j hlt 1 (.int .i64 (y : Nat)) (by rw [hxy]; rfl))
      simp only [Nat.add_zero] at C3
      have hx2 := blk_later HX1.out HB.out
      have hb2 := (Array.getElem?_eq_some_iff.1 hx2).1
      have C0 : Hid (wr.cell? ⟨w.heap.size, 0, none⟩ = some (.int .i64 (p : Nat))) := Lib.hid (by simp [World.cell?, hx2])
      have C1 : Hid (wr.cell? ⟨w.heap.size, 1, none⟩ = some (.int .i64 (q : Nat))) := Lib.hid (by simp [World.cell?, hx2])
      have HXY : Hid (l[j]? = some (x, y)) := Lib.hid (by rw [List.getElem?_eq_getElem hlt, hxy])
      clear hcs hxy hx2
      go_upto_region 4 with fail
      refine region_each (fun W => Below wr.heap.size wr W) (fun W1 W2 => Below W1.heap.size W1 W2) (fun u => by simp only [fPut, Act.put, List.setIfInBounds_toArray, List.set_cons_succ, List.set_cons_zero, Nat.zero_add, Nat.reduceAdd]; rfl) (by kernel_rfl) (by kernel_rfl) (by kernel_rfl) ((Below.drew (Below.refl _ _))) ?_
      apply each_read (fun _ => Below.refl _ _) rfl
      · intro u wv hC hf
        have z0 := (hC.cell hb2).trans C0.out
        have z1 := (hC.cell hb2).trans C1.out
        have z3 := (hC.cell hbb).trans C3.out
        have z4 := (hC.cell hbb).trans C4.out
        clear hf
        go_simp
        try rfl
      apply each_read (fun _ => Below.refl _ _) rfl
      · intro u wv hC hf
        have z0 := (hC.cell hb2).trans C0.out
        have z1 := (hC.cell hb2).trans C1.out
        have z3 := (hC.cell hbb).trans C3.out
        have z4 := (hC.cell hbb).trans C4.out
        clear hf
        go_simp
        try rfl
      conv => arg 8; simp only [List.cons_append, List.nil_append]
      apply each_read (fun _ => Below.refl _ _) rfl
      · intro u wv hC hf
        have z0 := (hC.cell hb2).trans C0.out
        have z1 := (hC.cell hb2).trans C1.out
        have z3 := (hC.cell hbb).trans C3.out
        have z4 := (hC.cell hbb).trans C4.out
        clear hf
        go_simp
        try rfl
      conv => arg 8; simp only [List.cons_append, List.nil_append]
      apply each_read (fun _ => Below.refl _ _) rfl
      · intro u wv hC hf
        have z0 := (hC.cell hb2).trans C0.out
        have z1 := (hC.cell hb2).trans C1.out
        have z3 := (hC.cell hbb).trans C3.out
        have z4 := (hC.cell hbb).trans C4.out
        obtain ⟨d1_0, d2_1, -⟩ := hf
        have e1 : u 1 = _ := d1_0 rfl
        clear d1_0
        have e2 : u 2 = _ := d2_1 rfl
        clear d2_1
        go_simp
        try rfl
      conv => arg 8; simp only [List.cons_append, List.nil_append]
      apply each_read (fun _ => Below.refl _ _) rfl
      · intro u wv hC hf
        have z0 := (hC.cell hb2).trans C0.out
        have z1 := (hC.cell hb2).trans C1.out
        have z3 := (hC.cell hbb).trans C3.out
        have z4 := (hC.cell hbb).trans C4.out
        obtain ⟨d3_0, -⟩ := hf
        have e3 : u 3 = _ := d3_0 rfl
        clear d3_0
        go_simp
        try rfl
      conv => arg 8; simp only [List.cons_append, List.nil_append]
      apply each_read (fun _ => Below.refl _ _) rfl
      · intro u wv hC hf
        have z0 := (hC.cell hb2).trans C0.out
        have z1 := (hC.cell hb2).trans C1.out
        have z3 := (hC.cell hbb).trans C3.out
        have z4 := (hC.cell hbb).trans C4.out
        obtain ⟨d0_0, d4_1, -⟩ := hf
        have e0 : u 0 = _ := d0_0 rfl
        clear d0_0
        have e4 : u 4 = _ := d4_1 rfl
        clear d4_1
        go_simp
        try rfl
      intro u w7 d7 hall
      obtain ⟨a0, a1, a2, a3, a4, a5, -⟩ := hall
      have e0 : u 0 = _ := a0
      clear a0
      have e1 : u 1 = _ := a1
      clear a1
      have e2 : u 2 = _ := a2
      clear a2
      have e3 : u 3 = _ := a3
      clear a3
      have e4 : u 4 = _ := a4
      clear a4
      have e5 : u 5 = _ := a5
      clear a5
      simp only [e0, e1, e2, e3, e4, e5]
      clear e0 e1 e2 e3 e4 e5
      have HD := Lib.hid (Below.now HB.out d7)
      clear d7
      have HBV : Hid (((p : Int) == (x : Int) && (q : Int) == (y : Int)) = true ↔ x = p ∧ y = q) := Lib.hid (by
        rw [Bool.and_eq_true, beq_iff_eq, beq_iff_eq]
        exact ⟨fun h => by omega, fun h => by omega⟩)
      generalize ((p : Int) == (x : Int) && (q : Int) == (y : Int)) = bv at *
      cases bv
      case true =>
        have he := HBV.out.1 (by trivial)
        have FF : Hid (RetIxP2 l (p, q) w (.returned (.int .i64 (j : Nat))) w7) := Lib.hid ⟨.inl ⟨j, by rw [HXY.out, he.1, he.2], rfl⟩, Below.now HW1.out HD.out⟩
        clear he
        go_wp2_with fail
        go_ret
        exact FF.out
      case false =>
        have he : ¬ (x = p ∧ y = q) := fun h => by have := HBV.out.2 h; cases this
        have HT2 : Hid (∀ i, i < j + 1 → l[i]? ≠ some (p, q)) := Lib.hid (fun i hi => by
          by_cases e : i = j
          · subst e; rw [HXY.out]; exact fun e => he (by cases e; exact ⟨rfl, rfl⟩)
          · exact HT.out i (by omega))
        clear he
        go_wp2_with fail
        go_roundw
        case rel => exact ⟨j + 1, by omega, by go_num, HT2, HD⟩
        case measure => simp [intOf]; omega
    · have hji : ¬ (j : Int) < (l.length : Int) := by omega
      have FF : Hid (RetIxP2 l (p, q) w (.returned (.int .i64 (-1))) wr) := Lib.hid ⟨.inr ⟨fun hm => by
        obtain ⟨i, hi, e⟩ := List.getElem_of_mem hm
        exact HT.out i (by omega) (by rw [List.getElem?_eq_getElem hi, e]), rfl⟩, Below.now HW1.out HB.out⟩
      go_wp2_with fail
      go_ret
      exact FF.out
end Go.Proofs.YtoddpmdjjgnpgaaGreatDoor
