/-
  StepsOf of the reference.
-/
import Derived.Test.YtdpfgdckgchpdaaGreatDoorGrp14
import Derived.Test.YtdpfgdckgchpdaaGreatDoorGrp15
namespace Go.Proofs.YtdpfgdckgchpdaaGreatDoor
open Go.RowKit
set_option linter.unusedVariables false
theorem Tryz.infoStep2 : (Tryz.prog.info? 54).map (fun i => (i.zero, i.size, i.bytes)) = some (some (.agg #[.int .i64 0, .int .i64 0]), 2, 16) := by kernel_rfl
theorem stTo_len (R : List RulD) (w : ByteArray) (i k : Nat) : (stTo R w i k).length ≤ i * R.length + k := by
  have h : ∀ j n, (stAt R w j n).length ≤ n := fun j n => by
    unfold stAt
    rw [List.length_map]
    have := List.length_filter_le (fun r => preAt w j (nthR R r).1) (List.range n)
    simpa using this
  unfold stTo
  rw [List.length_append]
  have h1 := flat_len (fun j => stAt R w j R.length) R.length (fun j => h j R.length) i
  have h2 := h i k
  omega
theorem cells_stV (l : List (Nat × Nat)) (r i : Nat) : cellsL stV (l ++ [(r, i)]) = cellsL stV l ++ [.int .i64 (r : Nat), .int .i64 (i : Nat)] := by rw [cellsL_app, cellsL_one]; rfl
/-- the cells of a rule -/
theorem rule_at {w W : World} {a : Option Addr} {R : List RulD} (h : RulesIn w a R) (hb : Below w.heap.size w W) {r : Nat} (hr : r < R.length) : ∃ b off, a = some ⟨b, off, none⟩ ∧ b < w.heap.size ∧ W.cell? ⟨b, off + r * 2, none⟩ = some (.string (nthR R r).1) ∧ W.cell? ⟨b, off + r * 2 + 1, none⟩ = some (.string (nthR R r).2) := by
  obtain ⟨b, off, e, hlt, hc⟩ := h.cell hr
  obtain ⟨h1, h2⟩ := hc r hr
  exact ⟨b, off, e, hlt, by rw [hb.cell (World.block_lt_of_cell? w _ h1)]; exact h1, by rw [hb.cell (World.block_lt_of_cell? w _ h2)]; exact h2⟩
theorem box_two {W : World} {T : TypeId} {u v : Value} {W2 : World} (hb : Below (W.alloc (.cells #[u, v] T)).heap.size (W.alloc (.cells #[u, v] T)) W2) : W2.cell? ⟨W.heap.size, 0, none⟩ = some u ∧ W2.cell? ⟨W.heap.size, 1, none⟩ = some v :=
  sys_cells ((hb.block W.heap.size (by simp)).trans (alloc_at W _))
set_option maxRecDepth 100000 in
set_option maxHeartbeats 2000000 in
theorem specStepsOf_any (k : Int) (R : List RulD) (a : Option Addr) (cap : Nat) (w0 : ByteArray) (w : World) (hl : RulesIn w a R) (hs : sysP k R) (hw : w0.size ≤ 16) :
    Calls Tryz.prog 179 #[.agg #[.int .i64 k, .slice a R.length cap], .string w0] w (RetSl 54 2 (stepsF R w0).length (cellsL stV (stepsF R w0)) w) := by
  have h12 : R.length ≤ 12 := hs.1.1.2
  have hz : SzR R := fun j hj => by have := (hs.1.2 _ (nthR_mem hj)).1.2; unfold maxLen; omega
  have h8 := left8 hs
  have HPOS : Hid (∀ r, r < R.length → 0 < (nthR R r).1.size) := Lib.hid (fun r hr => by have := (hs.1.2 _ (nthR_mem hr)).2; omega)
  have HL := Lib.hid hl
  have HRO := Lib.hid (fun W h => specRulesOk_any k R a cap W h (by omega) hz)
  have HRP := Lib.hid hs.1
  have HA := Lib.hid (fun o => alloc_belowS w o)
  have HBX : Hid (∀ W2, Below (w.alloc (.cells #[.int .i64 k, .slice a R.length cap] 29)).heap.size (w.alloc (.cells #[.int .i64 k, .slice a R.length cap] 29)) W2 → W2.cell? ⟨w.heap.size, 0, none⟩ = some (.int .i64 k) ∧ W2.cell? ⟨w.heap.size, 1, none⟩ = some (.slice a R.length cap)) := Lib.hid (fun W2 h => box_two h)
  clear hl hs hz
  go_enter Tryz.func179, Tryz.ntmps179
  go_wp2_with fail
  refine (HRO.out _ (HL.out.later (HA.out _))).mono ?_
  rintro e w1 ⟨bb, hbb, rfl, hb1⟩
  obtain rfl := hbb.2 HRP.out
  have HW1 := Lib.hid (Below.now (HA.out _) hb1)
  have HBX1 : Hid (∀ W2, Below w1.heap.size w1 W2 → W2.cell? ⟨w.heap.size, 0, none⟩ = some (.int .i64 k) ∧ W2.cell? ⟨w.heap.size, 1, none⟩ = some (.slice a R.length cap)) := Lib.hid (fun W2 hW2 => HBX.out W2 (Below.now hb1 hW2))
  have HL1 := Lib.hid (HL.out.later (Below.now (HA.out _) hb1))
  have HB0 : Hid (Bld 54 2 w1 (w1.alloc (.cells #[] 54)) (.slice (some ⟨w1.heap.size, 0, none⟩) 0 0) (stTo R w0 0 0).length (cellsL stV (stTo R w0 0 0))) := Lib.hid (Bld.empty 54 2 w1)
  clear hbb hb1 HRO HBX
  go_wp2_with fail
  go_loopw [5, 6] (fun vo vi wr => ∃ i : Nat, i ≤ w0.size ∧ vi = .int .i64 (i : Nat) ∧ Bld 54 2 w1 wr vo (stTo R w0 i 0).length (cellsL stV (stTo R w0 i 0))) (fun _ vi _ => w0.size - (intOf vi).toNat)
  case atStart => exact ⟨0, Nat.zero_le _, rfl, HB0.out⟩
  case round =>
    clear HB0
    obtain ⟨i, hi, rfl, hbd⟩ := hrel
    obtain ⟨ao, co, rfl⟩ := owns_form hbd.1
    have HB := Lib.hid hbd
    obtain ⟨s0, s1⟩ := HBX1.out wr hbd.2
    clear hbd
    by_cases hlt : i < w0.size
    · have HXT := Lib.hid (stTo_next R w0 i)
      go_wp2_with fail
      generalize hW : wr = wr0 at *
      clear hW s0 s1
      go_loopw [5, 22] (fun vo vr wr => ∃ r : Nat, r ≤ R.length ∧ vr = .int .i64 (r : Nat) ∧ Bld 54 2 w1 wr vo (stTo R w0 i r).length (cellsL stV (stTo R w0 i r))) (fun _ vr _ => R.length - (intOf vr).toNat)
      case atStart => exact ⟨0, Nat.zero_le _, rfl, HB.out⟩
      case round =>
        clear HB
        obtain ⟨r, hr, rfl, hbd⟩ := hrel
        obtain ⟨a2, c2, rfl⟩ := owns_form hbd.1
        have HB := Lib.hid hbd
        have hsl := stTo_len R w0 i r
        have hil : i * R.length ≤ 16 * 12 := Nat.mul_le_mul (by omega) h12
        by_cases hlr : r < R.length
        · obtain ⟨b, off, rfl, hb, k0, k1⟩ := rule_at HL1.out hbd.2 hlr
          have hl8 := h8 r
          have hpos := HPOS.out r hlr
          have HY := Lib.hid (fun h => stTo_yes (R := R) (w := w0) (i := i) (k := r) h)
          have HN := Lib.hid (fun h => stTo_no (R := R) (w := w0) (i := i) (k := r) h)
          have HEX := Lib.hid (preAt_ext (w0 := w0) (l := (nthR R r).1) (i := i))
          have HFT := Lib.hid (fun h => preAt_fits (w := w0) (l := (nthR R r).1) (i := i) h hpos)
          have hw9 : IntKind.i64.wrap ((w0.size : Int) - (i : Int)) = ((w0.size - i : Nat) : Int) := by rw [IntWalk.i64_in _ (by omega)]; omega
          have hw8 : IntKind.i64.wrap ((i : Int) + ((nthR R r).1.size : Int)) = ((i + (nthR R r).1.size : Nat) : Int) := by rw [IntWalk.i64_in _ (by omega)]; omega
          clear hbd
          generalize (nthR R r).1 = l at *
          generalize (nthR R r).2 = q at *
          go_wp2_with fail
          have HB5 := Lib.hid (HB.out.later (alloc_belowS wr (.cells #[.string l, .string q] 60)))
          have hcb := alloc_at wr (.cells #[.string l, .string q] 60)
          have hc0 := (sys_cells hcb).1
          have HCB := Lib.hid hcb
          clear k0 k1 hcb
          generalize hg : wr.heap.size = g at *
          generalize wr.alloc (.cells #[.string l, .string q] 60) = w5 at *
          cases hp : preAt w0 i l
          · have HNX := Lib.hid (HN.out hp)
            have he := HEX.out.trans hp
            clear hp HY HN HFT
            generalize hX : stTo R w0 i r = X at *
            clear hX
            by_cases hf : i + l.size ≤ w0.size
            · have f1 : (l.size : Int) ≤ ((w0.size - i : Nat) : Int) := by omega
              have f2 : ((i + l.size : Nat) : Int) ≤ (w0.size : Int) := by omega
              go_quiet (fail)
              have HB6 := Lib.hid (HB5.out.later (below_drewN (Below.refl _ _) nq))
              go_wp2_with fail
              go_roundw
              case rel => exact ⟨r + 1, by omega, by go_num, by rw [HNX.out]; exact HB6.out⟩
              case measure => simp [intOf]; omega
            · have f1 : ¬ (l.size : Int) ≤ ((w0.size - i : Nat) : Int) := by omega
              go_quiet (fail)
              have HB6 := Lib.hid (HB5.out.later (below_drewN (Below.refl _ _) nq))
              go_wp2_with fail
              go_roundw
              case rel => exact ⟨r + 1, by omega, by go_num, by rw [HNX.out]; exact HB6.out⟩
              case measure => simp [intOf]; omega
          · have hf := HFT.out hp
            have HNX := Lib.hid (HY.out hp)
            have he := HEX.out.trans hp
            clear hp HY HN HFT
            generalize hX : stTo R w0 i r = X at *
            clear hX
            have f1 : (l.size : Int) ≤ ((w0.size - i : Nat) : Int) := by omega
            have f2 : ((i + l.size : Nat) : Int) ≤ (w0.size : Int) := by omega
            go_quiet (fail)
            have HB6 := Lib.hid (HB5.out.later (below_drewN (Below.refl _ _) nq))
            go_wp2_with (at_builtin; refine wpList_app1 rfl _ _ rfl Tryz.underlying75 Tryz.infoStep2 rfl (by decide) rfl HB6.out rfl ?c1 ?c2 ?c3 ?c4 ?c5)
            case c2 => intro u hu; simp at hu; rcases hu with rfl | rfl <;> rfl
            case c3 => unfold maxLen; omega
            case c4 => omega
            case c1 => rfl
            intro v4 w4 hb4
            have HB4 : Hid (Bld 54 2 w1 w4 v4 (stTo R w0 i (r + 1)).length (cellsL stV (stTo R w0 i (r + 1)))) := Lib.hid (by
              rw [HNX.out, List.length_append, cells_stV]; exact hb4)
            obtain ⟨a4, c4, hv4⟩ := owns_form HB4.out.1
            subst hv4
            clear hb4
            go_wp2_with fail
            go_roundw
            case rel => exact ⟨r + 1, by omega, by go_num, HB4.out⟩
            case measure => simp [intOf]; omega
        · obtain rfl : r = R.length := by omega
          have HB2 : Hid (Bld 54 2 w1 wr (.slice a2 (stTo R w0 i R.length).length c2) (stTo R w0 (i + 1) 0).length (cellsL stV (stTo R w0 (i + 1) 0))) := Lib.hid (by rw [← HXT.out]; exact HB.out)
          clear hbd
          go_wp2_with fail
          go_roundw
          case rel => exact ⟨i + 1, by omega, by go_num, HB2.out⟩
          case measure => simp [intOf]; omega
    · obtain rfl : i = w0.size := by omega
      have F : Hid (RetSl 54 2 (stepsF R w0).length (cellsL stV (stepsF R w0)) w (.returned (.slice ao (stTo R w0 w0.size 0).length co)) wr) := Lib.hid (by
        rw [stTo_done] at HB ⊢
        exact ((HB.out.since HW1.out).ret))
      go_wp2_with fail
      go_ret
      exact F.out
end Go.Proofs.YtdpfgdckgchpdaaGreatDoor
