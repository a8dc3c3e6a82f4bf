/-
  PairsOf of the reference.
-/
import Derived.Test.YtdpfgdckgchpdaaGreatDoorGrp28
namespace Go.Proofs.YtdpfgdckgchpdaaGreatDoor
open Go.RowKit
set_option linter.unusedVariables false
theorem cells_one {l : List PairD} : ∀ u ∈ cellsL prV l, u.oneCell' = true := fun u hu => by
  unfold cellsL at hu
  obtain ⟨p, _, hp⟩ := List.mem_flatMap.1 hu
  simp only [prV, List.mem_cons, List.not_mem_nil, or_false] at hp
  rcases hp with rfl | rfl | rfl | rfl | rfl <;> rfl
theorem cells_five (l : List PairD) : (cellsL prV l).length = l.length * 5 := cellsL_len prV_len l
theorem szR_of {k : Int} {R : List RulD} (hs : sysP k R) : SzR R := fun j hj => by have := (hs.1.2 _ (nthR_mem hj)).1.2; unfold maxLen; omega
set_option maxRecDepth 100000 in
set_option maxHeartbeats 2000000 in
theorem specPairsOf_any (k : Int) (R : List RulD) (a : Option Addr) (cap : Nat) (w : World) (hl : RulesIn w a R) (hs : sysP k R) :
    Calls Tryz.prog 99 #[.agg #[.int .i64 k, .slice a R.length cap]] w (RetSl 56 5 (pairsF R).length (cellsL prV (pairsF R)) w) := by
  have h12 : R.length ≤ 12 := hs.1.1.2
  have h8 := left8 hs
  have HL := Lib.hid hl
  have HSO := Lib.hid (fun W h => specSystemOk_any k R a cap W h (by omega) (szR_of hs))
  have HYES := Lib.hid hs
  have HA := Lib.hid (fun o => alloc_belowS w o)
  have HBX : Hid (∀ W2, Below (w.alloc (.cells #[.int .i64 k, .slice a R.length cap] 29)).heap.size (w.alloc (.cells #[.int .i64 k, .slice a R.length cap] 29)) W2 → W2.cell? ⟨w.heap.size, 0, none⟩ = some (.int .i64 k) ∧ W2.cell? ⟨w.heap.size, 1, none⟩ = some (.slice a R.length cap)) := Lib.hid (fun W2 h => box_two h)
  have hpos : ∀ r, r < R.length → 0 < (nthR R r).1.size := fun r hr => by have := (hs.1.2 _ (nthR_mem hr)).2; omega
  have HIN := Lib.hid (fun i j W h hi hj => l05Inside_any k R a cap i j W h hi hj h8 hpos h12)
  have HAC := Lib.hid (fun i j W h hi hj => l05Across_any k R a cap i j W h hi hj h8 h12)
  have HLN := Lib.hid (fun i j (hi : i ≤ 12) (hj : j ≤ 12) => pairTo_len h8 h12 (i := i) (j := j) hi hj)
  have HL1' := Lib.hid (fun i j => inF_len h8 i j)
  have HL2' := Lib.hid (fun i j => acF_len h8 i j)
  clear hl hs h8 hpos
  go_enter Tryz.func99, Tryz.ntmps99
  go_wp2_with fail
  refine (HSO.out _ (HL.out.later (HA.out _))).mono ?_
  rintro e w1 ⟨bb, hbb, rfl, hb1⟩
  obtain rfl := hbb.2 HYES.out
  have HW1 := Lib.hid (Below.now (HA.out _) hb1)
  have HBX1 : Hid (∀ W2, Below w1.heap.size w1 W2 → W2.cell? ⟨w.heap.size, 0, none⟩ = some (.int .i64 k) ∧ W2.cell? ⟨w.heap.size, 1, none⟩ = some (.slice a R.length cap)) := Lib.hid (fun W2 hW2 => HBX.out W2 (Below.now hb1 hW2))
  have HL1 := Lib.hid (HL.out.later (Below.now (HA.out _) hb1))
  have HB0 : Hid (Bld 56 5 w1 (w1.alloc (.cells #[] 56)) (.slice (some ⟨w1.heap.size, 0, none⟩) 0 0) (pairTo R 0 0).length (cellsL prV (pairTo R 0 0))) := Lib.hid (Bld.empty 56 5 w1)
  have s0 := fun o => (HBX1.out _ (alloc_belowS w1 o)).1
  have s1 := fun o => (HBX1.out _ (alloc_belowS w1 o)).2
  clear hbb hb1 HSO HBX
  go_wp2_with fail
  go_loopw [3, 13] (fun vo vi wr => ∃ i : Nat, i ≤ R.length ∧ vi = .int .i64 (i : Nat) ∧ Bld 56 5 w1 wr vo (pairTo R i 0).length (cellsL prV (pairTo R i 0))) (fun _ vi _ => R.length - (intOf vi).toNat)
  case atStart => exact ⟨0, Nat.zero_le _, rfl, HB0.out⟩
  case round =>
    clear HB0 s0 s1
    obtain ⟨i, hi, rfl, hbd⟩ := hrel
    obtain ⟨ao, co, rfl⟩ := owns_form hbd.1
    have HB := Lib.hid hbd
    obtain ⟨s0, s1⟩ := HBX1.out wr hbd.2
    clear hbd
    by_cases hlt : i < R.length
    · have HXT := Lib.hid (pairTo_next R i)
      go_wp2_with fail
      generalize hW : wr = wr0 at *
      clear hW s0 s1
      go_loopw [3, 19] (fun vo vj wr => ∃ j : Nat, j ≤ R.length ∧ vj = .int .i64 (j : Nat) ∧ Bld 56 5 w1 wr vo (pairTo R i j).length (cellsL prV (pairTo R i j))) (fun _ vj _ => R.length - (intOf vj).toNat)
      case atStart => exact ⟨0, Nat.zero_le _, rfl, HB.out⟩
      case round =>
        clear HB
        obtain ⟨j, hj, rfl, hbd⟩ := hrel
        obtain ⟨a2, c2, rfl⟩ := owns_form hbd.1
        have HB := Lib.hid hbd
        obtain ⟨s0, s1⟩ := HBX1.out wr hbd.2
        have hln := HLN.out i j (by omega) (by omega)
        by_cases hlr : j < R.length
        · have hl1 := HL1'.out i j
          have hl2 := HL2'.out i j
          have HC1 := Lib.hid (HIN.out i j wr (HL1.out.later hbd.2) hlt hlr)
          have HC2 := Lib.hid (fun W h => HAC.out i j W h hlt hlr)
          have HNX := Lib.hid (pairTo_step R i j)
          clear hbd
          generalize pairTo R i j = X at *
          generalize inF R i j = Y at *
          generalize acF R i j = Z at *
          go_wp2_with fail
          refine HC1.out.mono ?_
          rintro e w6 ⟨a6, c6, rfl, ho6, hb6⟩
          have HB6 := Lib.hid (HB.out.later hb6)
          have HS6 := Lib.hid (Src.of_owns ho6)
          have HN6 := Lib.hid (cells_five Y)
          have HO6 := Lib.hid (cells_one (l := Y))
          clear ho6 hb6 s0 s1
          go_wp2_with (at_builtin; refine wpList_appM rfl (.tmp 22) (.tmp 26) rfl Tryz.underlying51 Tryz.infoPair rfl (by decide) rfl HB6.out rfl HS6.out HN6.out HO6.out ?a1 ?a2 ?a3)
          case a1 => unfold maxLen; omega
          case a2 => omega
          intro v7 w7 hb7 hg7 ho7
          have HB7 : Hid (Bld 56 5 w1 w7 v7 (X ++ Y).length (cellsL prV (X ++ Y))) := Lib.hid (by
            rw [List.length_append, cellsL_app]; exact hb7)
          obtain ⟨a7, c7, hv7⟩ := owns_form HB7.out.1
          subst hv7
          have hlx : (X ++ Y).length ≤ 2504 := by rw [List.length_append]; omega
          obtain ⟨t0, t1⟩ := HBX1.out w7 HB7.out.2
          have HC3 := Lib.hid (HC2.out w7 (HL1.out.later HB7.out.2))
          clear hb7 hg7 ho7
          have HNY : Hid (pairTo R i (j + 1) = (X ++ Y) ++ Z) := Lib.hid (by rw [HNX.out, List.append_assoc])
          generalize X ++ Y = X2 at *
          go_wp2_with fail
          refine HC3.out.mono ?_
          rintro e w8 ⟨a8, c8, rfl, ho8, hb8⟩
          have HB8 := Lib.hid (HB7.out.later hb8)
          have HS8 := Lib.hid (Src.of_owns ho8)
          have HN8 := Lib.hid (cells_five Z)
          have HO8 := Lib.hid (cells_one (l := Z))
          clear ho8 hb8 t0 t1
          go_wp2_with (at_builtin; refine wpList_appM rfl (.tmp 28) (.tmp 32) rfl Tryz.underlying51 Tryz.infoPair rfl (by decide) rfl HB8.out rfl HS8.out HN8.out HO8.out ?b1 ?b2 ?b3)
          case b1 => unfold maxLen; omega
          case b2 => omega
          intro v9 w9 hb9 hg9 ho9
          have HB9 : Hid (Bld 56 5 w1 w9 v9 (pairTo R i (j + 1)).length (cellsL prV (pairTo R i (j + 1)))) := Lib.hid (by
            rw [HNY.out, List.length_append, cellsL_app]; exact hb9)
          obtain ⟨a9, c9, hv9⟩ := owns_form HB9.out.1
          subst hv9
          clear hb9 hg9 ho9
          go_wp2_with fail
          go_roundw
          case rel => exact ⟨j + 1, by omega, by go_num, HB9.out⟩
          case measure => simp [intOf]; omega
        · obtain rfl : j = R.length := by omega
          have HB2 : Hid (Bld 56 5 w1 wr (.slice a2 (pairTo R i R.length).length c2) (pairTo R (i + 1) 0).length (cellsL prV (pairTo R (i + 1) 0))) := Lib.hid (by rw [← HXT.out]; exact HB.out)
          clear hbd
          go_wp2_with fail
          go_roundw
          case rel => exact ⟨i + 1, by omega, by go_num, HB2.out⟩
          case measure => simp [intOf]; omega
    · obtain rfl : i = R.length := by omega
      have F : Hid (RetSl 56 5 (pairsF R).length (cellsL prV (pairsF R)) w (.returned (.slice ao (pairTo R R.length 0).length co)) wr) := Lib.hid (by
        rw [pairTo_done] at HB ⊢
        exact ((HB.out.since HW1.out).ret))
      go_wp2_with fail
      go_ret
      exact F.out
end Go.Proofs.YtdpfgdckgchpdaaGreatDoor
