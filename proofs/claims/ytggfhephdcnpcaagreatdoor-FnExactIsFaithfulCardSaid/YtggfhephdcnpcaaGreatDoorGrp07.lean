/-
  Sorted lists of integers, each once.
-/
import Derived.Test.YtggfhephdcnpcaaGreatDoorGrp06
import Derived.Test.YtggfhephdcnpcaaGreatDoorGrp01
import Derived.Lib.SlicesCompact
namespace Go.Proofs.YtggfhephdcnpcaaGreatDoor
open Go.RowKit
set_option linter.unusedVariables false
theorem empty_facts {x : ByteArray} (h : x.size = 0) : (x.toList == []) = true ∧ x.toList = [] := by
  rw [size_zero0 h, Lib.toList_data]; exact ⟨rfl, rfl⟩
theorem full_facts {x : ByteArray} (h : ¬ x.size = 0) : (x.toList == []) = false ∧ x.toList.isEmpty = false := by
  have hne : x.toList ≠ [] := fun h1 => h (by
    have h2 : x.data.toList = [] := by rw [← Lib.toList_data]; exact h1
    have h3 : x.data.toList.length = 0 := by rw [h2]; rfl
    exact h3)
  exact ⟨by rw [beq_eq_false_iff_ne]; exact hne, by rw [List.isEmpty_eq_false_iff]; exact hne⟩
set_option maxHeartbeats 400000 in
theorem rulesOk1_any (k : Int) (x y : ByteArray) (box : Nat) (w : World) (hx : x.size ≤ maxLen) (hy : y.size ≤ maxLen) (hk : w.cell? ⟨box, 0, none⟩ = some (.int .i64 k)) :
    Calls Tryz.prog 142 #[.agg #[.string x, .string y], .pointer (some ⟨box, 0, none⟩)] w (RetP (¬ ruleP k (x, y)) w) := by
  have HS := Lib.hid (fun W => implSidesOk_any k x y W hx hy)
  have HR : Hid (ruleP k (x, y) ↔ sideP k (x, y) ∧ x.size ≠ 0) := Lib.hid Iff.rfl
  have hk2 : ∀ o, (w.alloc o).cell? ⟨box, 0, none⟩ = some (.int .i64 k) := fun o => by rw [(alloc_belowS w o).cell (World.block_lt_of_cell? w _ hk)]; exact hk
  have HA := Lib.hid (fun o => alloc_belowS w o)
  generalize ruleP k (x, y) = pp at *
  generalize sideP k (x, y) = sp at *
  go_enter Tryz.func142, Tryz.ntmps142
  go_wp2_with fail
  refine (HS.out _).mono ?_
  rintro e w2 ⟨bb, hbb, rfl, hb2⟩
  have HBB := Lib.hid hbb
  have hcx : w2.cell? ⟨w.heap.size, 0, none⟩ = some (.string x) := by rw [hb2.cell (by simp)]; simp [World.cell?_alloc_new]
  have HW2 := Lib.hid (Below.now (HA.out _) hb2)
  clear hbb hb2 HS hk hk2
  cases bb
  · have F : Hid (RetP (¬ pp) w (.returned (.bool true)) w2) := Lib.hid (RetP.yes (fun h => by have := HBB.out.2 (HR.out.1 h).1; cases this) HW2.out)
    go_wp2_with fail
    go_ret
    exact F.out
  · by_cases h0 : x.size = 0
    · have F : Hid (RetP (¬ pp) w (.returned (.bool true)) w2) := Lib.hid (RetP.yes (fun h => (HR.out.1 h).2 h0) HW2.out)
      obtain ⟨n1, n3⟩ := empty_facts h0
      clear h0
      go_wp2_with fail
      go_ret
      exact F.out
    · have F : Hid (RetP (¬ pp) w (.returned (.bool false)) w2) := Lib.hid (RetP.no (fun h => h (HR.out.2 ⟨HBB.out.1 rfl, h0⟩)) HW2.out)
      obtain ⟨n1, n3⟩ := full_facts h0
      clear h0
      go_wp2_with fail
      go_ret
      exact F.out
theorem rulesP_iff {k : Int} {l : List RulD} (h1 : 1 ≤ k ∧ k ≤ 4) (h2 : l.length ≤ 12) : rulesP k l ↔ ¬ ∃ r ∈ l, ¬ ruleP k r := by
  constructor
  · rintro h ⟨r, hr, hn⟩; exact hn (h.2 r hr)
  · intro h; exact ⟨⟨h1, h2⟩, fun r hr => Classical.byContradiction fun hn => h ⟨r, hr, hn⟩⟩
theorem sysP_iff {k : Int} {l : List RulD} (h : rulesP k l) : sysP k l ↔ ¬ ∃ r ∈ l, ¬ lessS r.2 r.1 = true := by
  constructor
  · rintro h ⟨r, hr, hn⟩; exact hn (h.2 r hr)
  · intro h2; exact ⟨h, fun r hr => Classical.byContradiction fun hn => h2 ⟨r, hr, hn⟩⟩
set_option maxHeartbeats 1000000 in
theorem implRulesOk_any (k : Int) (l : List RulD) (a : Option Addr) (cap : Nat) (w : World) (hl : RulesIn w a l) (hlen : l.length ≤ 2 ^ 40) (hz : SzR l) :
    Calls Tryz.prog 77 #[.agg #[.int .i64 k, .slice a l.length cap]] w (RetP (rulesP k l) w) := by
  have HL := Lib.hid hl
  have HZ := Lib.hid hz
  have P1 := Lib.hid (fun W => within_any k 1 4 W)
  have HA := Lib.hid (fun o => alloc_belowS w o)
  clear hl hz
  cases hb : inB k 1 4
  · have F : Hid (¬ rulesP k l) := Lib.hid (fun h => by have := h.1.1; simp [inB] at hb; omega)
    rw [hb] at P1
    clear hb
    go_enter Tryz.func77, Tryz.ntmps77
    go_wp2_with (go_at_call 86; refine (P1.out _).mono ?_; rintro e w' ⟨rfl, rfl⟩)
    go_ret
    exact RetP.no F.out (HA.out _)
  · have hb2 := inB_bounds hb
    rw [hb] at P1
    clear hb
    by_cases h12 : l.length ≤ 12
    · have n1 : ¬ (12 : Int) < (l.length : Int) := by omega
      have HI := Lib.hid (rulesP_iff hb2 h12)
      have hsb := (sys_cells (alloc_at w (.cells #[.int .i64 k, .slice a l.length cap] 29))).1
      have HC := Lib.hid (containsFuncR_any 142 #[.pointer (some ⟨w.heap.size, 0, none⟩)] (fun r => ¬ ruleP k r) l a cap (w.alloc (.cells #[.int .i64 k, .slice a l.length cap] 29)) (HL.out.later (HA.out _)) hlen (w.heap.size + 1) (by simp) (fun j hj W hW => by
        have z := HZ.out j hj
        exact rulesOk1_any k _ _ w.heap.size W z.1 z.2 (by rw [hW.cell (p := ⟨w.heap.size, 0, none⟩) (by simp)]; exact hsb)) (enters_of Tryz.func142 (by kernel_rfl) rfl))
      clear hb2 h12 hsb
      go_enter Tryz.func77, Tryz.ntmps77
      go_wp2_with (go_at_call 86; refine (P1.out _).mono ?_; rintro e w' ⟨rfl, rfl⟩)
      refine HC.out.mono ?_
      rintro e w2 ⟨bb, hbb, rfl, hb2⟩
      have F : Hid (RetP (rulesP k l) w (.returned (.bool !bb)) w2) := Lib.hid (by
        cases bb
        · exact RetP.yes (HI.out.2 (fun h => by have := hbb.2 h; cases this)) (Below.now (HA.out _) hb2)
        · exact RetP.no (fun h => HI.out.1 h (hbb.1 rfl)) (Below.now (HA.out _) hb2))
      clear hbb hb2 HC
      go_wp2_with fail
      go_ret
      exact F.out
    · have F : Hid (¬ rulesP k l) := Lib.hid (fun h => h12 h.1.2)
      have n1 : (12 : Int) < (l.length : Int) := by omega
      clear h12
      go_enter Tryz.func77, Tryz.ntmps77
      go_wp2_with (go_at_call 86; refine (P1.out _).mono ?_; rintro e w' ⟨rfl, rfl⟩)
      go_ret
      exact RetP.no F.out (HA.out _)
set_option maxHeartbeats 400000 in
theorem systemOk1_any (x y : ByteArray) (w : World) :
    Calls Tryz.prog 79 #[.agg #[.string x, .string y]] w (RetP (¬ lessS y x = true) w) := by
  have HS := Lib.hid (fun W => implIsLess_any y x W)
  have HA := Lib.hid (fun o => alloc_belowS w o)
  generalize lessS y x = b at *
  go_enter Tryz.func79, Tryz.ntmps79
  go_wp2_with fail
  refine (HS.out _).mono ?_
  rintro e w2 ⟨rfl, hb2⟩
  have F : Hid (RetP (¬ b = true) w (.returned (.bool !b)) w2) := Lib.hid ⟨!b, by simp, rfl, Below.now (HA.out _) hb2⟩
  clear hb2 HS
  go_wp2_with fail
  go_ret
  exact F.out
set_option maxHeartbeats 1000000 in
theorem implSystemOk_any (k : Int) (l : List RulD) (a : Option Addr) (cap : Nat) (w : World) (hl : RulesIn w a l) (hlen : l.length ≤ 2 ^ 40) (hz : SzR l) :
    Calls Tryz.prog 32 #[.agg #[.int .i64 k, .slice a l.length cap]] w (RetP (sysP k l) w) := by
  have HL := Lib.hid hl
  have HR := Lib.hid (fun W h => implRulesOk_any k l a cap W h hlen hz)
  have HA := Lib.hid (fun o => alloc_belowS w o)
  clear hl hz
  go_enter Tryz.func32, Tryz.ntmps32
  go_wp2_with fail
  refine (HR.out _ (HL.out.later (HA.out _))).mono ?_
  rintro e w2 ⟨bb, hbb, rfl, hb2⟩
  have HBB := Lib.hid hbb
  have hb0 := (hb2.block w.heap.size (by simp)).trans (alloc_at w (.cells #[.int .i64 k, .slice a l.length cap] 29))
  obtain ⟨s0, s1⟩ := sys_cells hb0
  have HW2 := Lib.hid (Below.now (HA.out _) hb2)
  clear hbb hb2 HR hb0
  cases bb
  · have F : Hid (RetP (sysP k l) w (.returned (.bool false)) w2) := Lib.hid (RetP.no (fun h => by have := HBB.out.2 h.1; cases this) HW2.out)
    go_wp2_with fail
    go_ret
    exact F.out
  · have HI := Lib.hid (sysP_iff (HBB.out.1 rfl))
    have HC := Lib.hid (fun W h => containsFuncR_any 79 #[] (fun r => ¬ lessS r.2 r.1 = true) l a cap W h hlen W.heap.size (Nat.le_refl _) (fun j hj W2 hW2 => systemOk1_any _ _ W2) (enters_of Tryz.func79 (by kernel_rfl) rfl))
    go_wp2_with fail
    refine (HC.out _ (HL.out.later HW2.out)).mono ?_
    rintro e w3 ⟨b3, hb3, rfl, hb33⟩
    have F : Hid (RetP (sysP k l) w (.returned (.bool !b3)) w3) := Lib.hid (by
      cases b3
      · exact RetP.yes (HI.out.2 (fun h => by have := hb3.2 h; cases this)) (Below.now HW2.out hb33)
      · exact RetP.no (fun h => HI.out.1 h (hb3.1 rfl)) (Below.now HW2.out hb33))
    clear hb3 hb33 HC
    go_wp2_with fail
    go_ret
    exact F.out
set_option maxRecDepth 20000 in
set_option maxHeartbeats 1000000 in
theorem specSystemOk_any (k : Int) (l : List RulD) (a : Option Addr) (cap : Nat) (w : World) (hl : RulesIn w a l) (hlen : l.length ≤ 2 ^ 40) (hz : SzR l) :
    Calls Tryz.prog 130 #[.agg #[.int .i64 k, .slice a l.length cap]] w (RetP (sysP k l) w) := by
  have HL := Lib.hid hl
  have HZ := Lib.hid hz
  have HR := Lib.hid (fun W h => specRulesOk_any k l a cap W h hlen hz)
  have HA := Lib.hid (fun o => alloc_belowS w o)
  clear hl hz
  go_enter Tryz.func130, Tryz.ntmps130
  go_wp2_with fail
  refine (HR.out _ (HL.out.later (HA.out _))).mono ?_
  rintro e w2 ⟨bb, hbb, rfl, hb2⟩
  have HBB := Lib.hid hbb
  have hb0 := (hb2.block w.heap.size (by simp)).trans (alloc_at w (.cells #[.int .i64 k, .slice a l.length cap] 29))
  obtain ⟨s0, s1⟩ := sys_cells hb0
  have HW2 := Lib.hid (Below.now (HA.out _) hb2)
  clear hbb hb2 HR hb0
  cases bb
  · have F : Hid (RetP (sysP k l) w (.returned (.bool false)) w2) := Lib.hid (RetP.no (fun h => by have := HBB.out.2 h.1; cases this) HW2.out)
    go_wp2_with fail
    go_ret
    exact F.out
  · have HRP := Lib.hid (HBB.out.1 rfl)
    clear HBB
    go_wp2_with fail
    clear s0 s1
    go_loopw [11] (fun i wr => ∃ j : Nat, j ≤ l.length ∧ i = .int .i64 (j : Nat) ∧ Hid (∀ j', j' < j → lessS (nthR l j').2 (nthR l j').1 = true) ∧ Below w.heap.size w wr) (fun i _ => l.length - (intOf i).toNat)
    case atStart => exact ⟨0, Nat.zero_le _, rfl, Lib.hid (fun j' h => absurd h (Nat.not_lt_zero _)), HW2.out⟩
    case round =>
      obtain ⟨j, hj, rfl, hall, hbw⟩ := hrel
      have HBW := Lib.hid hbw
      by_cases hlt : j < l.length
      · obtain ⟨b, off, rfl, hb, hc⟩ := (HL.out.later hbw).cell hlt
        obtain ⟨c1, c2⟩ := hc j hlt
        obtain ⟨z1, z2⟩ := HZ.out j hlt
        have HNO : Hid (¬ lessS (nthR l j).2 (nthR l j).1 = true → ¬ sysP k l) := Lib.hid (fun h h2 => h (h2.2 _ (nthR_mem hlt)))
        have HYE : Hid (lessS (nthR l j).2 (nthR l j).1 = true → ∀ j', j' < j + 1 → lessS (nthR l j').2 (nthR l j').1 = true) := Lib.hid (fun h j' hj' => by
          by_cases e : j' = j
          · rw [e]; exact h
          · exact hall.out j' (by omega))
        clear hc hbw
        generalize (nthR l j).1 = x at *
        generalize (nthR l j).2 = y at *
        have HLS := Lib.hid (fun W => specIsLess_any y x W z2 z1)
        cases hq : lessS y x
        · have F := Lib.hid (HNO.out (by rw [hq]; simp))
          rw [hq] at HLS
          clear hq HNO HYE
          go_wp2_with (go_at_call 188; refine (HLS.out _).mono ?_; rintro e w' ⟨rfl, rfl⟩)
          go_ret
          exact RetP.no F.out (HBW.out.alloc HBW.out.size _)
        · have F := Lib.hid (HYE.out hq)
          rw [hq] at HLS
          clear hq HNO HYE
          go_wp2_with (go_at_call 188; refine (HLS.out _).mono ?_; rintro e w' ⟨rfl, rfl⟩)
          go_roundw
          case rel => exact ⟨j + 1, by omega, by go_num, F, HBW.out.alloc HBW.out.size _⟩
          case measure => simp [intOf]; omega
      · have F : Hid (sysP k l) := Lib.hid ⟨HRP.out, fun r hr => by
          obtain ⟨i, hi, rfl⟩ := mem_nthR hr
          exact hall.out i (by omega)⟩
        go_wp2_with fail
        go_ret
        exact RetP.yes F.out HBW.out
/-- the length of the longest Left of the first j rules -/
def lsTo (l : List RulD) : Nat → Nat
  | 0 => 0
  | j + 1 => max (lsTo l j) (nthR l j).1.size
def lsL (l : List RulD) : Nat := lsTo l l.length
theorem lsTo_le {l : List RulD} (hz : SzR l) : ∀ j, j ≤ l.length → lsTo l j ≤ maxLen
  | 0, _ => by unfold lsTo maxLen; omega
  | j + 1, h => by
    have h1 := lsTo_le hz j (by omega)
    have h2 := (hz j (by omega)).1
    show max _ _ ≤ _
    omega
set_option maxRecDepth 20000 in
set_option maxHeartbeats 1000000 in
theorem specLongestSide_any (k : Int) (l : List RulD) (a : Option Addr) (cap : Nat) (w : World) (hl : RulesIn w a l) (hlen : l.length ≤ 2 ^ 40) (hz : SzR l) :
    Calls Tryz.prog 255 #[.agg #[.int .i64 k, .slice a l.length cap]] w fun e w' => e = .returned (.int .i64 (lsL l : Nat)) ∧ Below w.heap.size w w' := by
  have HL := Lib.hid hl
  have HZ := Lib.hid hz
  have HA := Lib.hid (fun o => alloc_belowS w o)
  clear hl hz
  go_enter Tryz.func255, Tryz.ntmps255
  go_wp2_with fail
  go_loopw [3, 9] (fun v i wr => ∃ j m : Nat, j ≤ l.length ∧ i = .int .i64 (j : Nat) ∧ v = .int .i64 (m : Nat) ∧ Hid (m = lsTo l j) ∧ m ≤ 9223372036854775807 ∧ Below w.heap.size w wr) (fun _ i _ => l.length - (intOf i).toNat)
  case atStart => exact ⟨0, 0, Nat.zero_le _, rfl, rfl, Lib.hid rfl, by omega, HA.out _⟩
  case round =>
    obtain ⟨j, m, hj, rfl, rfl, hm, hm9, hbw⟩ := hrel
    have HBW := Lib.hid hbw
    by_cases hlt : j < l.length
    · obtain ⟨b, off, rfl, hb, hc⟩ := (HL.out.later hbw).cell hlt
      obtain ⟨c1, c2⟩ := hc j hlt
      obtain ⟨z1, z2⟩ := HZ.out j hlt
      have F : Hid (lsTo l (j + 1) = max (lsTo l j) (nthR l j).1.size) := Lib.hid rfl
      rw [← hm.out] at F
      unfold maxLen at z1
      clear hc hbw
      generalize (nthR l j).1 = x at *
      generalize (nthR l j).2 = y at *
      have HMX : Hid (((max m x.size : Nat) : Int) = max (m : Int) (x.size : Int)) := Lib.hid (by omega)
      have hmx : max m x.size ≤ 9223372036854775807 := by omega
      go_wp2_with fail
      go_roundw
      case rel => exact ⟨j + 1, max m x.size, by omega, by go_num, by first | (rw [HMX.out]) | (simp; omega), Lib.hid F.out.symm, hmx, HBW.out.alloc HBW.out.size _⟩
      case measure => simp [intOf]; omega
    · obtain rfl : j = l.length := by omega
      have F : Hid ((m : Int) = (lsL l : Nat)) := Lib.hid (by rw [hm.out]; rfl)
      go_wp2_with fail
      go_ret
      exact ⟨ret_int F.out, HBW.out⟩
set_option maxRecDepth 20000 in
set_option maxHeartbeats 1000000 in
theorem implLongestSide_any (k : Int) (l : List RulD) (a : Option Addr) (cap : Nat) (w : World) (hl : RulesIn w a l) (hlen : l.length ≤ 2 ^ 40) (hz : SzR l) :
    Calls Tryz.prog 148 #[.agg #[.int .i64 k, .slice a l.length cap]] w fun e w' => e = .returned (.int .i64 (lsL l : Nat)) ∧ Below w.heap.size w w' := by
  have HL := Lib.hid hl
  have HZ := Lib.hid hz
  have HA := Lib.hid (fun o => alloc_belowS w o)
  clear hl hz
  go_enter Tryz.func148, Tryz.ntmps148
  go_wp2_with fail
  go_loopw [3, 9] (fun v i wr => ∃ j m : Nat, j ≤ l.length ∧ i = .int .i64 (j : Nat) ∧ v = .int .i64 (m : Nat) ∧ Hid (m = lsTo l j) ∧ m ≤ 9223372036854775807 ∧ Below w.heap.size w wr) (fun _ i _ => l.length - (intOf i).toNat)
  case atStart => exact ⟨0, 0, Nat.zero_le _, rfl, rfl, Lib.hid rfl, by omega, HA.out _⟩
  case round =>
    obtain ⟨j, m, hj, rfl, rfl, hm, hm9, hbw⟩ := hrel
    have HBW := Lib.hid hbw
    by_cases hlt : j < l.length
    · obtain ⟨b, off, rfl, hb, hc⟩ := (HL.out.later hbw).cell hlt
      obtain ⟨c1, c2⟩ := hc j hlt
      obtain ⟨z1, z2⟩ := HZ.out j hlt
      have F : Hid (lsTo l (j + 1) = max (lsTo l j) (nthR l j).1.size) := Lib.hid rfl
      rw [← hm.out] at F
      unfold maxLen at z1
      clear hc hbw
      generalize (nthR l j).1 = x at *
      generalize (nthR l j).2 = y at *
      have HMX : Hid (((max m x.size : Nat) : Int) = max (m : Int) (x.size : Int)) := Lib.hid (by omega)
      have hmx : max m x.size ≤ 9223372036854775807 := by omega
      go_wp2_with fail
      go_roundw
      case rel => exact ⟨j + 1, max m x.size, by omega, by go_num, by first | (rw [HMX.out]) | (simp; omega), Lib.hid F.out.symm, hmx, HBW.out.alloc HBW.out.size _⟩
      case measure => simp [intOf]; omega
    · obtain rfl : j = l.length := by omega
      have F : Hid ((m : Int) = (lsL l : Nat)) := Lib.hid (by rw [hm.out]; rfl)
      go_wp2_with fail
      go_ret
      exact ⟨ret_int F.out, HBW.out⟩
end Go.Proofs.YtggfhephdcnpcaaGreatDoor
namespace Go.Proofs.YtggfhephdcnpcaaGreatDoor
open Go.RowKit
set_option linter.unusedVariables false
def intVals (l : List Int) : List Value := l.map (Value.int .i64)
/-- the numbers below j with a property -/
def listTo (f : Nat → Bool) (j : Nat) : List Int := ((List.range j).filter f).map Int.ofNat
theorem listTo_yes {f : Nat → Bool} {j : Nat} (h : f j = true) : listTo f (j + 1) = listTo f j ++ [(j : Int)] := by
  simp [listTo, List.range_succ, h]
theorem listTo_no {f : Nat → Bool} {j : Nat} (h : f j = false) : listTo f (j + 1) = listTo f j := by
  simp [listTo, List.range_succ, h]
theorem listTo_len (f : Nat → Bool) (j : Nat) : (listTo f j).length ≤ j := by
  unfold listTo
  rw [List.length_map]
  exact Nat.le_trans (List.length_filter_le _ _) (by simp)
end Go.Proofs.YtggfhephdcnpcaaGreatDoor
namespace Go.Proofs.YtggfhephdcnpcaaGreatDoor
open Go.RowKit
set_option linter.unusedVariables false
theorem sorted_extZ : ∀ (l l' : List Int), l.Pairwise (· < ·) → l'.Pairwise (· < ·) → (∀ x, x ∈ l ↔ x ∈ l') → l = l'
  | [], [], _, _, _ => rfl
  | [], b :: l', _, _, h => absurd ((h b).2 (by simp)) (by simp)
  | a :: l, [], _, _, h => absurd ((h a).1 (by simp)) (by simp)
  | a :: l, b :: l', h1, h2, h => by
    rw [List.pairwise_cons] at h1 h2
    have e : a = b := by
      have ha := (h a).1 (by simp)
      have hb := (h b).2 (by simp)
      rcases List.mem_cons.1 ha with e | ha
      · exact e
      · rcases List.mem_cons.1 hb with e | hb
        · exact e.symm
        · have := h1.1 b hb; have := h2.1 a ha; omega
    subst e
    congr 1
    refine sorted_extZ l l' h1.2 h2.2 fun x => ⟨fun hx => ?_, fun hx => ?_⟩
    · rcases List.mem_cons.1 ((h x).1 (by simp [hx])) with e | hx'
      · have := h1.1 x hx; omega
      · exact hx'
    · rcases List.mem_cons.1 ((h x).2 (by simp [hx])) with e | hx'
      · have := h2.1 x hx; omega
      · exact hx'
theorem at_bang {zs : List Int} {j : Nat} (h : j < zs.length) : zs.toArray[j]! = zs[j] := by
  rw [getElem!_pos _ _ (by simpa using h)]; simp
theorem mono_at {zs : List Int} (h : zs.Pairwise (· ≤ ·)) {i j : Nat} (hij : i ≤ j) (hj : j < zs.length) : zs[i]'(by omega) ≤ zs[j] := by
  rcases Nat.lt_or_ge i j with hlt | hge
  · exact (List.pairwise_iff_getElem.1 h) i j (by omega) hj hlt
  · have : i = j := by omega
    subst this; exact Int.le_refl _
theorem compact_lt {zs : List Int} (h : zs.Pairwise (· ≤ ·)) : (Go.Lib.compact zs).Pairwise (· < ·) := by
  unfold Go.Lib.compact Go.Lib.compactUpTo
  rw [List.pairwise_map]
  have h0 : ((List.range zs.length).filter (Go.Lib.keeps zs.toArray)).Pairwise (· < ·) := List.Pairwise.filter _ List.pairwise_lt_range
  refine List.Pairwise.imp_of_mem (fun {i j} hi hj hij => ?_) h0
  have hi' := List.mem_filter.1 hi
  have hj' := List.mem_filter.1 hj
  have hjl := List.mem_range.1 hj'.1
  have hk : zs.toArray[j]! ≠ zs.toArray[j - 1]! := by
    have := hj'.2
    simp only [Go.Lib.keeps, decide_eq_true_eq] at this
    rcases this with e | e
    · omega
    · exact e
  rw [at_bang (by omega), at_bang (by omega)] at hk ⊢
  have h1 := mono_at h (i := i) (j := j - 1) (by omega) (by omega)
  have h2 := mono_at h (i := j - 1) (j := j) (by omega) (by omega)
  omega
theorem compact_mem (zs : List Int) (x : Int) : x ∈ Go.Lib.compact zs ↔ x ∈ zs := by
  unfold Go.Lib.compact Go.Lib.compactUpTo
  constructor
  · intro h
    obtain ⟨i, hi, rfl⟩ := List.mem_map.1 h
    have := List.mem_range.1 (List.mem_filter.1 hi).1
    rw [at_bang this]
    exact List.getElem_mem this
  · intro h
    have key : ∀ i, i < zs.length → zs.toArray[i]! ∈ List.map (zs.toArray[·]!) ((List.range zs.length).filter (Go.Lib.keeps zs.toArray)) := by
      intro i
      induction i with
      | zero => exact fun h => List.mem_map.2 ⟨0, List.mem_filter.2 ⟨List.mem_range.2 h, by simp [Go.Lib.keeps]⟩, rfl⟩
      | succ i ih =>
        intro hi
        by_cases he : zs.toArray[i + 1]! = zs.toArray[i]!
        · rw [he]; exact ih (by omega)
        · exact List.mem_map.2 ⟨i + 1, List.mem_filter.2 ⟨List.mem_range.2 hi, by simp only [Go.Lib.keeps, decide_eq_true_eq]; exact .inr he⟩, rfl⟩
    obtain ⟨i, hi, rfl⟩ := List.getElem_of_mem h
    rw [← at_bang hi]
    exact key i hi
def sortL (l : List Int) : List Int := l.mergeSort fun x y => decide (x ≤ y)
def collL (l : List Int) : List Int := Go.Lib.compact (sortL l)
theorem sortL_len (l : List Int) : (sortL l).length = l.length := by simp [sortL]
theorem sortL_le (l : List Int) : (sortL l).Pairwise (· ≤ ·) := by
  have := List.pairwise_mergeSort (le := fun x y : Int => decide (x ≤ y)) (fun a b c h1 h2 => by simp at *; omega) (fun a b => by simp; omega) l
  exact this.imp fun h => by simpa using h
theorem sortL_mem (l : List Int) (x : Int) : x ∈ sortL l ↔ x ∈ l := by unfold sortL; exact List.mem_mergeSort
theorem listTo_lt (f : Nat → Bool) (m : Nat) : (listTo f m).Pairwise (· < ·) := by
  unfold listTo
  rw [List.pairwise_map]
  exact (List.Pairwise.filter _ List.pairwise_lt_range).imp fun h => by simpa using h
theorem listTo_mem (f : Nat → Bool) (m : Nat) (x : Int) : x ∈ listTo f m ↔ ∃ j : Nat, x = j ∧ j < m ∧ f j = true := by
  unfold listTo
  simp only [List.mem_map, List.mem_filter, List.mem_range, Int.ofNat_eq_natCast]
  constructor
  · rintro ⟨j, h, rfl⟩; exact ⟨j, rfl, h⟩
  · rintro ⟨j, rfl, h⟩; exact ⟨j, h, rfl⟩
theorem collL_eq {l : List Int} {m : Nat} {f : Nat → Bool} (h : ∀ x ∈ l, ∃ j : Nat, x = j ∧ j < m) (hf : ∀ j, j < m → (f j = true ↔ (j : Int) ∈ l)) : collL l = listTo f m := by
  refine sorted_extZ _ _ (compact_lt (sortL_le l)) (listTo_lt f m) fun x => ?_
  rw [collL, compact_mem, sortL_mem, listTo_mem]
  constructor
  · intro hx
    obtain ⟨j, rfl, hj⟩ := h x hx
    exact ⟨j, rfl, hj, (hf j hj).2 hx⟩
  · rintro ⟨j, rfl, hj, hx⟩
    exact (hf j hj).1 hx
theorem collL_len (l : List Int) : (collL l).length ≤ l.length := by
  unfold collL Go.Lib.compact Go.Lib.compactUpTo
  rw [List.length_map]
  exact Nat.le_trans (List.length_filter_le _ _) (by simp [sortL])
end Go.Proofs.YtggfhephdcnpcaaGreatDoor
