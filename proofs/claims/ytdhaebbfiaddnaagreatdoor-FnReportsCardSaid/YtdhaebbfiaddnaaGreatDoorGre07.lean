/-
  Tables as plain data: what a valid table is.
-/
import Derived.Test.YtdhaebbfiaddnaaGreatDoorGre06
import Derived.Test.YtdhaebbfiaddnaaGreatDoorGre04
import Derived.Test.YtdhaebbfiaddnaaGreatDoorGre01
import Derived.Lib.Itoa
import Derived.Lib.ItoaNum
import Derived.Laws.BytesArg
import Derived.Deep.RegionWith
import Derived.Test.YtdhaebbfiaddnaaGreatDoorGre05
import Derived.Deep.QuietTactic
namespace Go.Proofs.YtdhaebbfiaddnaaGreatDoor
open Go.RowKit
set_option linter.unusedVariables false
theorem empty_facts {x : ByteArray} (h : x.size = 0) : (x.toList == []) = true ∧ x.toList = [] := by
  rw [size_zero0 h, Lib.toList_data]; exact ⟨rfl, rfl⟩
theorem full_facts {x : ByteArray} (h : ¬ x.size = 0) : (x.toList == []) = false ∧ x.toList.isEmpty = false := by
  have hne : x.toList ≠ [] := fun h1 => h (by
    have h2 : x.data.toList = [] := by rw [← Lib.toList_data]; exact h1
    have h3 : x.data.toList.length = 0 := by rw [h2]; rfl
    exact h3)
  exact ⟨by rw [beq_eq_false_iff_ne]; exact hne, by rw [List.isEmpty_eq_false_iff]; exact hne⟩
set_option maxHeartbeats 400000 in
theorem rulesOk1_any (k : Int) (x y : ByteArray) (box : Nat) (w : World) (hx : x.size ≤ maxLen) (hy : y.size ≤ maxLen) (hk : w.cell? ⟨box, 0, none⟩ = some (.int .i64 k)) :
    Calls Tryz.prog 75 #[.agg #[.string x, .string y], .pointer (some ⟨box, 0, none⟩)] w (RetP (¬ ruleP k (x, y)) w) := by
  have HS := Lib.hid (fun W => implSidesOk_any k x y W hx hy)
  have HR : Hid (ruleP k (x, y) ↔ sideP k (x, y) ∧ x.size ≠ 0) := Lib.hid Iff.rfl
  have hk2 : ∀ o, (w.alloc o).cell? ⟨box, 0, none⟩ = some (.int .i64 k) := fun o => by rw [(alloc_belowS w o).cell (World.block_lt_of_cell? w _ hk)]; exact hk
  have HA := Lib.hid (fun o => alloc_belowS w o)
  generalize ruleP k (x, y) = pp at *
  generalize sideP k (x, y) = sp at *
  go_enter Tryz.func75, Tryz.ntmps75
  go_wp2_with fail
  refine (HS.out _).mono ?_
  rintro e w2 ⟨bb, hbb, rfl, hb2⟩
  have HBB := Lib.hid hbb
  have hcx : w2.cell? ⟨w.heap.size, 0, none⟩ = some (.string x) := by rw [hb2.cell (by simp)]; simp [World.cell?_alloc_new]
  have HW2 := Lib.hid (Below.now (HA.out _) hb2)
  clear hbb hb2 HS hk hk2
  cases bb
  · have F : Hid (RetP (¬ pp) w (.returned (.bool true)) w2) := Lib.hid (RetP.yes (fun h => by have := HBB.out.2 (HR.out.1 h).1; cases this) HW2.out)
    go_wp2_with fail
    go_ret
    exact F.out
  · by_cases h0 : x.size = 0
    · have F : Hid (RetP (¬ pp) w (.returned (.bool true)) w2) := Lib.hid (RetP.yes (fun h => (HR.out.1 h).2 h0) HW2.out)
      obtain ⟨n1, n3⟩ := empty_facts h0
      clear h0
      go_wp2_with fail
      go_ret
      exact F.out
    · have F : Hid (RetP (¬ pp) w (.returned (.bool false)) w2) := Lib.hid (RetP.no (fun h => h (HR.out.2 ⟨HBB.out.1 rfl, h0⟩)) HW2.out)
      obtain ⟨n1, n3⟩ := full_facts h0
      clear h0
      go_wp2_with fail
      go_ret
      exact F.out
theorem rulesP_iff {k : Int} {l : List RulD} (h1 : 1 ≤ k ∧ k ≤ 4) (h2 : l.length ≤ 12) : rulesP k l ↔ ¬ ∃ r ∈ l, ¬ ruleP k r := by
  constructor
  · rintro h ⟨r, hr, hn⟩; exact hn (h.2 r hr)
  · intro h; exact ⟨⟨h1, h2⟩, fun r hr => Classical.byContradiction fun hn => h ⟨r, hr, hn⟩⟩
theorem sysP_iff {k : Int} {l : List RulD} (h : rulesP k l) : sysP k l ↔ ¬ ∃ r ∈ l, ¬ lessS r.2 r.1 = true := by
  constructor
  · rintro h ⟨r, hr, hn⟩; exact hn (h.2 r hr)
  · intro h2; exact ⟨h, fun r hr => Classical.byContradiction fun hn => h2 ⟨r, hr, hn⟩⟩
set_option maxHeartbeats 1000000 in
theorem implRulesOk_any (k : Int) (l : List RulD) (a : Option Addr) (cap : Nat) (w : World) (hl : RulesIn w a l) (hlen : l.length ≤ 2 ^ 40) (hz : SzR l) :
    Calls Tryz.prog 38 #[.agg #[.int .i64 k, .slice a l.length cap]] w (RetP (rulesP k l) w) := by
  have HL := Lib.hid hl
  have HZ := Lib.hid hz
  have P1 := Lib.hid (fun W => within_any k 1 4 W)
  have HA := Lib.hid (fun o => alloc_belowS w o)
  clear hl hz
  cases hb : inB k 1 4
  · have F : Hid (¬ rulesP k l) := Lib.hid (fun h => by have := h.1.1; simp [inB] at hb; omega)
    rw [hb] at P1
    clear hb
    go_enter Tryz.func38, Tryz.ntmps38
    go_wp2_with (go_at_call 48; refine (P1.out _).mono ?_; rintro e w' ⟨rfl, rfl⟩)
    go_ret
    exact RetP.no F.out (HA.out _)
  · have hb2 := inB_bounds hb
    rw [hb] at P1
    clear hb
    by_cases h12 : l.length ≤ 12
    · have n1 : ¬ (12 : Int) < (l.length : Int) := by omega
      have HI := Lib.hid (rulesP_iff hb2 h12)
      have hsb := (sys_cells (alloc_at w (.cells #[.int .i64 k, .slice a l.length cap] 25))).1
      have HC := Lib.hid (containsFuncR_any 75 #[.pointer (some ⟨w.heap.size, 0, none⟩)] (fun r => ¬ ruleP k r) l a cap (w.alloc (.cells #[.int .i64 k, .slice a l.length cap] 25)) (HL.out.later (HA.out _)) hlen (w.heap.size + 1) (by simp) (fun j hj W hW => by
        have z := HZ.out j hj
        exact rulesOk1_any k _ _ w.heap.size W z.1 z.2 (by rw [hW.cell (p := ⟨w.heap.size, 0, none⟩) (by simp)]; exact hsb)) (enters_of Tryz.func75 (by kernel_rfl) rfl))
      clear hb2 h12 hsb
      go_enter Tryz.func38, Tryz.ntmps38
      go_wp2_with (go_at_call 48; refine (P1.out _).mono ?_; rintro e w' ⟨rfl, rfl⟩)
      refine HC.out.mono ?_
      rintro e w2 ⟨bb, hbb, rfl, hb2⟩
      have F : Hid (RetP (rulesP k l) w (.returned (.bool !bb)) w2) := Lib.hid (by
        cases bb
        · exact RetP.yes (HI.out.2 (fun h => by have := hbb.2 h; cases this)) (Below.now (HA.out _) hb2)
        · exact RetP.no (fun h => HI.out.1 h (hbb.1 rfl)) (Below.now (HA.out _) hb2))
      clear hbb hb2 HC
      go_wp2_with fail
      go_ret
      exact F.out
    · have F : Hid (¬ rulesP k l) := Lib.hid (fun h => h12 h.1.2)
      have n1 : (12 : Int) < (l.length : Int) := by omega
      clear h12
      go_enter Tryz.func38, Tryz.ntmps38
      go_wp2_with (go_at_call 48; refine (P1.out _).mono ?_; rintro e w' ⟨rfl, rfl⟩)
      go_ret
      exact RetP.no F.out (HA.out _)
set_option maxHeartbeats 400000 in
theorem systemOk1_any (x y : ByteArray) (w : World) :
    Calls Tryz.prog 40 #[.agg #[.string x, .string y]] w (RetP (¬ lessS y x = true) w) := by
  have HS := Lib.hid (fun W => implIsLess_any y x W)
  have HA := Lib.hid (fun o => alloc_belowS w o)
  generalize lessS y x = b at *
  go_enter Tryz.func40, Tryz.ntmps40
  go_wp2_with fail
  refine (HS.out _).mono ?_
  rintro e w2 ⟨rfl, hb2⟩
  have F : Hid (RetP (¬ b = true) w (.returned (.bool !b)) w2) := Lib.hid ⟨!b, by simp, rfl, Below.now (HA.out _) hb2⟩
  clear hb2 HS
  go_wp2_with fail
  go_ret
  exact F.out
set_option maxHeartbeats 1000000 in
theorem implSystemOk_any (k : Int) (l : List RulD) (a : Option Addr) (cap : Nat) (w : World) (hl : RulesIn w a l) (hlen : l.length ≤ 2 ^ 40) (hz : SzR l) :
    Calls Tryz.prog 12 #[.agg #[.int .i64 k, .slice a l.length cap]] w (RetP (sysP k l) w) := by
  have HL := Lib.hid hl
  have HR := Lib.hid (fun W h => implRulesOk_any k l a cap W h hlen hz)
  have HA := Lib.hid (fun o => alloc_belowS w o)
  clear hl hz
  go_enter Tryz.func12, Tryz.ntmps12
  go_wp2_with fail
  refine (HR.out _ (HL.out.later (HA.out _))).mono ?_
  rintro e w2 ⟨bb, hbb, rfl, hb2⟩
  have HBB := Lib.hid hbb
  have hb0 := (hb2.block w.heap.size (by simp)).trans (alloc_at w (.cells #[.int .i64 k, .slice a l.length cap] 25))
  obtain ⟨s0, s1⟩ := sys_cells hb0
  have HW2 := Lib.hid (Below.now (HA.out _) hb2)
  clear hbb hb2 HR hb0
  cases bb
  · have F : Hid (RetP (sysP k l) w (.returned (.bool false)) w2) := Lib.hid (RetP.no (fun h => by have := HBB.out.2 h.1; cases this) HW2.out)
    go_wp2_with fail
    go_ret
    exact F.out
  · have HI := Lib.hid (sysP_iff (HBB.out.1 rfl))
    have HC := Lib.hid (fun W h => containsFuncR_any 40 #[] (fun r => ¬ lessS r.2 r.1 = true) l a cap W h hlen W.heap.size (Nat.le_refl _) (fun j hj W2 hW2 => systemOk1_any _ _ W2) (enters_of Tryz.func40 (by kernel_rfl) rfl))
    go_wp2_with fail
    refine (HC.out _ (HL.out.later HW2.out)).mono ?_
    rintro e w3 ⟨b3, hb3, rfl, hb33⟩
    have F : Hid (RetP (sysP k l) w (.returned (.bool !b3)) w3) := Lib.hid (by
      cases b3
      · exact RetP.yes (HI.out.2 (fun h => by have := hb3.2 h; cases this)) (Below.now HW2.out hb33)
      · exact RetP.no (fun h => HI.out.1 h (hb3.1 rfl)) (Below.now HW2.out hb33))
    clear hb3 hb33 HC
    go_wp2_with fail
    go_ret
    exact F.out
set_option maxRecDepth 20000 in
set_option maxHeartbeats 1000000 in
theorem specSystemOk_any (k : Int) (l : List RulD) (a : Option Addr) (cap : Nat) (w : World) (hl : RulesIn w a l) (hlen : l.length ≤ 2 ^ 40) (hz : SzR l) :
    Calls Tryz.prog 63 #[.agg #[.int .i64 k, .slice a l.length cap]] w (RetP (sysP k l) w) := by
  have HL := Lib.hid hl
  have HZ := Lib.hid hz
  have HR := Lib.hid (fun W h => specRulesOk_any k l a cap W h hlen hz)
  have HA := Lib.hid (fun o => alloc_belowS w o)
  clear hl hz
  go_enter Tryz.func63, Tryz.ntmps63
  go_wp2_with fail
  refine (HR.out _ (HL.out.later (HA.out _))).mono ?_
  rintro e w2 ⟨bb, hbb, rfl, hb2⟩
  have HBB := Lib.hid hbb
  have hb0 := (hb2.block w.heap.size (by simp)).trans (alloc_at w (.cells #[.int .i64 k, .slice a l.length cap] 25))
  obtain ⟨s0, s1⟩ := sys_cells hb0
  have HW2 := Lib.hid (Below.now (HA.out _) hb2)
  clear hbb hb2 HR hb0
  cases bb
  · have F : Hid (RetP (sysP k l) w (.returned (.bool false)) w2) := Lib.hid (RetP.no (fun h => by have := HBB.out.2 h.1; cases this) HW2.out)
    go_wp2_with fail
    go_ret
    exact F.out
  · have HRP := Lib.hid (HBB.out.1 rfl)
    clear HBB
    go_wp2_with fail
    clear s0 s1
    go_loopw [11] (fun i wr => ∃ j : Nat, j ≤ l.length ∧ i = .int .i64 (j : Nat) ∧ Hid (∀ j', j' < j → lessS (nthR l j').2 (nthR l j').1 = true) ∧ Below w.heap.size w wr) (fun i _ => l.length - (intOf i).toNat)
    case atStart => exact ⟨0, Nat.zero_le _, rfl, Lib.hid (fun j' h => absurd h (Nat.not_lt_zero _)), HW2.out⟩
    case round =>
      obtain ⟨j, hj, rfl, hall, hbw⟩ := hrel
      have HBW := Lib.hid hbw
      by_cases hlt : j < l.length
      · obtain ⟨b, off, rfl, hb, hc⟩ := (HL.out.later hbw).cell hlt
        obtain ⟨c1, c2⟩ := hc j hlt
        obtain ⟨z1, z2⟩ := HZ.out j hlt
        have HNO : Hid (¬ lessS (nthR l j).2 (nthR l j).1 = true → ¬ sysP k l) := Lib.hid (fun h h2 => h (h2.2 _ (nthR_mem hlt)))
        have HYE : Hid (lessS (nthR l j).2 (nthR l j).1 = true → ∀ j', j' < j + 1 → lessS (nthR l j').2 (nthR l j').1 = true) := Lib.hid (fun h j' hj' => by
          by_cases e : j' = j
          · rw [e]; exact h
          · exact hall.out j' (by omega))
        clear hc hbw
        generalize (nthR l j).1 = x at *
        generalize (nthR l j).2 = y at *
        have HLS := Lib.hid (fun W => specIsLess_any y x W z2 z1)
        cases hq : lessS y x
        · have F := Lib.hid (HNO.out (by rw [hq]; simp))
          rw [hq] at HLS
          clear hq HNO HYE
          go_wp2_with (go_at_call 99; refine (HLS.out _).mono ?_; rintro e w' ⟨rfl, rfl⟩)
          go_ret
          exact RetP.no F.out (HBW.out.alloc HBW.out.size _)
        · have F := Lib.hid (HYE.out hq)
          rw [hq] at HLS
          clear hq HNO HYE
          go_wp2_with (go_at_call 99; refine (HLS.out _).mono ?_; rintro e w' ⟨rfl, rfl⟩)
          go_roundw
          case rel => exact ⟨j + 1, by omega, by go_num, F, HBW.out.alloc HBW.out.size _⟩
          case measure => simp [intOf]; omega
      · have F : Hid (sysP k l) := Lib.hid ⟨HRP.out, fun r hr => by
          obtain ⟨i, hi, rfl⟩ := mem_nthR hr
          exact hall.out i (by omega)⟩
        go_wp2_with fail
        go_ret
        exact RetP.yes F.out HBW.out
/-- the length of the longest Left of the first j rules -/
def lsTo (l : List RulD) : Nat → Nat
  | 0 => 0
  | j + 1 => max (lsTo l j) (nthR l j).1.size
def lsL (l : List RulD) : Nat := lsTo l l.length
theorem lsTo_le {l : List RulD} (hz : SzR l) : ∀ j, j ≤ l.length → lsTo l j ≤ maxLen
  | 0, _ => by unfold lsTo maxLen; omega
  | j + 1, h => by
    have h1 := lsTo_le hz j (by omega)
    have h2 := (hz j (by omega)).1
    show max _ _ ≤ _
    omega
set_option maxRecDepth 20000 in
set_option maxHeartbeats 1000000 in
theorem specLongestSide_any (k : Int) (l : List RulD) (a : Option Addr) (cap : Nat) (w : World) (hl : RulesIn w a l) (hlen : l.length ≤ 2 ^ 40) (hz : SzR l) :
    Calls Tryz.prog 167 #[.agg #[.int .i64 k, .slice a l.length cap]] w fun e w' => e = .returned (.int .i64 (lsL l : Nat)) ∧ Below w.heap.size w w' := by
  have HL := Lib.hid hl
  have HZ := Lib.hid hz
  have HA := Lib.hid (fun o => alloc_belowS w o)
  clear hl hz
  go_enter Tryz.func167, Tryz.ntmps167
  go_wp2_with fail
  go_loopw [3, 9] (fun v i wr => ∃ j m : Nat, j ≤ l.length ∧ i = .int .i64 (j : Nat) ∧ v = .int .i64 (m : Nat) ∧ Hid (m = lsTo l j) ∧ m ≤ 9223372036854775807 ∧ Below w.heap.size w wr) (fun _ i _ => l.length - (intOf i).toNat)
  case atStart => exact ⟨0, 0, Nat.zero_le _, rfl, rfl, Lib.hid rfl, by omega, HA.out _⟩
  case round =>
    obtain ⟨j, m, hj, rfl, rfl, hm, hm9, hbw⟩ := hrel
    have HBW := Lib.hid hbw
    by_cases hlt : j < l.length
    · obtain ⟨b, off, rfl, hb, hc⟩ := (HL.out.later hbw).cell hlt
      obtain ⟨c1, c2⟩ := hc j hlt
      obtain ⟨z1, z2⟩ := HZ.out j hlt
      have F : Hid (lsTo l (j + 1) = max (lsTo l j) (nthR l j).1.size) := Lib.hid rfl
      rw [← hm.out] at F
      unfold maxLen at z1
      clear hc hbw
      generalize (nthR l j).1 = x at *
      generalize (nthR l j).2 = y at *
      have HMX : Hid (((max m x.size : Nat) : Int) = max (m : Int) (x.size : Int)) := Lib.hid (by omega)
      have hmx : max m x.size ≤ 9223372036854775807 := by omega
      go_wp2_with fail
      go_roundw
      case rel => exact ⟨j + 1, max m x.size, by omega, by go_num, by first | (rw [HMX.out]) | (simp; omega), Lib.hid F.out.symm, hmx, HBW.out.alloc HBW.out.size _⟩
      case measure => simp [intOf]; omega
    · obtain rfl : j = l.length := by omega
      have F : Hid ((m : Int) = (lsL l : Nat)) := Lib.hid (by rw [hm.out]; rfl)
      go_wp2_with fail
      go_ret
      exact ⟨ret_int F.out, HBW.out⟩
set_option maxRecDepth 20000 in
set_option maxHeartbeats 1000000 in
theorem implLongestSide_any (k : Int) (l : List RulD) (a : Option Addr) (cap : Nat) (w : World) (hl : RulesIn w a l) (hlen : l.length ≤ 2 ^ 40) (hz : SzR l) :
    Calls Tryz.prog 82 #[.agg #[.int .i64 k, .slice a l.length cap]] w fun e w' => e = .returned (.int .i64 (lsL l : Nat)) ∧ Below w.heap.size w w' := by
  have HL := Lib.hid hl
  have HZ := Lib.hid hz
  have HA := Lib.hid (fun o => alloc_belowS w o)
  clear hl hz
  go_enter Tryz.func82, Tryz.ntmps82
  go_wp2_with fail
  go_loopw [3, 9] (fun v i wr => ∃ j m : Nat, j ≤ l.length ∧ i = .int .i64 (j : Nat) ∧ v = .int .i64 (m : Nat) ∧ Hid (m = lsTo l j) ∧ m ≤ 9223372036854775807 ∧ Below w.heap.size w wr) (fun _ i _ => l.length - (intOf i).toNat)
  case atStart => exact ⟨0, 0, Nat.zero_le _, rfl, rfl, Lib.hid rfl, by omega, HA.out _⟩
  case round =>
    obtain ⟨j, m, hj, rfl, rfl, hm, hm9, hbw⟩ := hrel
    have HBW := Lib.hid hbw
    by_cases hlt : j < l.length
    · obtain ⟨b, off, rfl, hb, hc⟩ := (HL.out.later hbw).cell hlt
      obtain ⟨c1, c2⟩ := hc j hlt
      obtain ⟨z1, z2⟩ := HZ.out j hlt
      have F : Hid (lsTo l (j + 1) = max (lsTo l j) (nthR l j).1.size) := Lib.hid rfl
      rw [← hm.out] at F
      unfold maxLen at z1
      clear hc hbw
      generalize (nthR l j).1 = x at *
      generalize (nthR l j).2 = y at *
      have HMX : Hid (((max m x.size : Nat) : Int) = max (m : Int) (x.size : Int)) := Lib.hid (by omega)
      have hmx : max m x.size ≤ 9223372036854775807 := by omega
      go_wp2_with fail
      go_roundw
      case rel => exact ⟨j + 1, max m x.size, by omega, by go_num, by first | (rw [HMX.out]) | (simp; omega), Lib.hid F.out.symm, hmx, HBW.out.alloc HBW.out.size _⟩
      case measure => simp [intOf]; omega
    · obtain rfl : j = l.length := by omega
      have F : Hid ((m : Int) = (lsL l : Nat)) := Lib.hid (by rw [hm.out]; rfl)
      go_wp2_with fail
      go_ret
      exact ⟨ret_int F.out, HBW.out⟩
end Go.Proofs.YtdhaebbfiaddnaaGreatDoor
namespace Go.Proofs.YtdhaebbfiaddnaaGreatDoor
open Go.RowKit
set_option linter.unusedVariables false
/-- a text of one byte -/
def oneB (x : Int) : ByteArray := ⟨#[UInt8.ofNat x.toNat]⟩
theorem conv_one (w : World) (x : Int) :
    (convert 22 9 (.slice (some ⟨w.heap.size, 0, none⟩) 1 1)).run Tryz.prog (w.alloc (.cells #[.int .u8 x] 5)) = .ok (.string (oneB x)) (w.alloc (.cells #[.int .u8 x] 5)) :=
  run_convert_bytes_arg (P := Tryz.prog) (w.alloc (.cells #[.int .u8 x] 5)) 22 5 Tryz.underlying22 Tryz.underlying5 w.heap.size 0 1 1 [x] rfl (fun i hi => by
    obtain rfl : i = 0 := by omega
    simp) 9 Tryz.underlying9
theorem conv_at (w : World) (g : Nat) (x : Int) (h : w.cell? ⟨g, 0, none⟩ = some (.int .u8 x)) :
    (convert 22 9 (.slice (some ⟨g, 0, none⟩) 1 1)).run Tryz.prog w = .ok (.string (oneB x)) w :=
  run_convert_bytes_arg (P := Tryz.prog) w 22 5 Tryz.underlying22 Tryz.underlying5 g 0 1 1 [x] rfl (fun i hi => by
    obtain rfl : i = 0 := by omega
    exact h) 9 Tryz.underlying9
theorem conv_drew (w : World) (x : Int) :
    (convert 22 9 (.slice (some ⟨w.heap.size, 0, none⟩) 1 1)).run Tryz.prog (w.alloc (.cells #[.int .u8 x] 5)).drew = .ok (.string (oneB x)) (w.alloc (.cells #[.int .u8 x] 5)).drew := conv_at _ _ _ (by simp)
theorem last_digit (m : Nat) : oneB (IntKind.u8.wrap (IntKind.i64.wrap (48 + (m : Int).tmod 10))) = ⟨#[UInt8.ofNat (48 + m % 10)]⟩ := by
  have h1 : (m : Int).tmod 10 = ((m % 10 : Nat) : Int) := by rw [Int.tmod_eq_emod_of_nonneg (by omega)]; simp
  have h2 : IntKind.i64.wrap (48 + ((m % 10 : Nat) : Int)) = ((48 + m % 10 : Nat) : Int) := by
    simp [IntKind.wrap, IntKind.signed, IntKind.bits]; omega
  have h3 : IntKind.u8.wrap ((48 + m % 10 : Nat) : Int) = ((48 + m % 10 : Nat) : Int) := by
    simp [IntKind.wrap, IntKind.signed, IntKind.bits]; omega
  rw [h1, h2, h3]; rfl
theorem wrap_id {x : Int} (h0 : -9223372036854775808 ≤ x) (h1 : x ≤ 9223372036854775807) : IntKind.i64.wrap x = x := by
  simp [IntKind.wrap, IntKind.signed, IntKind.bits]; omega
theorem oneB_size (x : Int) : (oneB x).size = 1 := rfl
theorem oneB_app (x : Int) (t : List UInt8) : oneB x ++ ⟨t.toArray⟩ = ⟨(UInt8.ofNat x.toNat :: t).toArray⟩ := by ext1; simp [oneB]
theorem app_oneB (x : Int) (t : List UInt8) : (⟨t.toArray⟩ : ByteArray) ++ oneB x = ⟨(t ++ [UInt8.ofNat x.toNat]).toArray⟩ := by ext1; simp [oneB]
theorem nDigits_le : ∀ (k n : Nat), n < 10 ^ (k + 1) → Lib.nDigits n ≤ k + 1
  | 0, n, h => by rw [Lib.nDigits_small (by omega)]; omega
  | k + 1, n, h => by
    by_cases h1 : n < 10
    · rw [Lib.nDigits_small h1]; omega
    · rw [Lib.nDigits_big h1]
      have := nDigits_le k (n / 10) (by rw [Nat.pow_succ] at h; omega)
      omega
theorem decDigits_len {n : Nat} (h : n ≤ 9223372036854775808) : (Lib.decDigits n).length ≤ 20 := by
  rw [Lib.decDigits_length]; exact nDigits_le 19 n (by omega)
theorem decDigits_big {k : Nat} (h : 9 < k) : Lib.decDigits k = Lib.decDigits (k / 10) ++ [UInt8.ofNat (48 + k % 10)] := by
  rw [Lib.decDigits, dif_neg (by omega)]
theorem decDigits_small {u : Nat} (h : u < 10) : Lib.decDigits u = [UInt8.ofNat (48 + u)] := Lib.decDigits_one h
theorem itoa_nat (n : Nat) : Lib.itoa (n : Int) = Lib.decDigits n := by unfold Lib.itoa; rw [if_neg (by omega)]; rfl
theorem itoa_neg {n : Nat} (h : 1 ≤ n) : Lib.itoa (-(n : Int)) = 45 :: Lib.decDigits n := by unfold Lib.itoa; rw [if_pos (by omega)]; simp
set_option maxRecDepth 20000 in
set_option maxHeartbeats 800000 in
theorem fmtIntNat_any (n : Nat) (w : World) (hn : n ≤ 9223372036854775807) :
    Calls Tryz.prog 129 #[.int .i64 n] w fun e w' => e = .returned (.string ⟨(Lib.itoa n).toArray⟩) ∧ Below w.heap.size w w' := by
  have kc := conv_one
  go_enter Tryz.func129, Tryz.ntmps129
  go_wp2_with fail
  go_loopw [0, 3] (fun v s wr => ∃ (k : Nat) (t : List UInt8), v = .int .i64 k ∧ s = .string ⟨t.toArray⟩ ∧ k ≤ n ∧ Lib.decDigits n = Lib.decDigits k ++ t ∧ t.length ≤ 20 ∧ Below w.heap.size w wr) (fun v _ _ => (intOf v).toNat)
  case atStart => exact ⟨n, [], rfl, rfl, Nat.le_refl _, by simp, by simp, Below.refl _ _⟩
  case round =>
    obtain ⟨k, t, rfl, rfl, hk, hd, ht, hbw⟩ := hrel
    have HD := Lib.hid hd
    have hdl := decDigits_len (n := n) (by omega)
    have hos := oneB_size
    rw [hd, List.length_append] at hdl
    clear hd ht
    by_cases hlt : 9 < k
    · have hb := decDigits_big hlt
      have hl1 : (Lib.decDigits k).length = (Lib.decDigits (k / 10)).length + 1 := by rw [hb]; simp
      have HB := Lib.hid hb
      clear hb
      go_wp2_with fail
      go_roundw
      case rel =>
        refine ⟨k / 10, UInt8.ofNat (48 + k % 10) :: t, by simp, ?_, by omega, ?_, ?_, hbw.alloc hbw.size _⟩
        · rw [oneB_app, show (48 + (k : Int) % 10).toNat = 48 + k % 10 by omega]
        · rw [HD.out, HB.out]; simp
        · simp; omega
      case measure => simp [intOf]; omega
    · have hb := decDigits_small (u := k) (by omega)
      have F : Hid (oneB (48 + (k : Int)) ++ ⟨t.toArray⟩ = ⟨(Lib.itoa n).toArray⟩) := Lib.hid (by
        rw [oneB_app, itoa_nat, HD.out, hb, show (48 + (k : Int)).toNat = 48 + k by omega]; rfl)
      clear hb
      go_wp2_with fail
      go_ret
      exact ⟨ret_str F.out, hbw.alloc hbw.size _⟩
set_option maxRecDepth 20000 in
set_option maxHeartbeats 800000 in
theorem fmtIntNeg_any : ∀ (N m : Nat) (w : World), m ≤ N → 1 ≤ m → m ≤ 9223372036854775808 →
    Calls Tryz.prog 129 #[.int .i64 (-(m : Int))] w fun e w' => e = .returned (.string ⟨(Lib.itoa (-(m : Int))).toArray⟩) ∧ Below w.heap.size w w'
  | 0, m, w, h, h1, _ => by omega
  | N + 1, m, w, h, h1, hm => by
    have kc := conv_one
    have hos := oneB_size
    have hdl := decDigits_len (n := m) hm
    by_cases hlt : m < 10
    · have hq : Int.tdiv (-(m : Int)) 10 = 0 := by rw [Int.neg_tdiv]; simp; omega
      have F : Hid ((⟨#[45]⟩ : ByteArray) ++ oneB (48 + (m : Int)) = ⟨(Lib.itoa (-(m : Int))).toArray⟩) := Lib.hid (by
        rw [itoa_neg h1, decDigits_small hlt, show (48 + (m : Int)) = ((48 + m : Nat) : Int) by simp]; rfl)
      go_enter Tryz.func129, Tryz.ntmps129
      go_wp2_with fail
      go_ret
      exact ⟨ret_str F.out, (Below.refl _ _).alloc (Nat.le_refl _) _⟩
    · have hih : ∀ w, Calls Tryz.prog 129 #[.int .i64 (-((m : Int) / 10))] w fun e w' => e = .returned (.string ⟨(45 :: Lib.decDigits (m / 10)).toArray⟩) ∧ Below w.heap.size w w' := fun w => by
        have := fmtIntNeg_any N (m / 10) w (by omega) (by omega) (by omega)
        rw [itoa_neg (by omega)] at this
        simpa using this
      have HIH := fun w => Lib.hid (hih w)
      have hl10 := decDigits_len (n := m / 10) (by omega)
      have kd := conv_drew
      have F : Hid ((⟨(45 :: Lib.decDigits (m / 10)).toArray⟩ : ByteArray) ++ oneB (IntKind.u8.wrap (IntKind.i64.wrap (48 + (m : Int).tmod 10))) = ⟨(Lib.itoa (-(m : Int))).toArray⟩) := Lib.hid (by
        rw [last_digit, itoa_neg h1, decDigits_big (k := m) (by omega)]; ext1; simp)
      have F2 : Hid ((⟨(45 :: Lib.decDigits (m / 10)).toArray⟩ : ByteArray) ++ oneB (48 + (m : Int) % 10) = ⟨(Lib.itoa (-(m : Int))).toArray⟩) := Lib.hid (by
        rw [show oneB (48 + (m : Int) % 10) = ⟨#[UInt8.ofNat (48 + m % 10)]⟩ by unfold oneB; rw [show (48 + (m : Int) % 10).toNat = 48 + m % 10 by omega], itoa_neg h1, decDigits_big (k := m) (by omega)]; ext1; simp)
      have hl11 : ¬ 9223372036854775807 < (Lib.decDigits (m / 10)).length + 1 + 1 := by omega
      clear hih
      go_enter Tryz.func129, Tryz.ntmps129
      go_wp2_with fail
      go_region_with (go_at_call 129; rw [wrap_id (by omega) (by omega)]; refine (HIH _).out.mono ?_; rintro e w2 ⟨rfl, hb2⟩; (try have kc2 := conv_at w2 w.heap.size _ ((hb2.cell (by simp)).trans (by simp; rfl))); have hk : Below w.heap.size w w2 := Below.now (by repeat (first | exact Below.refl _ _ | refine Below.drew ?_ | refine Below.alloc ?_ (by simp; try omega) _)) hb2; clear hb2)
      all_goals
        go_wp2_with fail
        go_ret
        exact ⟨ret_str (by first | exact F.out | exact F2.out), by repeat (first | exact hk | refine Below.drew ?_ | refine Below.alloc ?_ (by have := hk.size; simp; try omega) _)⟩
theorem specFormatInt_any (n : Int) (w : World) (h0 : -9223372036854775808 ≤ n) (h1 : n ≤ 9223372036854775807) :
    Calls Tryz.prog 129 #[.int .i64 n] w fun e w' => e = .returned (.string ⟨(Lib.itoa n).toArray⟩) ∧ Below w.heap.size w w' := by
  by_cases h : 0 ≤ n
  · obtain ⟨k, rfl⟩ : ∃ k : Nat, n = (k : Int) := ⟨n.toNat, by omega⟩
    exact fmtIntNat_any k w (by omega)
  · obtain ⟨k, rfl⟩ : ∃ k : Nat, n = -(k : Int) := ⟨(-n).toNat, by omega⟩
    exact fmtIntNeg_any k k w (Nat.le_refl _) (by omega) (by omega)
end Go.Proofs.YtdhaebbfiaddnaaGreatDoor
namespace Go.Proofs.YtdhaebbfiaddnaaGreatDoor
open Go.RowKit Go.ChangeShapes Go.WideShapes Go.ChangeAt Go.Joins Go.Deep
set_option linter.unusedVariables false
theorem Tryz.infoRule : (Tryz.prog.info? 36).map (fun i => (i.zero, i.size, i.bytes)) = some (some (.agg #[.string ⟨#[]⟩, .string ⟨#[]⟩]), 2, 32) := by kernel_rfl
/-- what szRuleS hands back -/
def szRF (left : Int) (l : List RulD) : Int := if left < (l.length : Int) + ruleSum l then -1 else left - l.length - ruleSum l
theorem szRF_big {left : Int} {l : List RulD} (h : left < (l.length : Int) + ruleSum l) : szRF left l = -1 := by simp [szRF, h]
theorem szRF_ok {left : Int} {l : List RulD} (h : ¬ left < (l.length : Int) + ruleSum l) : szRF left l = left - l.length - ruleSum l := by simp only [szRF, if_neg h]
def szR1 (left : Int) (x y : ByteArray) : Int := if left < (x.size : Int) + y.size then -1 else left - x.size - y.size
/-- what toSystem hands back -/
def RetSys (T : TypeId) (k : Int) (l : List RulD) (w : World) (e : Ending) (w' : World) : Prop :=
  ∃ a cap, e = .returned (.agg #[.int .i64 k, .slice a l.length cap]) ∧ w'.ownsRow w.heap.size T 2 (.slice a l.length cap) l.length (ruleCells l) ∧ Below w.heap.size w w'
end Go.Proofs.YtdhaebbfiaddnaaGreatDoor
namespace Go.Proofs.YtdhaebbfiaddnaaGreatDoor
open Go.RowKit
set_option linter.unusedVariables false
/-- the number at a place of a list -/
def nthZ (l : List Int) (i : Nat) : Int := l.getD i 0
/-- the product of two elements -/
def tm (m : Nat) (ln : List Nat) (i k : Nat) : Nat := ln.getD (i * m + k) 0
def asc (m : Nat) (ln : List Nat) (i j k : Nat) : Bool := decide (tm m ln (tm m ln i j) k = tm m ln i (tm m ln j k))
def idn (m : Nat) (ln : List Nat) (i : Nat) : Bool := decide (tm m ln 0 i = i) && decide (tm m ln i 0 = i)
def ascRow (m : Nat) (ln : List Nat) (i j : Nat) : Bool := (List.range m).all (asc m ln i j)
def rowOk (m : Nat) (ln : List Nat) (i : Nat) : Bool := idn m ln i && (List.range m).all (ascRow m ln i)
def rowsOk (m : Nat) (ln : List Nat) : Bool := (List.range m).all (rowOk m ln)
/-- the numbers lie in range -/
def rngB (n : Int) (l : List Int) : Bool := l.all fun x => inB x 0 (n - 1)
/-- TableOk as a function of plain data -/
def tabB (n : Int) (l : List Int) : Bool := inB n 1 40 && (decide ((l.length : Int) = n * n) && (rngB n l && rowsOk n.toNat (l.map Int.toNat)))
/-- a table whose numbers lie in range -/
structure Tb (m : Nat) (ln : List Nat) : Prop where
  lo : 1 ≤ m
  hi : m ≤ 40
  len : ln.length = m * m
  rng : ∀ x ∈ ln, x < m
/-- a valid table -/
structure TabOk (m : Nat) (ln : List Nat) : Prop extends Tb m ln where
  left : ∀ i, i < m → tm m ln 0 i = i
  right : ∀ i, i < m → tm m ln i 0 = i
  assoc : ∀ i j k, i < m → j < m → k < m → tm m ln (tm m ln i j) k = tm m ln i (tm m ln j k)
theorem ix_lt {m i k : Nat} (hi : i < m) (hk : k < m) : i * m + k < m * m := by
  have := Nat.mul_le_mul_right m (show i + 1 ≤ m from hi)
  rw [Nat.add_mul] at this
  omega
theorem mul_le {m i : Nat} (hm : m ≤ 40) (hi : i < m) : i * m ≤ 1600 :=
  Nat.le_trans (Nat.mul_le_mul (Nat.le_of_lt hi) (Nat.le_refl _)) (by have := Nat.mul_le_mul hm hm; omega)
theorem sq_le {m : Nat} (hm : m ≤ 40) : m * m ≤ 1600 := by have := Nat.mul_le_mul hm hm; omega
theorem Tb.tm_lt {m : Nat} {ln : List Nat} (h : Tb m ln) {i k : Nat} (hi : i < m) (hk : k < m) : tm m ln i k < m := by
  have hlt : i * m + k < ln.length := by rw [h.len]; exact ix_lt hi hk
  unfold tm
  rw [List.getD_eq_getElem?_getD, List.getElem?_eq_getElem hlt]
  exact h.rng _ (List.getElem_mem hlt)
/-- a slice of natural numbers -/
def NatsIn (w : World) (a : Option Addr) (ln : List Nat) : Prop := IntsIn w a (ln.map Int.ofNat)
theorem NatsIn.later {w w' : World} {a : Option Addr} {l : List Nat} (h : NatsIn w a l) (hb : Below w.heap.size w w') : NatsIn w' a l := IntsIn.later h hb
/-- the cells of a table's products -/
theorem Tb.cell {m : Nat} {ln : List Nat} (h : Tb m ln) {w : World} {a : Option Addr} (hn : NatsIn w a ln) :
    ∃ b off, a = some ⟨b, off, none⟩ ∧ b < w.heap.size ∧ ∀ i k, i < m → k < m → w.cell? ⟨b, off + (i * m + k), none⟩ = some (.int .i64 (tm m ln i k : Nat)) := by
  have h0 : 0 * m + 0 < m * m := ix_lt h.lo h.lo
  obtain ⟨b, off, ha, hc⟩ := IntsIn.at hn (i := 0) (by simp [h.len]; omega)
  have key : ∀ i k, i < m → k < m → w.cell? ⟨b, off + (i * m + k), none⟩ = some (.int .i64 (tm m ln i k : Nat)) := by
    intro i k hi hk
    have hlt : i * m + k < ln.length := by rw [h.len]; exact ix_lt hi hk
    rw [hc _ (by simpa using hlt)]
    simp [tm, List.getD_eq_getElem?_getD, hlt]
  exact ⟨b, off, ha, World.block_lt_of_cell? w _ (key 0 0 h.lo h.lo), key⟩
theorem all_range {m : Nat} {p : Nat → Bool} : (List.range m).all p = true ↔ ∀ i, i < m → p i = true := by simp
theorem all_range_false {m : Nat} {p : Nat → Bool} {i : Nat} (hi : i < m) (h : p i = false) : (List.range m).all p = false := by
  rw [List.all_eq_false]; exact ⟨i, by simpa using hi, by simp [h]⟩
/-- the first c of them hold -/
def upto (p : Nat → Bool) (c : Nat) : Prop := ∀ i, i < c → p i = true
theorem upto_zero (p : Nat → Bool) : upto p 0 := fun _ h => absurd h (Nat.not_lt_zero _)
theorem upto_succ {p : Nat → Bool} {c : Nat} (h : upto p c) (hc : p c = true) : upto p (c + 1) := fun i hi => by
  by_cases e : i = c
  · rw [e]; exact hc
  · exact h i (by omega)
theorem upto_all {p : Nat → Bool} {c m : Nat} (h : upto p c) (hc : ¬ c < m) : (List.range m).all p = true := all_range.2 fun i hi => h i (by omega)
theorem nthZ_lt {l : List Int} {j : Nat} (h : j < l.length) : nthZ l j = l[j] := by simp [nthZ, List.getD_eq_getElem?_getD, h]
theorem IntsIn.cell {w : World} {a : Option Addr} {l : List Int} (h : IntsIn w a l) {i : Nat} (hi : i < l.length) :
    ∃ b off, a = some ⟨b, off, none⟩ ∧ b < w.heap.size ∧ ∀ j, j < l.length → w.cell? ⟨b, off + j, none⟩ = some (.int .i64 (nthZ l j)) := by
  obtain ⟨b, off, ha, hc⟩ := h.at hi
  exact ⟨b, off, ha, World.block_lt_of_cell? w _ (hc i hi), hc⟩
/-- the first j numbers lie in range -/
def rngTo (n : Int) (l : List Int) (j : Nat) : Prop := ∀ i, i < j → inB (nthZ l i) 0 (n - 1) = true
theorem rngTo_zero (n : Int) (l : List Int) : rngTo n l 0 := fun _ h => absurd h (Nat.not_lt_zero _)
theorem rngTo_succ {n : Int} {l : List Int} {j : Nat} (h : rngTo n l j) (hj : inB (nthZ l j) 0 (n - 1) = true) : rngTo n l (j + 1) := fun i hi => by
  by_cases e : i = j
  · rw [e]; exact hj
  · exact h i (by omega)
theorem rngTo_full {n : Int} {l : List Int} {j : Nat} (h : rngTo n l j) (hj : ¬ j < l.length) : rngB n l = true := by
  unfold rngB
  rw [List.all_eq_true]
  intro x hx
  obtain ⟨i, hi, rfl⟩ := List.getElem_of_mem hx
  rw [← nthZ_lt hi]
  exact h i (by omega)
theorem rngB_false {n : Int} {l : List Int} {j : Nat} (h : j < l.length) (hj : inB (nthZ l j) 0 (n - 1) = false) : rngB n l = false := by
  unfold rngB
  rw [List.all_eq_false]
  exact ⟨l[j], List.getElem_mem h, by rw [← nthZ_lt h, hj]; simp⟩
theorem tabB_notn {n : Int} {l : List Int} (h : inB n 1 40 = false) : tabB n l = false := by simp [tabB, h]
theorem tabB_notlen {n : Int} {l : List Int} (h : ¬ (l.length : Int) = n * n) : tabB n l = false := by simp [tabB, h]
theorem tabB_notrng {n : Int} {l : List Int} (h : rngB n l = false) : tabB n l = false := by simp [tabB, h]
theorem tabB_rows {m : Nat} {ln : List Nat} {b : Bool} (h : Tb m ln) (hr : rowsOk m ln = b) : tabB m (ln.map Int.ofNat) = b := by
  have h1 : inB (m : Int) 1 40 = true := by have := h.lo; have := h.hi; simp [inB]; omega
  have h2 : ((ln.map Int.ofNat).length : Int) = (m : Int) * m := by simp [h.len]
  have h3 : rngB (m : Int) (ln.map Int.ofNat) = true := by
    unfold rngB
    rw [List.all_eq_true]
    intro x hx
    obtain ⟨y, hy, rfl⟩ := List.mem_map.1 hx
    have := h.rng y hy
    simp [inB]; omega
  have h4 : (ln.map Int.ofNat).map Int.toNat = ln := by rw [List.map_map]; exact List.map_id'' (fun x => rfl) ln
  simp [tabB, h1, h3, h4, hr, h.len]
/-- out of the first three tests -/
theorem tb_of {n : Int} {l : List Int} (h1 : inB n 1 40 = true) (h2 : (l.length : Int) = n * n) (h3 : rngB n l = true) : ∃ m ln, n = (m : Nat) ∧ l = ln.map Int.ofNat ∧ Tb m ln := by
  have hn : 1 ≤ n ∧ n ≤ 40 := by simpa [inB] using h1
  obtain ⟨m, rfl⟩ := Int.eq_ofNat_of_zero_le (show 0 ≤ n by omega)
  unfold rngB at h3
  rw [List.all_eq_true] at h3
  refine ⟨m, l.map Int.toNat, rfl, ?_, ⟨by omega, by omega, ?_, ?_⟩⟩
  · rw [List.map_map]
    symm
    have : ∀ x ∈ l, (Int.ofNat ∘ Int.toNat) x = x := fun x hx => by
      have := h3 x hx
      simp [inB] at this
      simp; omega
    rw [List.map_congr_left this]
    simp
  · simp only [List.length_map]
    have : ((l.length : Nat) : Int) = ((m * m : Nat) : Int) := by rw [h2]; simp
    omega
  · intro x hx
    obtain ⟨y, hy, rfl⟩ := List.mem_map.1 hx
    have := h3 y hy
    simp [inB] at this
    omega
theorem tabOk_of {m : Nat} {ln : List Nat} (h : Tb m ln) (hr : rowsOk m ln = true) : TabOk m ln := by
  have h1 := all_range.1 hr
  refine ⟨h, fun i hi => ?_, fun i hi => ?_, fun i j k hi hj hk => ?_⟩
  · have := h1 i hi; simp [rowOk, idn] at this; exact this.1.1
  · have := h1 i hi; simp [rowOk, idn] at this; exact this.1.2
  · have := h1 i hi
    simp only [rowOk, Bool.and_eq_true] at this
    have := all_range.1 (all_range.1 this.2 j hj) k hk
    simpa [asc] using this
/-- a valid table's two forms -/
theorem tabOk_out {n : Int} {l : List Int} (h : tabB n l = true) : ∃ m ln, n = (m : Nat) ∧ l = ln.map Int.ofNat ∧ TabOk m ln := by
  have h' := h
  simp only [tabB, Bool.and_eq_true, decide_eq_true_eq] at h
  obtain ⟨h1, h2, h3, h4⟩ := h
  obtain ⟨m, ln, rfl, rfl, ht⟩ := tb_of h1 h2 h3
  refine ⟨m, ln, rfl, rfl, tabOk_of ht ?_⟩
  have h5 : (ln.map Int.ofNat).map Int.toNat = ln := by rw [List.map_map]; exact List.map_id'' (fun x => rfl) ln
  rw [h5] at h4
  exact h4
theorem idn_of {m : Nat} {ln : List Nat} {c : Nat} (h1 : (((tm m ln 0 c : Nat) : Int) != (c : Nat)) = false) (h2 : (((tm m ln c 0 : Nat) : Int) != (c : Nat)) = false) : idn m ln c = true := by
  simp at h1 h2; simp [idn]; omega
theorem idn_not1 {m : Nat} {ln : List Nat} {c : Nat} (h1 : (((tm m ln 0 c : Nat) : Int) != (c : Nat)) = true) : idn m ln c = false := by
  simp at h1; simp [idn]; omega
theorem idn_not2 {m : Nat} {ln : List Nat} {c : Nat} (h1 : (((tm m ln c 0 : Nat) : Int) != (c : Nat)) = true) : idn m ln c = false := by
  simp at h1; simp [idn]; omega
theorem rowsOk_idn {m : Nat} {ln : List Nat} {c : Nat} (hc : c < m) (h : idn m ln c = false) : rowsOk m ln = false := all_range_false hc (by simp [rowOk, h])
theorem rowsOk_asc {m : Nat} {ln : List Nat} {i j k : Nat} (hi : i < m) (hj : j < m) (hk : k < m) (h : asc m ln i j k = false) : rowsOk m ln = false :=
  all_range_false hi (by unfold rowOk; rw [all_range_false hj (all_range_false hk h)]; simp)
theorem asc_of {m : Nat} {ln : List Nat} {i j k : Nat} {b : Bool} (h : (((tm m ln (tm m ln i j) k : Nat) : Int) != ((tm m ln i (tm m ln j k) : Nat) : Int)) = b) : asc m ln i j k = !b := by
  cases b <;> simp at h <;> simp [asc] <;> omega
theorem rowOk_of {m : Nat} {ln : List Nat} {c x : Nat} (h : idn m ln c = true) (h2 : upto (ascRow m ln c) x) (hx : ¬ x < m) : rowOk m ln c = true := by
  unfold rowOk; rw [h, upto_all h2 hx]; rfl
theorem ascRow_of {m : Nat} {ln : List Nat} {c d x : Nat} (h2 : upto (asc m ln c d) x) (hx : ¬ x < m) : ascRow m ln c d = true := upto_all h2 hx
end Go.Proofs.YtdhaebbfiaddnaaGreatDoor
