/-
  The laws' own helpers over systems: sz, to, eq.
-/
import Derived.Test.YtdhaebbfiaddnaaGrp02
import Derived.Test.YtdhaebbfiaddnaaGrp03
import Derived.Shelf.Abstract
import Derived.Test.YtdhaebbfiaddnaaGrp01
import Derived.Lib.Itoa
import Derived.Lib.ItoaNum
import Derived.Laws.BytesArg
import Derived.Deep.RegionWith
import Derived.Deep.QuietTactic
namespace Go.Proofs.Ytdhaebbfiaddnaa
open Go.RowKit
set_option linter.unusedVariables false
end Go.Proofs.Ytdhaebbfiaddnaa
namespace Go.Proofs.Ytdhaebbfiaddnaa
open Go.RowKit
set_option linter.unusedVariables false
def sideP (k : Int) (r : RulD) : Prop := (wordOkB k r.1 = true ∧ wordOkB k r.2 = true) ∧ r.1.size ≤ 8 ∧ r.2.size ≤ 8
def ruleP (k : Int) (r : RulD) : Prop := sideP k r ∧ r.1.size ≠ 0
def rulesP (k : Int) (R : List RulD) : Prop := ((1 ≤ k ∧ k ≤ 4) ∧ R.length ≤ 12) ∧ ∀ r ∈ R, ruleP k r
def sysP (k : Int) (R : List RulD) : Prop := rulesP k R ∧ ∀ r ∈ R, lessS r.2 r.1 = true
/-- what is asked of a system's rules so that they can be measured -/
def SzR (R : List RulD) : Prop := ∀ j, j < R.length → (nthR R j).1.size ≤ maxLen ∧ (nthR R j).2.size ≤ maxLen
theorem cfW_less (a b : ByteArray) : decide (cfW a b < 0) = lessS a b := by
  have h1 : (blW a).length = a.size := rfl
  have h2 : (blW b).length = b.size := rfl
  have h3 : a.toList = blW a := Lib.toList_data a
  have h4 : b.toList = blW b := Lib.toList_data b
  unfold cfW orF cmpS Lib.compareInt lessS ltW
  rw [h3, h4, ← h1, ← h2, bytesLess_eq]
  generalize blW a = x
  generalize blW b = y
  by_cases a1 : x.length < y.length
  · simp [a1]
  · by_cases a2 : y.length < x.length
    · have a3 : ¬ x.length = y.length := by omega
      simp [a1, a2, a3]
    · have a3 : x.length = y.length := by omega
      by_cases a4 : x < y
      · simp [a3, a4]
      · by_cases a5 : x = y
        · subst a5
          simp [List.lt_irrefl]
        · simp [a3, a4, a5]
/-- a function value that tells q of each rule, in every world that is as w below block B -/
def PredR (B : Nat) (g : Nat) (caps : Array Value) (q : RulD → Prop) (l : List RulD) (w : World) : Prop :=
  ∀ j, j < l.length → ∀ W, Below B w W → Calls Try.prog g (#[.agg #[.string (nthR l j).1, .string (nthR l j).2]] ++ caps) W (RetP (q (nthR l j)) W)
def RetIx (P : Prop) (w : World) (e : Ending) (w' : World) : Prop := ∃ i : Int, (0 ≤ i ↔ P) ∧ e = .returned (.int .i64 i) ∧ Below w.heap.size w w'
set_option maxHeartbeats 1000000 in
theorem specSidesOk_any (k : Int) (x y : ByteArray) (w : World) (hx : x.size ≤ maxLen) (hy : y.size ≤ maxLen) :
    Calls Try.prog 56 #[.int .i64 k, .agg #[.string x, .string y]] w (RetP (sideP k (x, y)) w) := by
  have HX := Lib.hid (fun W => specWordOk_any k x W hx)
  have HY := Lib.hid (fun W => specWordOk_any k y W hy)
  unfold maxLen at hx hy
  have HP : Hid (sideP k (x, y) ↔ (wordOkB k x = true ∧ wordOkB k y = true) ∧ x.size ≤ 8 ∧ y.size ≤ 8) := Lib.hid Iff.rfl
  have HA : Hid (∀ W, Below W.heap.size W (W.alloc (.cells #[.string x, .string y] 69))) := Lib.hid (fun W => (Below.refl _ _).alloc (Nat.le_refl _) _)
  generalize sideP k (x, y) = pp at *
  cases h1 : wordOkB k x
  · have F : Hid (RetP pp w (.returned (.bool false)) (w.alloc (.cells #[.string x, .string y] 69))) := Lib.hid (RetP.no (fun h => by have := (HP.out.1 h).1.1; rw [h1] at this; cases this) (HA.out _))
    rw [h1] at HX
    clear h1 HP
    go_enter Try.func56, Try.ntmps56
    go_wp2_with (go_at_call 54; refine (HX.out _).mono ?_; rintro e w' ⟨rfl, rfl⟩)
    go_ret
    exact F.out
  · cases h2 : wordOkB k y
    · have F : Hid (RetP pp w (.returned (.bool false)) (w.alloc (.cells #[.string x, .string y] 69))) := Lib.hid (RetP.no (fun h => by have := (HP.out.1 h).1.2; rw [h2] at this; cases this) (HA.out _))
      rw [h1] at HX
      rw [h2] at HY
      clear h1 h2 HP
      go_enter Try.func56, Try.ntmps56
      go_wp2_with fail
      refine (HX.out _).mono ?_
      rintro e w' ⟨rfl, rfl⟩
      go_wp2_with fail
      refine (HY.out _).mono ?_
      rintro e w' ⟨rfl, rfl⟩
      go_wp2_with fail
      go_ret
      exact F.out
    · by_cases h3 : x.size ≤ 8 ∧ y.size ≤ 8
      · have F : Hid (RetP pp w (.returned (.bool true)) (w.alloc (.cells #[.string x, .string y] 69))) := Lib.hid (RetP.yes (HP.out.2 ⟨⟨h1, h2⟩, h3⟩) (HA.out _))
        obtain ⟨h3, h4⟩ := h3
        rw [h1] at HX
        rw [h2] at HY
        clear h1 h2 HP
        have n1 : (x.size : Int) ≤ 8 := by omega
        have n2 : (y.size : Int) ≤ 8 := by omega
        go_enter Try.func56, Try.ntmps56
        go_wp2_with fail
        refine (HX.out _).mono ?_
        rintro e w' ⟨rfl, rfl⟩
        go_wp2_with fail
        refine (HY.out _).mono ?_
        rintro e w' ⟨rfl, rfl⟩
        go_wp2_with fail
        go_ret
        exact F.out
      · have F : Hid (RetP pp w (.returned (.bool false)) (w.alloc (.cells #[.string x, .string y] 69))) := Lib.hid (RetP.no (fun h => h3 (HP.out.1 h).2) (HA.out _))
        rw [h1] at HX
        rw [h2] at HY
        clear h1 h2 HP
        by_cases h4 : (x.size : Int) ≤ 8
        · have n2 : decide ((y.size : Int) ≤ 8) = false := decide_eq_false (by omega)
          go_enter Try.func56, Try.ntmps56
          go_wp2_with fail
          refine (HX.out _).mono ?_
          rintro e w' ⟨rfl, rfl⟩
          go_wp2_with fail
          refine (HY.out _).mono ?_
          rintro e w' ⟨rfl, rfl⟩
          go_wp2_with fail
          go_ret
          exact F.out
        · go_enter Try.func56, Try.ntmps56
          go_wp2_with fail
          refine (HX.out _).mono ?_
          rintro e w' ⟨rfl, rfl⟩
          go_wp2_with fail
          refine (HY.out _).mono ?_
          rintro e w' ⟨rfl, rfl⟩
          go_wp2_with fail
          go_ret
          exact F.out
theorem size_zero0 {u : ByteArray} (h : u.size = 0) : u = ⟨#[]⟩ := by
  obtain ⟨⟨x⟩⟩ := u
  cases x with
  | nil => rfl
  | cons a t => simp [ByteArray.size] at h
theorem alloc_belowS (w : World) (o : Obj) : Below w.heap.size w (w.alloc o) := (Below.refl _ _).alloc (Nat.le_refl _) _
/-- the cells of a block that holds a system -/
theorem sys_cells {W : World} {g : Nat} {u v : Value} {T : TypeId} (h : W.heap[g]? = some (.cells #[u, v] T (0, 0))) : W.cell? ⟨g, 0, none⟩ = some u ∧ W.cell? ⟨g, 1, none⟩ = some v := by
  refine ⟨by simp [World.cell?, h], by simp [World.cell?, h]⟩
set_option maxRecDepth 20000 in
set_option maxHeartbeats 1000000 in
theorem specRulesOk_any (k : Int) (l : List RulD) (a : Option Addr) (cap : Nat) (w : World) (hl : RulesIn w a l) (hlen : l.length ≤ 2 ^ 40) (hz : SzR l) :
    Calls Try.prog 41 #[.agg #[.int .i64 k, .slice a l.length cap]] w (RetP (rulesP k l) w) := by
  have HL := Lib.hid hl
  have HZ := Lib.hid hz
  have P1 := Lib.hid (fun W => l01In_any k 1 4 W)
  clear hl hz
  cases hb : inB k 1 4
  · have F : Hid (¬ rulesP k l) := Lib.hid (fun h => by have := h.1.1; simp [inB] at hb; omega)
    rw [hb] at P1
    clear hb
    go_enter Try.func41, Try.ntmps41
    go_wp2_with (go_at_call 45; refine (P1.out _).mono ?_; rintro e w' ⟨rfl, rfl⟩)
    go_ret
    exact RetP.no F.out ((Below.refl _ _).alloc (Nat.le_refl _) _)
  · have hb2 := inB_bounds hb
    rw [hb] at P1
    clear hb
    by_cases h12 : l.length ≤ 12
    · have n1 : ¬ (12 : Int) < (l.length : Int) := by omega
      have HST : Hid (∀ W : World, Below W.heap.size W (W.alloc (.cells #[.int .i64 k, .slice a l.length cap] 52))) := Lib.hid (fun W => (Below.refl _ _).alloc (Nat.le_refl _) _)
      have HB0 : Hid ((w.alloc (.cells #[.int .i64 k, .slice a l.length cap] 52)).heap[w.heap.size]? = some (.cells #[.int .i64 k, .slice a l.length cap] 52 (0, 0))) := Lib.hid (alloc_at _ _)
      go_enter Try.func41, Try.ntmps41
      go_wp2_with (go_at_call 45; refine (P1.out _).mono ?_; rintro e w' ⟨rfl, rfl⟩)
      clear P1 n1
      go_loopw [18] (fun i wr => ∃ j : Nat, j ≤ l.length ∧ i = .int .i64 (j : Nat) ∧ Hid (∀ j', j' < j → ruleP k (nthR l j')) ∧ Below (w.alloc (.cells #[.int .i64 k, .slice a l.length cap] 52)).heap.size (w.alloc (.cells #[.int .i64 k, .slice a l.length cap] 52)) wr) (fun i _ => l.length - (intOf i).toNat)
      case atStart => exact ⟨0, Nat.zero_le _, rfl, Lib.hid (fun j' h => absurd h (Nat.not_lt_zero _)), Below.refl _ _⟩
      case round =>
        obtain ⟨j, hj, rfl, hall, hbw⟩ := hrel
        have hbw1 := Below.now (HST.out w) hbw
        have hs0 := hbw.size
        have hb0 := (hbw.block w.heap.size (by simp)).trans HB0.out
        obtain ⟨s0, s1⟩ := sys_cells hb0
        have s0a : ∀ o, (wr.alloc o).cell? ⟨w.heap.size, 0, none⟩ = some (.int .i64 k) := fun o => by rw [(alloc_belowS wr o).cell (World.block_lt_of_cell? wr _ s0)]; exact s0
        have HBW := Lib.hid hbw
        clear hb0
        by_cases hlt : j < l.length
        · obtain ⟨b, off, rfl, hb, hc⟩ := (HL.out.later hbw1).cell hlt
          obtain ⟨c1, c2⟩ := hc j hlt
          obtain ⟨z1, z2⟩ := HZ.out j hlt
          have HR : Hid (ruleP k (nthR l j) ↔ sideP k ((nthR l j).1, (nthR l j).2) ∧ (nthR l j).1.size ≠ 0) := Lib.hid Iff.rfl
          have HNO : Hid (¬ ruleP k (nthR l j) → ¬ rulesP k l) := Lib.hid (fun h h2 => h (h2.2 _ (nthR_mem hlt)))
          have HYE : Hid (ruleP k (nthR l j) → ∀ j', j' < j + 1 → ruleP k (nthR l j')) := Lib.hid (fun h j' hj' => by
            by_cases e : j' = j
            · rw [e]; exact h
            · exact hall.out j' (by omega))
          clear hc hbw
          generalize ruleP k (nthR l j) = pp at *
          generalize (nthR l j).1 = x at *
          generalize (nthR l j).2 = y at *
          have HSD := Lib.hid (fun W => specSidesOk_any k x y W z1 z2)
          generalize sideP k (x, y) = sp at *
          go_wp2_with fail
          refine (HSD.out _).mono ?_
          rintro e w2 ⟨bb, hbb, rfl, hb2⟩
          have HBB := Lib.hid hbb
          have hw1s : (wr.alloc (.cells #[.string x, .string y] 69)).heap.size = wr.heap.size + 1 := by simp
          have hcx : w2.cell? ⟨wr.heap.size, 0, none⟩ = some (.string x) := by rw [hb2.cell (by simp)]; simp [World.cell?_alloc_new]
          have HW2 : Hid (Below (w.alloc (.cells #[.int .i64 k, .slice (some ⟨b, off, none⟩) l.length cap] 52)).heap.size (w.alloc (.cells #[.int .i64 k, .slice (some ⟨b, off, none⟩) l.length cap] 52)) w2) := Lib.hid (Below.now (HBW.out.alloc HBW.out.size _) hb2)
          clear hbb hb2 HSD s0 s0a s1 c1 c2 hw1s
          cases bb
          · have F := Lib.hid (HNO.out (fun h => by have := HBB.out.2 (HR.out.1 h).1; cases this))
            go_wp2_with fail
            go_ret
            exact RetP.no F.out (Below.now (HST.out w) HW2.out)
          · by_cases h0 : x.size = 0
            · have F := Lib.hid (HNO.out (fun h => (HR.out.1 h).2 h0))
              have n1 : (x.toList == []) = true := by rw [size_zero0 h0, Lib.toList_data]; rfl
              have n3 : x.toList = [] := by rw [size_zero0 h0, Lib.toList_data]
              clear h0
              go_wp2_with fail
              go_ret
              exact RetP.no F.out (Below.now (HST.out w) HW2.out)
            · have F := Lib.hid (HYE.out (HR.out.2 ⟨HBB.out.1 rfl, h0⟩))
              have hne : x.toList ≠ [] := fun h => h0 (by
                have h2 : x.data.toList = [] := by rw [← Lib.toList_data]; exact h
                have h3 : x.data.toList.length = 0 := by rw [h2]; rfl
                exact h3)
              have n1 : (x.toList == []) = false := by rw [beq_eq_false_iff_ne]; exact hne
              have n3 : x.toList.isEmpty = false := by rw [List.isEmpty_eq_false_iff]; exact hne
              clear h0 hne
              go_wp2_with fail
              go_roundw
              case rel => exact ⟨j + 1, by omega, by go_num, F, HW2.out⟩
              case measure => simp [intOf]; omega
        · have F : Hid (rulesP k l) := Lib.hid ⟨⟨hb2, h12⟩, fun r hr => by
            obtain ⟨i, hi, rfl⟩ := mem_nthR hr
            exact hall.out i (by omega)⟩
          go_wp2_with fail
          go_ret
          exact RetP.yes F.out hbw1
    · have F : Hid (¬ rulesP k l) := Lib.hid (fun h => h12 h.1.2)
      have n1 : (12 : Int) < (l.length : Int) := by omega
      clear h12
      go_enter Try.func41, Try.ntmps41
      go_wp2_with (go_at_call 45; refine (P1.out _).mono ?_; rintro e w' ⟨rfl, rfl⟩)
      go_ret
      exact RetP.no F.out ((Below.refl _ _).alloc (Nat.le_refl _) _)
end Go.Proofs.Ytdhaebbfiaddnaa
namespace Go.Proofs.Ytdhaebbfiaddnaa
open Go.RowKit
set_option linter.unusedVariables false
theorem empty_facts {x : ByteArray} (h : x.size = 0) : (x.toList == []) = true ∧ x.toList = [] := by
  rw [size_zero0 h, Lib.toList_data]; exact ⟨rfl, rfl⟩
theorem full_facts {x : ByteArray} (h : ¬ x.size = 0) : (x.toList == []) = false ∧ x.toList.isEmpty = false := by
  have hne : x.toList ≠ [] := fun h1 => h (by
    have h2 : x.data.toList = [] := by rw [← Lib.toList_data]; exact h1
    have h3 : x.data.toList.length = 0 := by rw [h2]; rfl
    exact h3)
  exact ⟨by rw [beq_eq_false_iff_ne]; exact hne, by rw [List.isEmpty_eq_false_iff]; exact hne⟩
theorem rulesP_iff {k : Int} {l : List RulD} (h1 : 1 ≤ k ∧ k ≤ 4) (h2 : l.length ≤ 12) : rulesP k l ↔ ¬ ∃ r ∈ l, ¬ ruleP k r := by
  constructor
  · rintro h ⟨r, hr, hn⟩; exact hn (h.2 r hr)
  · intro h; exact ⟨⟨h1, h2⟩, fun r hr => Classical.byContradiction fun hn => h ⟨r, hr, hn⟩⟩
theorem sysP_iff {k : Int} {l : List RulD} (h : rulesP k l) : sysP k l ↔ ¬ ∃ r ∈ l, ¬ lessS r.2 r.1 = true := by
  constructor
  · rintro h ⟨r, hr, hn⟩; exact hn (h.2 r hr)
  · intro h2; exact ⟨h, fun r hr => Classical.byContradiction fun hn => h2 ⟨r, hr, hn⟩⟩
set_option maxRecDepth 20000 in
set_option maxHeartbeats 1000000 in
theorem specSystemOk_any (k : Int) (l : List RulD) (a : Option Addr) (cap : Nat) (w : World) (hl : RulesIn w a l) (hlen : l.length ≤ 2 ^ 40) (hz : SzR l) :
    Calls Try.prog 57 #[.agg #[.int .i64 k, .slice a l.length cap]] w (RetP (sysP k l) w) := by
  have HL := Lib.hid hl
  have HZ := Lib.hid hz
  have HR := Lib.hid (fun W h => specRulesOk_any k l a cap W h hlen hz)
  have HA := Lib.hid (fun o => alloc_belowS w o)
  clear hl hz
  go_enter Try.func57, Try.ntmps57
  go_wp2_with fail
  refine (HR.out _ (HL.out.later (HA.out _))).mono ?_
  rintro e w2 ⟨bb, hbb, rfl, hb2⟩
  have HBB := Lib.hid hbb
  have hb0 := (hb2.block w.heap.size (by simp)).trans (alloc_at w (.cells #[.int .i64 k, .slice a l.length cap] 52))
  obtain ⟨s0, s1⟩ := sys_cells hb0
  have HW2 := Lib.hid (Below.now (HA.out _) hb2)
  clear hbb hb2 HR hb0
  cases bb
  · have F : Hid (RetP (sysP k l) w (.returned (.bool false)) w2) := Lib.hid (RetP.no (fun h => by have := HBB.out.2 h.1; cases this) HW2.out)
    go_wp2_with fail
    go_ret
    exact F.out
  · have HRP := Lib.hid (HBB.out.1 rfl)
    clear HBB
    go_wp2_with fail
    clear s0 s1
    go_loopw [11] (fun i wr => ∃ j : Nat, j ≤ l.length ∧ i = .int .i64 (j : Nat) ∧ Hid (∀ j', j' < j → lessS (nthR l j').2 (nthR l j').1 = true) ∧ Below w.heap.size w wr) (fun i _ => l.length - (intOf i).toNat)
    case atStart => exact ⟨0, Nat.zero_le _, rfl, Lib.hid (fun j' h => absurd h (Nat.not_lt_zero _)), HW2.out⟩
    case round =>
      obtain ⟨j, hj, rfl, hall, hbw⟩ := hrel
      have HBW := Lib.hid hbw
      by_cases hlt : j < l.length
      · obtain ⟨b, off, rfl, hb, hc⟩ := (HL.out.later hbw).cell hlt
        obtain ⟨c1, c2⟩ := hc j hlt
        obtain ⟨z1, z2⟩ := HZ.out j hlt
        have HNO : Hid (¬ lessS (nthR l j).2 (nthR l j).1 = true → ¬ sysP k l) := Lib.hid (fun h h2 => h (h2.2 _ (nthR_mem hlt)))
        have HYE : Hid (lessS (nthR l j).2 (nthR l j).1 = true → ∀ j', j' < j + 1 → lessS (nthR l j').2 (nthR l j').1 = true) := Lib.hid (fun h j' hj' => by
          by_cases e : j' = j
          · rw [e]; exact h
          · exact hall.out j' (by omega))
        clear hc hbw
        generalize (nthR l j).1 = x at *
        generalize (nthR l j).2 = y at *
        have HLS := Lib.hid (fun W => specIsLess_any y x W z2 z1)
        cases hq : lessS y x
        · have F := Lib.hid (HNO.out (by rw [hq]; simp))
          rw [hq] at HLS
          clear hq HNO HYE
          go_wp2_with (go_at_call 65; refine (HLS.out _).mono ?_; rintro e w' ⟨rfl, rfl⟩)
          go_ret
          exact RetP.no F.out (HBW.out.alloc HBW.out.size _)
        · have F := Lib.hid (HYE.out hq)
          rw [hq] at HLS
          clear hq HNO HYE
          go_wp2_with (go_at_call 65; refine (HLS.out _).mono ?_; rintro e w' ⟨rfl, rfl⟩)
          go_roundw
          case rel => exact ⟨j + 1, by omega, by go_num, F, HBW.out.alloc HBW.out.size _⟩
          case measure => simp [intOf]; omega
      · have F : Hid (sysP k l) := Lib.hid ⟨HRP.out, fun r hr => by
          obtain ⟨i, hi, rfl⟩ := mem_nthR hr
          exact hall.out i (by omega)⟩
        go_wp2_with fail
        go_ret
        exact RetP.yes F.out HBW.out
/-- the length of the longest Left of the first j rules -/
def lsTo (l : List RulD) : Nat → Nat
  | 0 => 0
  | j + 1 => max (lsTo l j) (nthR l j).1.size
def lsL (l : List RulD) : Nat := lsTo l l.length
theorem lsTo_le {l : List RulD} (hz : SzR l) : ∀ j, j ≤ l.length → lsTo l j ≤ maxLen
  | 0, _ => by unfold lsTo maxLen; omega
  | j + 1, h => by
    have h1 := lsTo_le hz j (by omega)
    have h2 := (hz j (by omega)).1
    show max _ _ ≤ _
    omega
set_option maxRecDepth 20000 in
set_option maxHeartbeats 1000000 in
theorem specLongestSide_any (k : Int) (l : List RulD) (a : Option Addr) (cap : Nat) (w : World) (hl : RulesIn w a l) (hlen : l.length ≤ 2 ^ 40) (hz : SzR l) :
    Calls Try.prog 74 #[.agg #[.int .i64 k, .slice a l.length cap]] w fun e w' => e = .returned (.int .i64 (lsL l : Nat)) ∧ Below w.heap.size w w' := by
  have HL := Lib.hid hl
  have HZ := Lib.hid hz
  have HA := Lib.hid (fun o => alloc_belowS w o)
  clear hl hz
  go_enter Try.func74, Try.ntmps74
  go_wp2_with fail
  go_loopw [3, 9] (fun v i wr => ∃ j m : Nat, j ≤ l.length ∧ i = .int .i64 (j : Nat) ∧ v = .int .i64 (m : Nat) ∧ Hid (m = lsTo l j) ∧ m ≤ 9223372036854775807 ∧ Below w.heap.size w wr) (fun _ i _ => l.length - (intOf i).toNat)
  case atStart => exact ⟨0, 0, Nat.zero_le _, rfl, rfl, Lib.hid rfl, by omega, HA.out _⟩
  case round =>
    obtain ⟨j, m, hj, rfl, rfl, hm, hm9, hbw⟩ := hrel
    have HBW := Lib.hid hbw
    by_cases hlt : j < l.length
    · obtain ⟨b, off, rfl, hb, hc⟩ := (HL.out.later hbw).cell hlt
      obtain ⟨c1, c2⟩ := hc j hlt
      obtain ⟨z1, z2⟩ := HZ.out j hlt
      have F : Hid (lsTo l (j + 1) = max (lsTo l j) (nthR l j).1.size) := Lib.hid rfl
      rw [← hm.out] at F
      unfold maxLen at z1
      clear hc hbw
      generalize (nthR l j).1 = x at *
      generalize (nthR l j).2 = y at *
      have HMX : Hid (((max m x.size : Nat) : Int) = max (m : Int) (x.size : Int)) := Lib.hid (by omega)
      have hmx : max m x.size ≤ 9223372036854775807 := by omega
      go_wp2_with fail
      go_roundw
      case rel => exact ⟨j + 1, max m x.size, by omega, by go_num, by first | (rw [HMX.out]) | (simp; omega), Lib.hid F.out.symm, hmx, HBW.out.alloc HBW.out.size _⟩
      case measure => simp [intOf]; omega
    · obtain rfl : j = l.length := by omega
      have F : Hid ((m : Int) = (lsL l : Nat)) := Lib.hid (by rw [hm.out]; rfl)
      go_wp2_with fail
      go_ret
      exact ⟨ret_int F.out, HBW.out⟩
end Go.Proofs.Ytdhaebbfiaddnaa
namespace Go.Proofs.Ytdhaebbfiaddnaa
open Go.RowKit
set_option linter.unusedVariables false
/-- a text of one byte -/
def oneB (x : Int) : ByteArray := ⟨#[UInt8.ofNat x.toNat]⟩
theorem conv_one (w : World) (x : Int) :
    (convert 22 9 (.slice (some ⟨w.heap.size, 0, none⟩) 1 1)).run Try.prog (w.alloc (.cells #[.int .u8 x] 5)) = .ok (.string (oneB x)) (w.alloc (.cells #[.int .u8 x] 5)) :=
  run_convert_bytes_arg (P := Try.prog) (w.alloc (.cells #[.int .u8 x] 5)) 22 5 Try.underlying22 Try.underlying5 w.heap.size 0 1 1 [x] rfl (fun i hi => by
    obtain rfl : i = 0 := by omega
    simp) 9 Try.underlying9
theorem conv_at (w : World) (g : Nat) (x : Int) (h : w.cell? ⟨g, 0, none⟩ = some (.int .u8 x)) :
    (convert 22 9 (.slice (some ⟨g, 0, none⟩) 1 1)).run Try.prog w = .ok (.string (oneB x)) w :=
  run_convert_bytes_arg (P := Try.prog) w 22 5 Try.underlying22 Try.underlying5 g 0 1 1 [x] rfl (fun i hi => by
    obtain rfl : i = 0 := by omega
    exact h) 9 Try.underlying9
theorem conv_drew (w : World) (x : Int) :
    (convert 22 9 (.slice (some ⟨w.heap.size, 0, none⟩) 1 1)).run Try.prog (w.alloc (.cells #[.int .u8 x] 5)).drew = .ok (.string (oneB x)) (w.alloc (.cells #[.int .u8 x] 5)).drew := conv_at _ _ _ (by simp)
theorem last_digit (m : Nat) : oneB (IntKind.u8.wrap (IntKind.i64.wrap (48 + (m : Int).tmod 10))) = ⟨#[UInt8.ofNat (48 + m % 10)]⟩ := by
  have h1 : (m : Int).tmod 10 = ((m % 10 : Nat) : Int) := by rw [Int.tmod_eq_emod_of_nonneg (by omega)]; simp
  have h2 : IntKind.i64.wrap (48 + ((m % 10 : Nat) : Int)) = ((48 + m % 10 : Nat) : Int) := by
    simp [IntKind.wrap, IntKind.signed, IntKind.bits]; omega
  have h3 : IntKind.u8.wrap ((48 + m % 10 : Nat) : Int) = ((48 + m % 10 : Nat) : Int) := by
    simp [IntKind.wrap, IntKind.signed, IntKind.bits]; omega
  rw [h1, h2, h3]; rfl
theorem wrap_id {x : Int} (h0 : -9223372036854775808 ≤ x) (h1 : x ≤ 9223372036854775807) : IntKind.i64.wrap x = x := by
  simp [IntKind.wrap, IntKind.signed, IntKind.bits]; omega
theorem oneB_size (x : Int) : (oneB x).size = 1 := rfl
theorem oneB_app (x : Int) (t : List UInt8) : oneB x ++ ⟨t.toArray⟩ = ⟨(UInt8.ofNat x.toNat :: t).toArray⟩ := by ext1; simp [oneB]
theorem app_oneB (x : Int) (t : List UInt8) : (⟨t.toArray⟩ : ByteArray) ++ oneB x = ⟨(t ++ [UInt8.ofNat x.toNat]).toArray⟩ := by ext1; simp [oneB]
theorem nDigits_le : ∀ (k n : Nat), n < 10 ^ (k + 1) → Lib.nDigits n ≤ k + 1
  | 0, n, h => by rw [Lib.nDigits_small (by omega)]; omega
  | k + 1, n, h => by
    by_cases h1 : n < 10
    · rw [Lib.nDigits_small h1]; omega
    · rw [Lib.nDigits_big h1]
      have := nDigits_le k (n / 10) (by rw [Nat.pow_succ] at h; omega)
      omega
theorem decDigits_len {n : Nat} (h : n ≤ 9223372036854775808) : (Lib.decDigits n).length ≤ 20 := by
  rw [Lib.decDigits_length]; exact nDigits_le 19 n (by omega)
theorem decDigits_big {k : Nat} (h : 9 < k) : Lib.decDigits k = Lib.decDigits (k / 10) ++ [UInt8.ofNat (48 + k % 10)] := by
  rw [Lib.decDigits, dif_neg (by omega)]
theorem decDigits_small {u : Nat} (h : u < 10) : Lib.decDigits u = [UInt8.ofNat (48 + u)] := Lib.decDigits_one h
theorem itoa_nat (n : Nat) : Lib.itoa (n : Int) = Lib.decDigits n := by unfold Lib.itoa; rw [if_neg (by omega)]; rfl
theorem itoa_neg {n : Nat} (h : 1 ≤ n) : Lib.itoa (-(n : Int)) = 45 :: Lib.decDigits n := by unfold Lib.itoa; rw [if_pos (by omega)]; simp
set_option maxRecDepth 20000 in
set_option maxHeartbeats 800000 in
theorem fmtIntNat_any (n : Nat) (w : World) (hn : n ≤ 9223372036854775807) :
    Calls Try.prog 53 #[.int .i64 n] w fun e w' => e = .returned (.string ⟨(Lib.itoa n).toArray⟩) ∧ Below w.heap.size w w' := by
  have kc := conv_one
  go_enter Try.func53, Try.ntmps53
  go_wp2_with fail
  go_loopw [0, 3] (fun v s wr => ∃ (k : Nat) (t : List UInt8), v = .int .i64 k ∧ s = .string ⟨t.toArray⟩ ∧ k ≤ n ∧ Lib.decDigits n = Lib.decDigits k ++ t ∧ t.length ≤ 20 ∧ Below w.heap.size w wr) (fun v _ _ => (intOf v).toNat)
  case atStart => exact ⟨n, [], rfl, rfl, Nat.le_refl _, by simp, by simp, Below.refl _ _⟩
  case round =>
    obtain ⟨k, t, rfl, rfl, hk, hd, ht, hbw⟩ := hrel
    have HD := Lib.hid hd
    have hdl := decDigits_len (n := n) (by omega)
    have hos := oneB_size
    rw [hd, List.length_append] at hdl
    clear hd ht
    by_cases hlt : 9 < k
    · have hb := decDigits_big hlt
      have hl1 : (Lib.decDigits k).length = (Lib.decDigits (k / 10)).length + 1 := by rw [hb]; simp
      have HB := Lib.hid hb
      clear hb
      go_wp2_with fail
      go_roundw
      case rel =>
        refine ⟨k / 10, UInt8.ofNat (48 + k % 10) :: t, by simp, ?_, by omega, ?_, ?_, hbw.alloc hbw.size _⟩
        · rw [oneB_app, show (48 + (k : Int) % 10).toNat = 48 + k % 10 by omega]
        · rw [HD.out, HB.out]; simp
        · simp; omega
      case measure => simp [intOf]; omega
    · have hb := decDigits_small (u := k) (by omega)
      have F : Hid (oneB (48 + (k : Int)) ++ ⟨t.toArray⟩ = ⟨(Lib.itoa n).toArray⟩) := Lib.hid (by
        rw [oneB_app, itoa_nat, HD.out, hb, show (48 + (k : Int)).toNat = 48 + k by omega]; rfl)
      clear hb
      go_wp2_with fail
      go_ret
      exact ⟨ret_str F.out, hbw.alloc hbw.size _⟩
set_option maxRecDepth 20000 in
set_option maxHeartbeats 800000 in
theorem fmtIntNeg_any : ∀ (N m : Nat) (w : World), m ≤ N → 1 ≤ m → m ≤ 9223372036854775808 →
    Calls Try.prog 53 #[.int .i64 (-(m : Int))] w fun e w' => e = .returned (.string ⟨(Lib.itoa (-(m : Int))).toArray⟩) ∧ Below w.heap.size w w'
  | 0, m, w, h, h1, _ => by omega
  | N + 1, m, w, h, h1, hm => by
    have kc := conv_one
    have hos := oneB_size
    have hdl := decDigits_len (n := m) hm
    by_cases hlt : m < 10
    · have hq : Int.tdiv (-(m : Int)) 10 = 0 := by rw [Int.neg_tdiv]; simp; omega
      have F : Hid ((⟨#[45]⟩ : ByteArray) ++ oneB (48 + (m : Int)) = ⟨(Lib.itoa (-(m : Int))).toArray⟩) := Lib.hid (by
        rw [itoa_neg h1, decDigits_small hlt, show (48 + (m : Int)) = ((48 + m : Nat) : Int) by simp]; rfl)
      go_enter Try.func53, Try.ntmps53
      go_wp2_with fail
      go_ret
      exact ⟨ret_str F.out, (Below.refl _ _).alloc (Nat.le_refl _) _⟩
    · have hih : ∀ w, Calls Try.prog 53 #[.int .i64 (-((m : Int) / 10))] w fun e w' => e = .returned (.string ⟨(45 :: Lib.decDigits (m / 10)).toArray⟩) ∧ Below w.heap.size w w' := fun w => by
        have := fmtIntNeg_any N (m / 10) w (by omega) (by omega) (by omega)
        rw [itoa_neg (by omega)] at this
        simpa using this
      have HIH := fun w => Lib.hid (hih w)
      have hl10 := decDigits_len (n := m / 10) (by omega)
      have kd := conv_drew
      have F : Hid ((⟨(45 :: Lib.decDigits (m / 10)).toArray⟩ : ByteArray) ++ oneB (IntKind.u8.wrap (IntKind.i64.wrap (48 + (m : Int).tmod 10))) = ⟨(Lib.itoa (-(m : Int))).toArray⟩) := Lib.hid (by
        rw [last_digit, itoa_neg h1, decDigits_big (k := m) (by omega)]; ext1; simp)
      have F2 : Hid ((⟨(45 :: Lib.decDigits (m / 10)).toArray⟩ : ByteArray) ++ oneB (48 + (m : Int) % 10) = ⟨(Lib.itoa (-(m : Int))).toArray⟩) := Lib.hid (by
        rw [show oneB (48 + (m : Int) % 10) = ⟨#[UInt8.ofNat (48 + m % 10)]⟩ by unfold oneB; rw [show (48 + (m : Int) % 10).toNat = 48 + m % 10 by omega], itoa_neg h1, decDigits_big (k := m) (by omega)]; ext1; simp)
      have hl11 : ¬ 9223372036854775807 < (Lib.decDigits (m / 10)).length + 1 + 1 := by omega
      clear hih
      go_enter Try.func53, Try.ntmps53
      go_wp2_with fail
      go_region_with (go_at_call 53; rw [wrap_id (by omega) (by omega)]; refine (HIH _).out.mono ?_; rintro e w2 ⟨rfl, hb2⟩; (try have kc2 := conv_at w2 w.heap.size _ ((hb2.cell (by simp)).trans (by simp; rfl))); have hk : Below w.heap.size w w2 := Below.now (by repeat (first | exact Below.refl _ _ | refine Below.drew ?_ | refine Below.alloc ?_ (by simp; try omega) _)) hb2; clear hb2)
      all_goals
        go_wp2_with fail
        go_ret
        exact ⟨ret_str (by first | exact F.out | exact F2.out), by repeat (first | exact hk | refine Below.drew ?_ | refine Below.alloc ?_ (by have := hk.size; simp; try omega) _)⟩
theorem specFormatInt_any (n : Int) (w : World) (h0 : -9223372036854775808 ≤ n) (h1 : n ≤ 9223372036854775807) :
    Calls Try.prog 53 #[.int .i64 n] w fun e w' => e = .returned (.string ⟨(Lib.itoa n).toArray⟩) ∧ Below w.heap.size w w' := by
  by_cases h : 0 ≤ n
  · obtain ⟨k, rfl⟩ : ∃ k : Nat, n = (k : Int) := ⟨n.toNat, by omega⟩
    exact fmtIntNat_any k w (by omega)
  · obtain ⟨k, rfl⟩ : ∃ k : Nat, n = -(k : Int) := ⟨(-n).toNat, by omega⟩
    exact fmtIntNeg_any k k w (Nat.le_refl _) (by omega) (by omega)
end Go.Proofs.Ytdhaebbfiaddnaa
namespace Go.Proofs.Ytdhaebbfiaddnaa
open Go.RowKit Go.ChangeShapes Go.WideShapes Go.ChangeAt Go.Joins Go.Deep
set_option linter.unusedVariables false
theorem Try.infoRule : (Try.prog.info? 69).map (fun i => (i.zero, i.size, i.bytes)) = some (some (.agg #[.string ⟨#[]⟩, .string ⟨#[]⟩]), 2, 32) := by kernel_rfl
/-- what szRuleS hands back -/
def szRF (left : Int) (l : List RulD) : Int := if left < (l.length : Int) + ruleSum l then -1 else left - l.length - ruleSum l
theorem szRF_big {left : Int} {l : List RulD} (h : left < (l.length : Int) + ruleSum l) : szRF left l = -1 := by simp [szRF, h]
theorem szRF_ok {left : Int} {l : List RulD} (h : ¬ left < (l.length : Int) + ruleSum l) : szRF left l = left - l.length - ruleSum l := by simp only [szRF, if_neg h]
def szR1 (left : Int) (x y : ByteArray) : Int := if left < (x.size : Int) + y.size then -1 else left - x.size - y.size
/-- what toSystem hands back -/
def RetSys (T : TypeId) (k : Int) (l : List RulD) (w : World) (e : Ending) (w' : World) : Prop :=
  ∃ a cap, e = .returned (.agg #[.int .i64 k, .slice a l.length cap]) ∧ w'.ownsRow w.heap.size T 2 (.slice a l.length cap) l.length (ruleCells l) ∧ Below w.heap.size w w'
end Go.Proofs.Ytdhaebbfiaddnaa
