/-
  RulesOk and SystemOk of the program, SystemOk of the reference, LongestSide of both.
-/
import Derived.Test.YtoddpmdjjgnpgaaGreatDoorGra03
import Derived.Shelf.Abstract
namespace Go.Proofs.YtoddpmdjjgnpgaaGreatDoor
open Go.RowKit
set_option linter.unusedVariables false
def sideP (k : Int) (r : RulD) : Prop := (wordOkB k r.1 = true ∧ wordOkB k r.2 = true) ∧ r.1.size ≤ 8 ∧ r.2.size ≤ 8
def ruleP (k : Int) (r : RulD) : Prop := sideP k r ∧ r.1.size ≠ 0
def rulesP (k : Int) (R : List RulD) : Prop := ((1 ≤ k ∧ k ≤ 4) ∧ R.length ≤ 12) ∧ ∀ r ∈ R, ruleP k r
def sysP (k : Int) (R : List RulD) : Prop := rulesP k R ∧ ∀ r ∈ R, lessS r.2 r.1 = true
/-- what is asked of a system's rules so that they can be measured -/
def SzR (R : List RulD) : Prop := ∀ j, j < R.length → (nthR R j).1.size ≤ maxLen ∧ (nthR R j).2.size ≤ maxLen
theorem cfW_less (a b : ByteArray) : decide (cfW a b < 0) = lessS a b := by
  have h1 : (blW a).length = a.size := rfl
  have h2 : (blW b).length = b.size := rfl
  have h3 : a.toList = blW a := Lib.toList_data a
  have h4 : b.toList = blW b := Lib.toList_data b
  unfold cfW orF cmpS Lib.compareInt lessS ltW
  rw [h3, h4, ← h1, ← h2, bytesLess_eq]
  generalize blW a = x
  generalize blW b = y
  by_cases a1 : x.length < y.length
  · simp [a1]
  · by_cases a2 : y.length < x.length
    · have a3 : ¬ x.length = y.length := by omega
      simp [a1, a2, a3]
    · have a3 : x.length = y.length := by omega
      by_cases a4 : x < y
      · simp [a3, a4]
      · by_cases a5 : x = y
        · subst a5
          simp [List.lt_irrefl]
        · simp [a3, a4, a5]
set_option maxHeartbeats 400000 in
theorem implIsLess_any (u v : ByteArray) (w : World) :
    Calls Tryz.prog 19 #[.string u, .string v] w fun e w' => e = .returned (.bool (lessS u v)) ∧ Below w.heap.size w w' := by
  have F := Lib.hid (cfW_less u v)
  have HC := Lib.hid (fun W => compareWords_any u v W)
  generalize cfW u v = c at *
  go_enter Tryz.func19, Tryz.ntmps19
  go_wp2_with fail
  refine (HC.out _).mono ?_
  rintro e w' ⟨rfl, o, rfl⟩
  go_wp2_with fail
  go_ret
  exact ⟨ret_bool F.out, (Below.refl _ _).alloc (Nat.le_refl _) _⟩
/-- a function value that tells q of each rule, in every world that is as w below block B -/
def PredR (B : Nat) (g : Nat) (caps : Array Value) (q : RulD → Prop) (l : List RulD) (w : World) : Prop :=
  ∀ j, j < l.length → ∀ W, Below B w W → Calls Tryz.prog g (#[.agg #[.string (nthR l j).1, .string (nthR l j).2]] ++ caps) W (RetP (q (nthR l j)) W)
def RetIx (P : Prop) (w : World) (e : Ending) (w' : World) : Prop := ∃ i : Int, (0 ≤ i ↔ P) ∧ e = .returned (.int .i64 i) ∧ Below w.heap.size w w'
set_option maxHeartbeats 400000 in
theorem indexFuncR_any (g : Nat) (caps : Array Value) (q : RulD → Prop) (l : List RulD) (a : Option Addr) (cap : Nat) (w : World) (hl : RulesIn w a l) (hlen : l.length ≤ 2 ^ 40)
    (B : Nat) (hB : B ≤ w.heap.size) (hf : PredR B g caps q l w) (eg : ∀ args w, (callFunc g args).run Tryz.prog w = .ok (.enter g args) w) :
    Calls Tryz.prog 137 #[.slice a l.length cap, .func (.func g) #[] caps] w (RetIx (∃ r ∈ l, q r) w) := by
  have HF := Lib.hid hf
  have HL := Lib.hid hl
  clear hf hl
  go_enter Tryz.func137, Tryz.ntmps137
  go_wp2
  go_loopw [8] (fun i wr => ∃ j : Nat, j ≤ l.length ∧ i = .int .i64 j ∧ Hid (∀ j', j' < j → ¬ q (nthR l j')) ∧ Below w.heap.size w wr) (fun i _ => l.length - (intOf i).toNat)
  case atStart => exact ⟨0, Nat.zero_le _, rfl, Lib.hid (fun j' h => absurd h (Nat.not_lt_zero _)), Below.refl _ _⟩
  case round =>
    obtain ⟨j, hj, rfl, hno, hbel⟩ := hrel
    by_cases hlt : j < l.length
    · obtain ⟨b, off, rfl, hb, hc⟩ := (HL.out.later hbel).cell hlt
      obtain ⟨c1, c2⟩ := hc j hlt
      have HP := Lib.hid (HF.out j hlt _ (hbel.mono hB))
      have HY : Hid (q (nthR l j) → ∃ r ∈ l, q r) := Lib.hid (fun h => ⟨_, nthR_mem hlt, h⟩)
      have HN : Hid (¬ q (nthR l j) → ∀ j', j' < j + 1 → ¬ q (nthR l j')) := Lib.hid (fun h j' hj' => by
        by_cases e : j' = j
        · rw [e]; exact h
        · exact hno.out j' (by omega))
      clear hc
      generalize q (nthR l j) = qq at *
      generalize nthR l j = v at *
      go_wp2_with fail
      refine HP.out.mono ?_
      rintro e w2 ⟨bb, hbb, rfl, hb2⟩
      have HBB := Lib.hid hbb
      have HB2 := Lib.hid (Below.now hbel hb2)
      clear hbb hb2 HP
      cases bb
      · have F := Lib.hid (HN.out (fun h => by have := HBB.out.2 h; cases this))
        go_wp2_with fail
        go_roundw
        case rel => exact ⟨j + 1, by omega, by go_num, F, HB2.out⟩
        case measure => simp [intOf]; omega
      · have F : Hid (RetIx (∃ r ∈ l, q r) w (.returned (.int .i64 (j : Nat))) w2) := Lib.hid ⟨(j : Nat), ⟨fun _ => HY.out (HBB.out.1 rfl), fun _ => by omega⟩, rfl, HB2.out⟩
        go_wp2_with fail
        go_ret
        exact F.out
    · have F : Hid (RetIx (∃ r ∈ l, q r) w (.returned (.int .i64 (-1))) wr) := Lib.hid ⟨-1, ⟨fun h => by omega, fun ⟨r, h1, h2⟩ => by
        obtain ⟨i, hi, rfl⟩ := mem_nthR h1
        exact absurd h2 (hno.out i (by omega))⟩, rfl, hbel⟩
      go_wp2_with fail
      go_ret
      exact F.out
set_option maxHeartbeats 400000 in
theorem containsFuncR_any (g : Nat) (caps : Array Value) (q : RulD → Prop) (l : List RulD) (a : Option Addr) (cap : Nat) (w : World) (hl : RulesIn w a l) (hlen : l.length ≤ 2 ^ 40)
    (B : Nat) (hB : B ≤ w.heap.size) (hf : PredR B g caps q l w) (eg : ∀ args w, (callFunc g args).run Tryz.prog w = .ok (.enter g args) w) :
    Calls Tryz.prog 90 #[.slice a l.length cap, .func (.func g) #[] caps] w (RetP (∃ r ∈ l, q r) w) := by
  have HC := Lib.hid (indexFuncR_any g caps q l a cap w hl hlen B hB hf eg)
  clear hf eg hl
  go_enter Tryz.func90, Tryz.ntmps90
  go_wp2_with fail
  refine HC.out.mono ?_
  rintro e w2 ⟨i, hi, rfl, hb2⟩
  have F : Hid (RetP (∃ r ∈ l, q r) w (.returned (.bool (decide (0 ≤ i)))) w2) := Lib.hid ⟨decide (0 ≤ i), by rw [decide_eq_true_iff]; exact hi, rfl, hb2⟩
  clear hi hb2 HC
  go_wp2_with fail
  go_ret
  exact F.out
set_option maxHeartbeats 1000000 in
theorem specSidesOk_any (k : Int) (x y : ByteArray) (w : World) (hx : x.size ≤ maxLen) (hy : y.size ≤ maxLen) :
    Calls Tryz.prog 136 #[.int .i64 k, .agg #[.string x, .string y]] w (RetP (sideP k (x, y)) w) := by
  have HX := Lib.hid (fun W => specWordOk_any k x W hx)
  have HY := Lib.hid (fun W => specWordOk_any k y W hy)
  unfold maxLen at hx hy
  have HP : Hid (sideP k (x, y) ↔ (wordOkB k x = true ∧ wordOkB k y = true) ∧ x.size ≤ 8 ∧ y.size ≤ 8) := Lib.hid Iff.rfl
  have HA : Hid (∀ W, Below W.heap.size W (W.alloc (.cells #[.string x, .string y] 120))) := Lib.hid (fun W => (Below.refl _ _).alloc (Nat.le_refl _) _)
  generalize sideP k (x, y) = pp at *
  cases h1 : wordOkB k x
  · have F : Hid (RetP pp w (.returned (.bool false)) (w.alloc (.cells #[.string x, .string y] 120))) := Lib.hid (RetP.no (fun h => by have := (HP.out.1 h).1.1; rw [h1] at this; cases this) (HA.out _))
    rw [h1] at HX
    clear h1 HP
    go_enter Tryz.func136, Tryz.ntmps136
    go_wp2_with (go_at_call 65; refine (HX.out _).mono ?_; rintro e w' ⟨rfl, rfl⟩)
    go_ret
    exact F.out
  · cases h2 : wordOkB k y
    · have F : Hid (RetP pp w (.returned (.bool false)) (w.alloc (.cells #[.string x, .string y] 120))) := Lib.hid (RetP.no (fun h => by have := (HP.out.1 h).1.2; rw [h2] at this; cases this) (HA.out _))
      rw [h1] at HX
      rw [h2] at HY
      clear h1 h2 HP
      go_enter Tryz.func136, Tryz.ntmps136
      go_wp2_with fail
      refine (HX.out _).mono ?_
      rintro e w' ⟨rfl, rfl⟩
      go_wp2_with fail
      refine (HY.out _).mono ?_
      rintro e w' ⟨rfl, rfl⟩
      go_wp2_with fail
      go_ret
      exact F.out
    · by_cases h3 : x.size ≤ 8 ∧ y.size ≤ 8
      · have F : Hid (RetP pp w (.returned (.bool true)) (w.alloc (.cells #[.string x, .string y] 120))) := Lib.hid (RetP.yes (HP.out.2 ⟨⟨h1, h2⟩, h3⟩) (HA.out _))
        obtain ⟨h3, h4⟩ := h3
        rw [h1] at HX
        rw [h2] at HY
        clear h1 h2 HP
        have n1 : (x.size : Int) ≤ 8 := by omega
        have n2 : (y.size : Int) ≤ 8 := by omega
        go_enter Tryz.func136, Tryz.ntmps136
        go_wp2_with fail
        refine (HX.out _).mono ?_
        rintro e w' ⟨rfl, rfl⟩
        go_wp2_with fail
        refine (HY.out _).mono ?_
        rintro e w' ⟨rfl, rfl⟩
        go_wp2_with fail
        go_ret
        exact F.out
      · have F : Hid (RetP pp w (.returned (.bool false)) (w.alloc (.cells #[.string x, .string y] 120))) := Lib.hid (RetP.no (fun h => h3 (HP.out.1 h).2) (HA.out _))
        rw [h1] at HX
        rw [h2] at HY
        clear h1 h2 HP
        by_cases h4 : (x.size : Int) ≤ 8
        · have n2 : decide ((y.size : Int) ≤ 8) = false := decide_eq_false (by omega)
          go_enter Tryz.func136, Tryz.ntmps136
          go_wp2_with fail
          refine (HX.out _).mono ?_
          rintro e w' ⟨rfl, rfl⟩
          go_wp2_with fail
          refine (HY.out _).mono ?_
          rintro e w' ⟨rfl, rfl⟩
          go_wp2_with fail
          go_ret
          exact F.out
        · go_enter Tryz.func136, Tryz.ntmps136
          go_wp2_with fail
          refine (HX.out _).mono ?_
          rintro e w' ⟨rfl, rfl⟩
          go_wp2_with fail
          refine (HY.out _).mono ?_
          rintro e w' ⟨rfl, rfl⟩
          go_wp2_with fail
          go_ret
          exact F.out
set_option maxHeartbeats 1000000 in
theorem implSidesOk_any (k : Int) (x y : ByteArray) (w : World) (hx : x.size ≤ maxLen) (hy : y.size ≤ maxLen) :
    Calls Tryz.prog 118 #[.int .i64 k, .agg #[.string x, .string y]] w (RetP (sideP k (x, y)) w) := by
  have HX := Lib.hid (fun W => implWordOk_any k x W hx)
  have HY := Lib.hid (fun W => implWordOk_any k y W hy)
  unfold maxLen at hx hy
  have HP : Hid (sideP k (x, y) ↔ (wordOkB k x = true ∧ wordOkB k y = true) ∧ x.size ≤ 8 ∧ y.size ≤ 8) := Lib.hid Iff.rfl
  have HA : Hid (∀ W, Below W.heap.size W (W.alloc (.cells #[.string x, .string y] 120))) := Lib.hid (fun W => (Below.refl _ _).alloc (Nat.le_refl _) _)
  generalize sideP k (x, y) = pp at *
  cases h1 : wordOkB k x
  · have F : Hid (RetP pp w (.returned (.bool false)) (w.alloc (.cells #[.string x, .string y] 120))) := Lib.hid (RetP.no (fun h => by have := (HP.out.1 h).1.1; rw [h1] at this; cases this) (HA.out _))
    rw [h1] at HX
    clear h1 HP
    go_enter Tryz.func118, Tryz.ntmps118
    go_wp2_with (go_at_call 46; refine (HX.out _).mono ?_; rintro e w' ⟨rfl, rfl⟩)
    go_ret
    exact F.out
  · cases h2 : wordOkB k y
    · have F : Hid (RetP pp w (.returned (.bool false)) (w.alloc (.cells #[.string x, .string y] 120))) := Lib.hid (RetP.no (fun h => by have := (HP.out.1 h).1.2; rw [h2] at this; cases this) (HA.out _))
      rw [h1] at HX
      rw [h2] at HY
      clear h1 h2 HP
      go_enter Tryz.func118, Tryz.ntmps118
      go_wp2_with fail
      refine (HX.out _).mono ?_
      rintro e w' ⟨rfl, rfl⟩
      go_wp2_with fail
      refine (HY.out _).mono ?_
      rintro e w' ⟨rfl, rfl⟩
      go_wp2_with fail
      go_ret
      exact F.out
    · by_cases h3 : x.size ≤ 8 ∧ y.size ≤ 8
      · have F : Hid (RetP pp w (.returned (.bool true)) (w.alloc (.cells #[.string x, .string y] 120))) := Lib.hid (RetP.yes (HP.out.2 ⟨⟨h1, h2⟩, h3⟩) (HA.out _))
        obtain ⟨h3, h4⟩ := h3
        rw [h1] at HX
        rw [h2] at HY
        clear h1 h2 HP
        have n1 : (x.size : Int) ≤ 8 := by omega
        have n2 : (y.size : Int) ≤ 8 := by omega
        go_enter Tryz.func118, Tryz.ntmps118
        go_wp2_with fail
        refine (HX.out _).mono ?_
        rintro e w' ⟨rfl, rfl⟩
        go_wp2_with fail
        refine (HY.out _).mono ?_
        rintro e w' ⟨rfl, rfl⟩
        go_wp2_with fail
        go_ret
        exact F.out
      · have F : Hid (RetP pp w (.returned (.bool false)) (w.alloc (.cells #[.string x, .string y] 120))) := Lib.hid (RetP.no (fun h => h3 (HP.out.1 h).2) (HA.out _))
        rw [h1] at HX
        rw [h2] at HY
        clear h1 h2 HP
        by_cases h4 : (x.size : Int) ≤ 8
        · have n2 : decide ((y.size : Int) ≤ 8) = false := decide_eq_false (by omega)
          go_enter Tryz.func118, Tryz.ntmps118
          go_wp2_with fail
          refine (HX.out _).mono ?_
          rintro e w' ⟨rfl, rfl⟩
          go_wp2_with fail
          refine (HY.out _).mono ?_
          rintro e w' ⟨rfl, rfl⟩
          go_wp2_with fail
          go_ret
          exact F.out
        · go_enter Tryz.func118, Tryz.ntmps118
          go_wp2_with fail
          refine (HX.out _).mono ?_
          rintro e w' ⟨rfl, rfl⟩
          go_wp2_with fail
          refine (HY.out _).mono ?_
          rintro e w' ⟨rfl, rfl⟩
          go_wp2_with fail
          go_ret
          exact F.out
theorem size_zero0 {u : ByteArray} (h : u.size = 0) : u = ⟨#[]⟩ := by
  obtain ⟨⟨x⟩⟩ := u
  cases x with
  | nil => rfl
  | cons a t => simp [ByteArray.size] at h
theorem alloc_belowS (w : World) (o : Obj) : Below w.heap.size w (w.alloc o) := (Below.refl _ _).alloc (Nat.le_refl _) _
/-- the cells of a block that holds a system -/
theorem sys_cells {W : World} {g : Nat} {u v : Value} {T : TypeId} (h : W.heap[g]? = some (.cells #[u, v] T (0, 0))) : W.cell? ⟨g, 0, none⟩ = some u ∧ W.cell? ⟨g, 1, none⟩ = some v := by
  refine ⟨by simp [World.cell?, h], by simp [World.cell?, h]⟩
set_option maxRecDepth 20000 in
set_option maxHeartbeats 1000000 in
theorem specRulesOk_any (k : Int) (l : List RulD) (a : Option Addr) (cap : Nat) (w : World) (hl : RulesIn w a l) (hlen : l.length ≤ 2 ^ 40) (hz : SzR l) :
    Calls Tryz.prog 112 #[.agg #[.int .i64 k, .slice a l.length cap]] w (RetP (rulesP k l) w) := by
  have HL := Lib.hid hl
  have HZ := Lib.hid hz
  have P1 := Lib.hid (fun W => l01In_any k 1 4 W)
  clear hl hz
  cases hb : inB k 1 4
  · have F : Hid (¬ rulesP k l) := Lib.hid (fun h => by have := h.1.1; simp [inB] at hb; omega)
    rw [hb] at P1
    clear hb
    go_enter Tryz.func112, Tryz.ntmps112
    go_wp2_with (go_at_call 106; refine (P1.out _).mono ?_; rintro e w' ⟨rfl, rfl⟩)
    go_ret
    exact RetP.no F.out ((Below.refl _ _).alloc (Nat.le_refl _) _)
  · have hb2 := inB_bounds hb
    rw [hb] at P1
    clear hb
    by_cases h12 : l.length ≤ 12
    · have n1 : ¬ (12 : Int) < (l.length : Int) := by omega
      have HST : Hid (∀ W : World, Below W.heap.size W (W.alloc (.cells #[.int .i64 k, .slice a l.length cap] 25))) := Lib.hid (fun W => (Below.refl _ _).alloc (Nat.le_refl _) _)
      have HB0 : Hid ((w.alloc (.cells #[.int .i64 k, .slice a l.length cap] 25)).heap[w.heap.size]? = some (.cells #[.int .i64 k, .slice a l.length cap] 25 (0, 0))) := Lib.hid (alloc_at _ _)
      go_enter Tryz.func112, Tryz.ntmps112
      go_wp2_with (go_at_call 106; refine (P1.out _).mono ?_; rintro e w' ⟨rfl, rfl⟩)
      clear P1 n1
      go_loopw [18] (fun i wr => ∃ j : Nat, j ≤ l.length ∧ i = .int .i64 (j : Nat) ∧ Hid (∀ j', j' < j → ruleP k (nthR l j')) ∧ Below (w.alloc (.cells #[.int .i64 k, .slice a l.length cap] 25)).heap.size (w.alloc (.cells #[.int .i64 k, .slice a l.length cap] 25)) wr) (fun i _ => l.length - (intOf i).toNat)
      case atStart => exact ⟨0, Nat.zero_le _, rfl, Lib.hid (fun j' h => absurd h (Nat.not_lt_zero _)), Below.refl _ _⟩
      case round =>
        obtain ⟨j, hj, rfl, hall, hbw⟩ := hrel
        have hbw1 := Below.now (HST.out w) hbw
        have hs0 := hbw.size
        have hb0 := (hbw.block w.heap.size (by simp)).trans HB0.out
        obtain ⟨s0, s1⟩ := sys_cells hb0
        have s0a : ∀ o, (wr.alloc o).cell? ⟨w.heap.size, 0, none⟩ = some (.int .i64 k) := fun o => by rw [(alloc_belowS wr o).cell (World.block_lt_of_cell? wr _ s0)]; exact s0
        have HBW := Lib.hid hbw
        clear hb0
        by_cases hlt : j < l.length
        · obtain ⟨b, off, rfl, hb, hc⟩ := (HL.out.later hbw1).cell hlt
          obtain ⟨c1, c2⟩ := hc j hlt
          obtain ⟨z1, z2⟩ := HZ.out j hlt
          have HR : Hid (ruleP k (nthR l j) ↔ sideP k ((nthR l j).1, (nthR l j).2) ∧ (nthR l j).1.size ≠ 0) := Lib.hid Iff.rfl
          have HNO : Hid (¬ ruleP k (nthR l j) → ¬ rulesP k l) := Lib.hid (fun h h2 => h (h2.2 _ (nthR_mem hlt)))
          have HYE : Hid (ruleP k (nthR l j) → ∀ j', j' < j + 1 → ruleP k (nthR l j')) := Lib.hid (fun h j' hj' => by
            by_cases e : j' = j
            · rw [e]; exact h
            · exact hall.out j' (by omega))
          clear hc hbw
          generalize ruleP k (nthR l j) = pp at *
          generalize (nthR l j).1 = x at *
          generalize (nthR l j).2 = y at *
          have HSD := Lib.hid (fun W => specSidesOk_any k x y W z1 z2)
          generalize sideP k (x, y) = sp at *
          go_wp2_with fail
          refine (HSD.out _).mono ?_
          rintro e w2 ⟨bb, hbb, rfl, hb2⟩
          have HBB := Lib.hid hbb
          have hw1s : (wr.alloc (.cells #[.string x, .string y] 120)).heap.size = wr.heap.size + 1 := by simp
          have hcx : w2.cell? ⟨wr.heap.size, 0, none⟩ = some (.string x) := by rw [hb2.cell (by simp)]; simp [World.cell?_alloc_new]
          have HW2 : Hid (Below (w.alloc (.cells #[.int .i64 k, .slice (some ⟨b, off, none⟩) l.length cap] 25)).heap.size (w.alloc (.cells #[.int .i64 k, .slice (some ⟨b, off, none⟩) l.length cap] 25)) w2) := Lib.hid (Below.now (HBW.out.alloc HBW.out.size _) hb2)
          clear hbb hb2 HSD s0 s0a s1 c1 c2 hw1s
          cases bb
          · have F := Lib.hid (HNO.out (fun h => by have := HBB.out.2 (HR.out.1 h).1; cases this))
            go_wp2_with fail
            go_ret
            exact RetP.no F.out (Below.now (HST.out w) HW2.out)
          · by_cases h0 : x.size = 0
            · have F := Lib.hid (HNO.out (fun h => (HR.out.1 h).2 h0))
              have n1 : (x.toList == []) = true := by rw [size_zero0 h0, Lib.toList_data]; rfl
              have n3 : x.toList = [] := by rw [size_zero0 h0, Lib.toList_data]
              clear h0
              go_wp2_with fail
              go_ret
              exact RetP.no F.out (Below.now (HST.out w) HW2.out)
            · have F := Lib.hid (HYE.out (HR.out.2 ⟨HBB.out.1 rfl, h0⟩))
              have hne : x.toList ≠ [] := fun h => h0 (by
                have h2 : x.data.toList = [] := by rw [← Lib.toList_data]; exact h
                have h3 : x.data.toList.length = 0 := by rw [h2]; rfl
                exact h3)
              have n1 : (x.toList == []) = false := by rw [beq_eq_false_iff_ne]; exact hne
              have n3 : x.toList.isEmpty = false := by rw [List.isEmpty_eq_false_iff]; exact hne
              clear h0 hne
              go_wp2_with fail
              go_roundw
              case rel => exact ⟨j + 1, by omega, by go_num, F, HW2.out⟩
              case measure => simp [intOf]; omega
        · have F : Hid (rulesP k l) := Lib.hid ⟨⟨hb2, h12⟩, fun r hr => by
            obtain ⟨i, hi, rfl⟩ := mem_nthR hr
            exact hall.out i (by omega)⟩
          go_wp2_with fail
          go_ret
          exact RetP.yes F.out hbw1
    · have F : Hid (¬ rulesP k l) := Lib.hid (fun h => h12 h.1.2)
      have n1 : (12 : Int) < (l.length : Int) := by omega
      clear h12
      go_enter Tryz.func112, Tryz.ntmps112
      go_wp2_with (go_at_call 106; refine (P1.out _).mono ?_; rintro e w' ⟨rfl, rfl⟩)
      go_ret
      exact RetP.no F.out ((Below.refl _ _).alloc (Nat.le_refl _) _)
end Go.Proofs.YtoddpmdjjgnpgaaGreatDoor
namespace Go.Proofs.YtoddpmdjjgnpgaaGreatDoor
open Go.RowKit
set_option linter.unusedVariables false
theorem empty_facts {x : ByteArray} (h : x.size = 0) : (x.toList == []) = true ∧ x.toList = [] := by
  rw [size_zero0 h, Lib.toList_data]; exact ⟨rfl, rfl⟩
theorem full_facts {x : ByteArray} (h : ¬ x.size = 0) : (x.toList == []) = false ∧ x.toList.isEmpty = false := by
  have hne : x.toList ≠ [] := fun h1 => h (by
    have h2 : x.data.toList = [] := by rw [← Lib.toList_data]; exact h1
    have h3 : x.data.toList.length = 0 := by rw [h2]; rfl
    exact h3)
  exact ⟨by rw [beq_eq_false_iff_ne]; exact hne, by rw [List.isEmpty_eq_false_iff]; exact hne⟩
set_option maxHeartbeats 400000 in
theorem rulesOk1_any (k : Int) (x y : ByteArray) (box : Nat) (w : World) (hx : x.size ≤ maxLen) (hy : y.size ≤ maxLen) (hk : w.cell? ⟨box, 0, none⟩ = some (.int .i64 k)) :
    Calls Tryz.prog 117 #[.agg #[.string x, .string y], .pointer (some ⟨box, 0, none⟩)] w (RetP (¬ ruleP k (x, y)) w) := by
  have HS := Lib.hid (fun W => implSidesOk_any k x y W hx hy)
  have HR : Hid (ruleP k (x, y) ↔ sideP k (x, y) ∧ x.size ≠ 0) := Lib.hid Iff.rfl
  have hk2 : ∀ o, (w.alloc o).cell? ⟨box, 0, none⟩ = some (.int .i64 k) := fun o => by rw [(alloc_belowS w o).cell (World.block_lt_of_cell? w _ hk)]; exact hk
  have HA := Lib.hid (fun o => alloc_belowS w o)
  generalize ruleP k (x, y) = pp at *
  generalize sideP k (x, y) = sp at *
  go_enter Tryz.func117, Tryz.ntmps117
  go_wp2_with fail
  refine (HS.out _).mono ?_
  rintro e w2 ⟨bb, hbb, rfl, hb2⟩
  have HBB := Lib.hid hbb
  have hcx : w2.cell? ⟨w.heap.size, 0, none⟩ = some (.string x) := by rw [hb2.cell (by simp)]; simp [World.cell?_alloc_new]
  have HW2 := Lib.hid (Below.now (HA.out _) hb2)
  clear hbb hb2 HS hk hk2
  cases bb
  · have F : Hid (RetP (¬ pp) w (.returned (.bool true)) w2) := Lib.hid (RetP.yes (fun h => by have := HBB.out.2 (HR.out.1 h).1; cases this) HW2.out)
    go_wp2_with fail
    go_ret
    exact F.out
  · by_cases h0 : x.size = 0
    · have F : Hid (RetP (¬ pp) w (.returned (.bool true)) w2) := Lib.hid (RetP.yes (fun h => (HR.out.1 h).2 h0) HW2.out)
      obtain ⟨n1, n3⟩ := empty_facts h0
      clear h0
      go_wp2_with fail
      go_ret
      exact F.out
    · have F : Hid (RetP (¬ pp) w (.returned (.bool false)) w2) := Lib.hid (RetP.no (fun h => h (HR.out.2 ⟨HBB.out.1 rfl, h0⟩)) HW2.out)
      obtain ⟨n1, n3⟩ := full_facts h0
      clear h0
      go_wp2_with fail
      go_ret
      exact F.out
theorem rulesP_iff {k : Int} {l : List RulD} (h1 : 1 ≤ k ∧ k ≤ 4) (h2 : l.length ≤ 12) : rulesP k l ↔ ¬ ∃ r ∈ l, ¬ ruleP k r := by
  constructor
  · rintro h ⟨r, hr, hn⟩; exact hn (h.2 r hr)
  · intro h; exact ⟨⟨h1, h2⟩, fun r hr => Classical.byContradiction fun hn => h ⟨r, hr, hn⟩⟩
theorem sysP_iff {k : Int} {l : List RulD} (h : rulesP k l) : sysP k l ↔ ¬ ∃ r ∈ l, ¬ lessS r.2 r.1 = true := by
  constructor
  · rintro h ⟨r, hr, hn⟩; exact hn (h.2 r hr)
  · intro h2; exact ⟨h, fun r hr => Classical.byContradiction fun hn => h2 ⟨r, hr, hn⟩⟩
set_option maxHeartbeats 1000000 in
theorem implRulesOk_any (k : Int) (l : List RulD) (a : Option Addr) (cap : Nat) (w : World) (hl : RulesIn w a l) (hlen : l.length ≤ 2 ^ 40) (hz : SzR l) :
    Calls Tryz.prog 71 #[.agg #[.int .i64 k, .slice a l.length cap]] w (RetP (rulesP k l) w) := by
  have HL := Lib.hid hl
  have HZ := Lib.hid hz
  have P1 := Lib.hid (fun W => within_any k 1 4 W)
  have HA := Lib.hid (fun o => alloc_belowS w o)
  clear hl hz
  cases hb : inB k 1 4
  · have F : Hid (¬ rulesP k l) := Lib.hid (fun h => by have := h.1.1; simp [inB] at hb; omega)
    rw [hb] at P1
    clear hb
    go_enter Tryz.func71, Tryz.ntmps71
    go_wp2_with (go_at_call 50; refine (P1.out _).mono ?_; rintro e w' ⟨rfl, rfl⟩)
    go_ret
    exact RetP.no F.out (HA.out _)
  · have hb2 := inB_bounds hb
    rw [hb] at P1
    clear hb
    by_cases h12 : l.length ≤ 12
    · have n1 : ¬ (12 : Int) < (l.length : Int) := by omega
      have HI := Lib.hid (rulesP_iff hb2 h12)
      have hsb := (sys_cells (alloc_at w (.cells #[.int .i64 k, .slice a l.length cap] 25))).1
      have HC := Lib.hid (containsFuncR_any 117 #[.pointer (some ⟨w.heap.size, 0, none⟩)] (fun r => ¬ ruleP k r) l a cap (w.alloc (.cells #[.int .i64 k, .slice a l.length cap] 25)) (HL.out.later (HA.out _)) hlen (w.heap.size + 1) (by simp) (fun j hj W hW => by
        have z := HZ.out j hj
        exact rulesOk1_any k _ _ w.heap.size W z.1 z.2 (by rw [hW.cell (p := ⟨w.heap.size, 0, none⟩) (by simp)]; exact hsb)) (enters_of Tryz.func117 (by kernel_rfl) rfl))
      clear hb2 h12 hsb
      go_enter Tryz.func71, Tryz.ntmps71
      go_wp2_with (go_at_call 50; refine (P1.out _).mono ?_; rintro e w' ⟨rfl, rfl⟩)
      refine HC.out.mono ?_
      rintro e w2 ⟨bb, hbb, rfl, hb2⟩
      have F : Hid (RetP (rulesP k l) w (.returned (.bool !bb)) w2) := Lib.hid (by
        cases bb
        · exact RetP.yes (HI.out.2 (fun h => by have := hbb.2 h; cases this)) (Below.now (HA.out _) hb2)
        · exact RetP.no (fun h => HI.out.1 h (hbb.1 rfl)) (Below.now (HA.out _) hb2))
      clear hbb hb2 HC
      go_wp2_with fail
      go_ret
      exact F.out
    · have F : Hid (¬ rulesP k l) := Lib.hid (fun h => h12 h.1.2)
      have n1 : (12 : Int) < (l.length : Int) := by omega
      clear h12
      go_enter Tryz.func71, Tryz.ntmps71
      go_wp2_with (go_at_call 50; refine (P1.out _).mono ?_; rintro e w' ⟨rfl, rfl⟩)
      go_ret
      exact RetP.no F.out (HA.out _)
set_option maxHeartbeats 400000 in
theorem systemOk1_any (x y : ByteArray) (w : World) :
    Calls Tryz.prog 91 #[.agg #[.string x, .string y]] w (RetP (¬ lessS y x = true) w) := by
  have HS := Lib.hid (fun W => implIsLess_any y x W)
  have HA := Lib.hid (fun o => alloc_belowS w o)
  generalize lessS y x = b at *
  go_enter Tryz.func91, Tryz.ntmps91
  go_wp2_with fail
  refine (HS.out _).mono ?_
  rintro e w2 ⟨rfl, hb2⟩
  have F : Hid (RetP (¬ b = true) w (.returned (.bool !b)) w2) := Lib.hid ⟨!b, by simp, rfl, Below.now (HA.out _) hb2⟩
  clear hb2 HS
  go_wp2_with fail
  go_ret
  exact F.out
set_option maxHeartbeats 1000000 in
theorem implSystemOk_any (k : Int) (l : List RulD) (a : Option Addr) (cap : Nat) (w : World) (hl : RulesIn w a l) (hlen : l.length ≤ 2 ^ 40) (hz : SzR l) :
    Calls Tryz.prog 39 #[.agg #[.int .i64 k, .slice a l.length cap]] w (RetP (sysP k l) w) := by
  have HL := Lib.hid hl
  have HR := Lib.hid (fun W h => implRulesOk_any k l a cap W h hlen hz)
  have HA := Lib.hid (fun o => alloc_belowS w o)
  clear hl hz
  go_enter Tryz.func39, Tryz.ntmps39
  go_wp2_with fail
  refine (HR.out _ (HL.out.later (HA.out _))).mono ?_
  rintro e w2 ⟨bb, hbb, rfl, hb2⟩
  have HBB := Lib.hid hbb
  have hb0 := (hb2.block w.heap.size (by simp)).trans (alloc_at w (.cells #[.int .i64 k, .slice a l.length cap] 25))
  obtain ⟨s0, s1⟩ := sys_cells hb0
  have HW2 := Lib.hid (Below.now (HA.out _) hb2)
  clear hbb hb2 HR hb0
  cases bb
  · have F : Hid (RetP (sysP k l) w (.returned (.bool false)) w2) := Lib.hid (RetP.no (fun h => by have := HBB.out.2 h.1; cases this) HW2.out)
    go_wp2_with fail
    go_ret
    exact F.out
  · have HI := Lib.hid (sysP_iff (HBB.out.1 rfl))
    have HC := Lib.hid (fun W h => containsFuncR_any 91 #[] (fun r => ¬ lessS r.2 r.1 = true) l a cap W h hlen W.heap.size (Nat.le_refl _) (fun j hj W2 hW2 => systemOk1_any _ _ W2) (enters_of Tryz.func91 (by kernel_rfl) rfl))
    go_wp2_with fail
    refine (HC.out _ (HL.out.later HW2.out)).mono ?_
    rintro e w3 ⟨b3, hb3, rfl, hb33⟩
    have F : Hid (RetP (sysP k l) w (.returned (.bool !b3)) w3) := Lib.hid (by
      cases b3
      · exact RetP.yes (HI.out.2 (fun h => by have := hb3.2 h; cases this)) (Below.now HW2.out hb33)
      · exact RetP.no (fun h => HI.out.1 h (hb3.1 rfl)) (Below.now HW2.out hb33))
    clear hb3 hb33 HC
    go_wp2_with fail
    go_ret
    exact F.out
set_option maxRecDepth 20000 in
set_option maxHeartbeats 1000000 in
theorem specSystemOk_any (k : Int) (l : List RulD) (a : Option Addr) (cap : Nat) (w : World) (hl : RulesIn w a l) (hlen : l.length ≤ 2 ^ 40) (hz : SzR l) :
    Calls Tryz.prog 64 #[.agg #[.int .i64 k, .slice a l.length cap]] w (RetP (sysP k l) w) := by
  have HL := Lib.hid hl
  have HZ := Lib.hid hz
  have HR := Lib.hid (fun W h => specRulesOk_any k l a cap W h hlen hz)
  have HA := Lib.hid (fun o => alloc_belowS w o)
  clear hl hz
  go_enter Tryz.func64, Tryz.ntmps64
  go_wp2_with fail
  refine (HR.out _ (HL.out.later (HA.out _))).mono ?_
  rintro e w2 ⟨bb, hbb, rfl, hb2⟩
  have HBB := Lib.hid hbb
  have hb0 := (hb2.block w.heap.size (by simp)).trans (alloc_at w (.cells #[.int .i64 k, .slice a l.length cap] 25))
  obtain ⟨s0, s1⟩ := sys_cells hb0
  have HW2 := Lib.hid (Below.now (HA.out _) hb2)
  clear hbb hb2 HR hb0
  cases bb
  · have F : Hid (RetP (sysP k l) w (.returned (.bool false)) w2) := Lib.hid (RetP.no (fun h => by have := HBB.out.2 h.1; cases this) HW2.out)
    go_wp2_with fail
    go_ret
    exact F.out
  · have HRP := Lib.hid (HBB.out.1 rfl)
    clear HBB
    go_wp2_with fail
    clear s0 s1
    go_loopw [11] (fun i wr => ∃ j : Nat, j ≤ l.length ∧ i = .int .i64 (j : Nat) ∧ Hid (∀ j', j' < j → lessS (nthR l j').2 (nthR l j').1 = true) ∧ Below w.heap.size w wr) (fun i _ => l.length - (intOf i).toNat)
    case atStart => exact ⟨0, Nat.zero_le _, rfl, Lib.hid (fun j' h => absurd h (Nat.not_lt_zero _)), HW2.out⟩
    case round =>
      obtain ⟨j, hj, rfl, hall, hbw⟩ := hrel
      have HBW := Lib.hid hbw
      by_cases hlt : j < l.length
      · obtain ⟨b, off, rfl, hb, hc⟩ := (HL.out.later hbw).cell hlt
        obtain ⟨c1, c2⟩ := hc j hlt
        obtain ⟨z1, z2⟩ := HZ.out j hlt
        have HNO : Hid (¬ lessS (nthR l j).2 (nthR l j).1 = true → ¬ sysP k l) := Lib.hid (fun h h2 => h (h2.2 _ (nthR_mem hlt)))
        have HYE : Hid (lessS (nthR l j).2 (nthR l j).1 = true → ∀ j', j' < j + 1 → lessS (nthR l j').2 (nthR l j').1 = true) := Lib.hid (fun h j' hj' => by
          by_cases e : j' = j
          · rw [e]; exact h
          · exact hall.out j' (by omega))
        clear hc hbw
        generalize (nthR l j).1 = x at *
        generalize (nthR l j).2 = y at *
        have HLS := Lib.hid (fun W => specIsLess_any y x W z2 z1)
        cases hq : lessS y x
        · have F := Lib.hid (HNO.out (by rw [hq]; simp))
          rw [hq] at HLS
          clear hq HNO HYE
          go_wp2_with (go_at_call 113; refine (HLS.out _).mono ?_; rintro e w' ⟨rfl, rfl⟩)
          go_ret
          exact RetP.no F.out (HBW.out.alloc HBW.out.size _)
        · have F := Lib.hid (HYE.out hq)
          rw [hq] at HLS
          clear hq HNO HYE
          go_wp2_with (go_at_call 113; refine (HLS.out _).mono ?_; rintro e w' ⟨rfl, rfl⟩)
          go_roundw
          case rel => exact ⟨j + 1, by omega, by go_num, F, HBW.out.alloc HBW.out.size _⟩
          case measure => simp [intOf]; omega
      · have F : Hid (sysP k l) := Lib.hid ⟨HRP.out, fun r hr => by
          obtain ⟨i, hi, rfl⟩ := mem_nthR hr
          exact hall.out i (by omega)⟩
        go_wp2_with fail
        go_ret
        exact RetP.yes F.out HBW.out
/-- the length of the longest Left of the first j rules -/
def lsTo (l : List RulD) : Nat → Nat
  | 0 => 0
  | j + 1 => max (lsTo l j) (nthR l j).1.size
def lsL (l : List RulD) : Nat := lsTo l l.length
theorem lsTo_le {l : List RulD} (hz : SzR l) : ∀ j, j ≤ l.length → lsTo l j ≤ maxLen
  | 0, _ => by unfold lsTo maxLen; omega
  | j + 1, h => by
    have h1 := lsTo_le hz j (by omega)
    have h2 := (hz j (by omega)).1
    show max _ _ ≤ _
    omega
set_option maxRecDepth 20000 in
set_option maxHeartbeats 1000000 in
theorem specLongestSide_any (k : Int) (l : List RulD) (a : Option Addr) (cap : Nat) (w : World) (hl : RulesIn w a l) (hlen : l.length ≤ 2 ^ 40) (hz : SzR l) :
    Calls Tryz.prog 176 #[.agg #[.int .i64 k, .slice a l.length cap]] w fun e w' => e = .returned (.int .i64 (lsL l : Nat)) ∧ Below w.heap.size w w' := by
  have HL := Lib.hid hl
  have HZ := Lib.hid hz
  have HA := Lib.hid (fun o => alloc_belowS w o)
  clear hl hz
  go_enter Tryz.func176, Tryz.ntmps176
  go_wp2_with fail
  go_loopw [3, 9] (fun v i wr => ∃ j m : Nat, j ≤ l.length ∧ i = .int .i64 (j : Nat) ∧ v = .int .i64 (m : Nat) ∧ Hid (m = lsTo l j) ∧ m ≤ 9223372036854775807 ∧ Below w.heap.size w wr) (fun _ i _ => l.length - (intOf i).toNat)
  case atStart => exact ⟨0, 0, Nat.zero_le _, rfl, rfl, Lib.hid rfl, by omega, HA.out _⟩
  case round =>
    obtain ⟨j, m, hj, rfl, rfl, hm, hm9, hbw⟩ := hrel
    have HBW := Lib.hid hbw
    by_cases hlt : j < l.length
    · obtain ⟨b, off, rfl, hb, hc⟩ := (HL.out.later hbw).cell hlt
      obtain ⟨c1, c2⟩ := hc j hlt
      obtain ⟨z1, z2⟩ := HZ.out j hlt
      have F : Hid (lsTo l (j + 1) = max (lsTo l j) (nthR l j).1.size) := Lib.hid rfl
      rw [← hm.out] at F
      unfold maxLen at z1
      clear hc hbw
      generalize (nthR l j).1 = x at *
      generalize (nthR l j).2 = y at *
      have HMX : Hid (((max m x.size : Nat) : Int) = max (m : Int) (x.size : Int)) := Lib.hid (by omega)
      have hmx : max m x.size ≤ 9223372036854775807 := by omega
      go_wp2_with fail
      go_roundw
      case rel => exact ⟨j + 1, max m x.size, by omega, by go_num, by first | (rw [HMX.out]) | (simp; omega), Lib.hid F.out.symm, hmx, HBW.out.alloc HBW.out.size _⟩
      case measure => simp [intOf]; omega
    · obtain rfl : j = l.length := by omega
      have F : Hid ((m : Int) = (lsL l : Nat)) := Lib.hid (by rw [hm.out]; rfl)
      go_wp2_with fail
      go_ret
      exact ⟨ret_int F.out, HBW.out⟩
set_option maxRecDepth 20000 in
set_option maxHeartbeats 1000000 in
theorem implLongestSide_any (k : Int) (l : List RulD) (a : Option Addr) (cap : Nat) (w : World) (hl : RulesIn w a l) (hlen : l.length ≤ 2 ^ 40) (hz : SzR l) :
    Calls Tryz.prog 92 #[.agg #[.int .i64 k, .slice a l.length cap]] w fun e w' => e = .returned (.int .i64 (lsL l : Nat)) ∧ Below w.heap.size w w' := by
  have HL := Lib.hid hl
  have HZ := Lib.hid hz
  have HA := Lib.hid (fun o => alloc_belowS w o)
  clear hl hz
  go_enter Tryz.func92, Tryz.ntmps92
  go_wp2_with fail
  go_loopw [3, 9] (fun v i wr => ∃ j m : Nat, j ≤ l.length ∧ i = .int .i64 (j : Nat) ∧ v = .int .i64 (m : Nat) ∧ Hid (m = lsTo l j) ∧ m ≤ 9223372036854775807 ∧ Below w.heap.size w wr) (fun _ i _ => l.length - (intOf i).toNat)
  case atStart => exact ⟨0, 0, Nat.zero_le _, rfl, rfl, Lib.hid rfl, by omega, HA.out _⟩
  case round =>
    obtain ⟨j, m, hj, rfl, rfl, hm, hm9, hbw⟩ := hrel
    have HBW := Lib.hid hbw
    by_cases hlt : j < l.length
    · obtain ⟨b, off, rfl, hb, hc⟩ := (HL.out.later hbw).cell hlt
      obtain ⟨c1, c2⟩ := hc j hlt
      obtain ⟨z1, z2⟩ := HZ.out j hlt
      have F : Hid (lsTo l (j + 1) = max (lsTo l j) (nthR l j).1.size) := Lib.hid rfl
      rw [← hm.out] at F
      unfold maxLen at z1
      clear hc hbw
      generalize (nthR l j).1 = x at *
      generalize (nthR l j).2 = y at *
      have HMX : Hid (((max m x.size : Nat) : Int) = max (m : Int) (x.size : Int)) := Lib.hid (by omega)
      have hmx : max m x.size ≤ 9223372036854775807 := by omega
      go_wp2_with fail
      go_roundw
      case rel => exact ⟨j + 1, max m x.size, by omega, by go_num, by first | (rw [HMX.out]) | (simp; omega), Lib.hid F.out.symm, hmx, HBW.out.alloc HBW.out.size _⟩
      case measure => simp [intOf]; omega
    · obtain rfl : j = l.length := by omega
      have F : Hid ((m : Int) = (lsL l : Nat)) := Lib.hid (by rw [hm.out]; rfl)
      go_wp2_with fail
      go_ret
      exact ⟨ret_int F.out, HBW.out⟩
end Go.Proofs.YtoddpmdjjgnpgaaGreatDoor
