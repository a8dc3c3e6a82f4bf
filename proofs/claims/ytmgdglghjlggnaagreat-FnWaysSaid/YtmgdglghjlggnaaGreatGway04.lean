/-
  Tables: the product of two elements, and the reference's TableOk.
-/
import Derived.Test.YtmgdglghjlggnaaGreatGway01
import Derived.Test.YtmgdglghjlggnaaGreatGway03
import Derived.Shelf.Abstract
import Derived.Lib.SlicesCompact
namespace Go.Proofs.YtmgdglghjlggnaaGreat
open Go.RowKit
set_option linter.unusedVariables false
/-- WordOk as a function of plain data -/
def wordOkB (k : Int) (s : ByteArray) : Bool := inB k 1 4 && (decide (s.size ≤ 16) && allB (letB k) s)
theorem letB_low {k : Int} {c : UInt8} (h : (c.toNat : Int) < 97) : letB k c = false := by
  simp [letB, inB]; omega
theorem letB_high {k : Int} {c : UInt8} (h : 97 ≤ (c.toNat : Int)) (h2 : k ≤ (c.toNat : Int) - 97) : letB k c = false := by
  simp [letB, inB]; omega
theorem letB_true {k : Int} {c : UInt8} (h : letB k c = true) : 97 ≤ (c.toNat : Int) ∧ (c.toNat : Int) - 97 < k := by
  simp [letB, inB] at h; omega
theorem wordOk_notk {k : Int} {s : ByteArray} (h : inB k 1 4 = false) : wordOkB k s = false := by simp [wordOkB, h]
theorem wordOk_long {k : Int} {s : ByteArray} (h : 16 < s.size) : wordOkB k s = false := by
  simp [wordOkB, show ¬ s.size ≤ 16 by omega]
theorem wordOk_all {k : Int} {s : ByteArray} (h : inB k 1 4 = true) (h2 : s.size ≤ 16) : wordOkB k s = allB (letB k) s := by simp [wordOkB, h, h2]
set_option maxHeartbeats 400000 in
theorem specWordOk_any (k : Int) (s : ByteArray) (w : World) (hs : s.size ≤ maxLen) :
    Calls Tryz.prog 93 #[.int .i64 k, .string s] w fun e w' => e = .returned (.bool (wordOkB k s)) ∧ w = w' := by
  unfold maxLen at hs
  cases hk : inB k 1 4
  · have F := Lib.hid (wordOk_notk (s := s) hk)
    go_enter Tryz.func93, Tryz.ntmps93
    go_wp2_with (go_at_call 71; refine (l01In_any _ _ _ _).mono ?_; rintro e w' ⟨rfl, rfl⟩)
    go_ret
    exact ⟨ret_bool F.out.symm, rfl⟩
  by_cases hl : 16 < s.size
  · have F := Lib.hid (wordOk_long (k := k) hl)
    go_enter Tryz.func93, Tryz.ntmps93
    go_wp2_with (go_at_call 71; refine (l01In_any _ _ _ _).mono ?_; rintro e w' ⟨rfl, rfl⟩)
    go_ret
    exact ⟨ret_bool F.out.symm, rfl⟩
  have hl' : s.size ≤ 16 := by omega
  have G := Lib.hid (wordOk_all (s := s) hk hl')
  have ⟨hk1, hk2⟩ := inB_bounds hk
  go_enter Tryz.func93, Tryz.ntmps93
  go_wp2_with (go_at_call 71; refine (l01In_any _ _ _ _).mono ?_; rintro e w' ⟨rfl, rfl⟩)
  go_loop [5] (fun i => ∃ j : Nat, j ≤ s.size ∧ i = .int .i64 j ∧ allTo (letB k) s j = true) (fun i => s.size - (intOf i).toNat)
  case atStart => exact ⟨0, Nat.zero_le _, rfl, allTo_zero _ _⟩
  case round =>
    obtain ⟨j, hj, rfl, hall⟩ := hrel
    have H := Lib.hid hall
    clear hall
    by_cases hlt : j < s.size
    · have hb := byte_lt s[j]
      by_cases h1 : (s[j].toNat : Int) < 97
      · have F := Lib.hid (allB_at s (letB k) j hlt (letB_low h1))
        go_wp2
        go_ret
        exact ⟨ret_bool (by rw [G.out, F.out]), rfl⟩
      · by_cases h2 : k ≤ (s[j].toNat : Int) - 97
        · have F := Lib.hid (allB_at s (letB k) j hlt (letB_high (by omega) h2))
          go_wp2
          go_ret
          exact ⟨ret_bool (by rw [G.out, F.out]), rfl⟩
        · have F := Lib.hid (allTo_succ s (letB k) j hlt H.out (by simp [letB, inB]; omega))
          go_wp2
          go_round
          case rel => exact ⟨j + 1, by omega, by go_num, F.out⟩
          case measure => simp [intOf]; omega
    · have F := Lib.hid (allTo_full s (letB k) j hlt H.out)
      go_wp2
      go_ret
      exact ⟨ret_bool (by rw [G.out, F.out]), rfl⟩
end Go.Proofs.YtmgdglghjlggnaaGreat
namespace Go.Proofs.YtmgdglghjlggnaaGreat
open Go.RowKit
set_option linter.unusedVariables false
set_option maxHeartbeats 400000 in
theorem implWordOk_any (k : Int) (s : ByteArray) (w : World) (hs : s.size ≤ maxLen) :
    Calls Tryz.prog 39 #[.int .i64 k, .string s] w fun e w' => e = .returned (.bool (wordOkB k s)) ∧ w = w' := by
  cases hk : inB k 1 4
  · have F := Lib.hid (wordOk_notk (s := s) hk)
    unfold maxLen at hs
    go_enter Tryz.func39, Tryz.ntmps39
    go_wp2_with (go_at_call 28; refine (within_any _ _ _ _).mono ?_; rintro e w' ⟨h2, rfl⟩; rw [hk] at h2; subst h2)
    go_ret
    exact ⟨ret_bool F.out.symm, rfl⟩
  have ⟨hk1, hk2⟩ := inB_bounds hk
  by_cases hl : 16 < s.size
  · have F := Lib.hid (wordOk_long (k := k) hl)
    unfold maxLen at hs
    go_enter Tryz.func39, Tryz.ntmps39
    go_wp2_with (go_at_call 28; refine (within_any _ _ _ _).mono ?_; rintro e w' ⟨h2, rfl⟩; rw [hk] at h2; subst h2)
    go_ret
    exact ⟨ret_bool F.out.symm, rfl⟩
  · have G := Lib.hid (wordOk_all (s := s) hk (by omega))
    have HS := Lib.hid hs
    unfold maxLen at hs
    go_enter Tryz.func39, Tryz.ntmps39
    go_wp2_with (first | (go_at_call 28; refine (within_any _ _ _ _).mono ?_; rintro e w' ⟨h2, rfl⟩; rw [hk] at h2; subst h2) | (go_at_call 62; refine (hasLetters_any _ _ _ HS.out (by omega) (by omega)).mono ?_; rintro e w' ⟨rfl, rfl⟩))
    go_ret
    exact ⟨ret_bool G.out.symm, rfl⟩
end Go.Proofs.YtmgdglghjlggnaaGreat
namespace Go.Proofs.YtmgdglghjlggnaaGreat
open Go.RowKit
set_option linter.unusedVariables false
def sideP (k : Int) (r : RulD) : Prop := (wordOkB k r.1 = true ∧ wordOkB k r.2 = true) ∧ r.1.size ≤ 8 ∧ r.2.size ≤ 8
def ruleP (k : Int) (r : RulD) : Prop := sideP k r ∧ r.1.size ≠ 0
def rulesP (k : Int) (R : List RulD) : Prop := ((1 ≤ k ∧ k ≤ 4) ∧ R.length ≤ 12) ∧ ∀ r ∈ R, ruleP k r
def sysP (k : Int) (R : List RulD) : Prop := rulesP k R ∧ ∀ r ∈ R, lessS r.2 r.1 = true
/-- what is asked of a system's rules so that they can be measured -/
def SzR (R : List RulD) : Prop := ∀ j, j < R.length → (nthR R j).1.size ≤ maxLen ∧ (nthR R j).2.size ≤ maxLen
theorem cfW_less (a b : ByteArray) : decide (cfW a b < 0) = lessS a b := by
  have h1 : (blW a).length = a.size := rfl
  have h2 : (blW b).length = b.size := rfl
  have h3 : a.toList = blW a := Lib.toList_data a
  have h4 : b.toList = blW b := Lib.toList_data b
  unfold cfW orF cmpS Lib.compareInt lessS ltW
  rw [h3, h4, ← h1, ← h2, bytesLess_eq]
  generalize blW a = x
  generalize blW b = y
  by_cases a1 : x.length < y.length
  · simp [a1]
  · by_cases a2 : y.length < x.length
    · have a3 : ¬ x.length = y.length := by omega
      simp [a1, a2, a3]
    · have a3 : x.length = y.length := by omega
      by_cases a4 : x < y
      · simp [a3, a4]
      · by_cases a5 : x = y
        · subst a5
          simp [List.lt_irrefl]
        · simp [a3, a4, a5]
set_option maxHeartbeats 400000 in
theorem implIsLess_any (u v : ByteArray) (w : World) :
    Calls Tryz.prog 18 #[.string u, .string v] w fun e w' => e = .returned (.bool (lessS u v)) ∧ Below w.heap.size w w' := by
  have F := Lib.hid (cfW_less u v)
  have HC := Lib.hid (fun W => compareWords_any u v W)
  generalize cfW u v = c at *
  go_enter Tryz.func18, Tryz.ntmps18
  go_wp2_with fail
  refine (HC.out _).mono ?_
  rintro e w' ⟨rfl, o, rfl⟩
  go_wp2_with fail
  go_ret
  exact ⟨ret_bool F.out, (Below.refl _ _).alloc (Nat.le_refl _) _⟩
set_option maxHeartbeats 1000000 in
theorem specSidesOk_any (k : Int) (x y : ByteArray) (w : World) (hx : x.size ≤ maxLen) (hy : y.size ≤ maxLen) :
    Calls Tryz.prog 95 #[.int .i64 k, .agg #[.string x, .string y]] w (RetP (sideP k (x, y)) w) := by
  have HX := Lib.hid (fun W => specWordOk_any k x W hx)
  have HY := Lib.hid (fun W => specWordOk_any k y W hy)
  unfold maxLen at hx hy
  have HP : Hid (sideP k (x, y) ↔ (wordOkB k x = true ∧ wordOkB k y = true) ∧ x.size ≤ 8 ∧ y.size ≤ 8) := Lib.hid Iff.rfl
  have HA : Hid (∀ W, Below W.heap.size W (W.alloc (.cells #[.string x, .string y] 89))) := Lib.hid (fun W => (Below.refl _ _).alloc (Nat.le_refl _) _)
  generalize sideP k (x, y) = pp at *
  cases h1 : wordOkB k x
  · have F : Hid (RetP pp w (.returned (.bool false)) (w.alloc (.cells #[.string x, .string y] 89))) := Lib.hid (RetP.no (fun h => by have := (HP.out.1 h).1.1; rw [h1] at this; cases this) (HA.out _))
    rw [h1] at HX
    clear h1 HP
    go_enter Tryz.func95, Tryz.ntmps95
    go_wp2_with (go_at_call 93; refine (HX.out _).mono ?_; rintro e w' ⟨rfl, rfl⟩)
    go_ret
    exact F.out
  · cases h2 : wordOkB k y
    · have F : Hid (RetP pp w (.returned (.bool false)) (w.alloc (.cells #[.string x, .string y] 89))) := Lib.hid (RetP.no (fun h => by have := (HP.out.1 h).1.2; rw [h2] at this; cases this) (HA.out _))
      rw [h1] at HX
      rw [h2] at HY
      clear h1 h2 HP
      go_enter Tryz.func95, Tryz.ntmps95
      go_wp2_with fail
      refine (HX.out _).mono ?_
      rintro e w' ⟨rfl, rfl⟩
      go_wp2_with fail
      refine (HY.out _).mono ?_
      rintro e w' ⟨rfl, rfl⟩
      go_wp2_with fail
      go_ret
      exact F.out
    · by_cases h3 : x.size ≤ 8 ∧ y.size ≤ 8
      · have F : Hid (RetP pp w (.returned (.bool true)) (w.alloc (.cells #[.string x, .string y] 89))) := Lib.hid (RetP.yes (HP.out.2 ⟨⟨h1, h2⟩, h3⟩) (HA.out _))
        obtain ⟨h3, h4⟩ := h3
        rw [h1] at HX
        rw [h2] at HY
        clear h1 h2 HP
        have n1 : (x.size : Int) ≤ 8 := by omega
        have n2 : (y.size : Int) ≤ 8 := by omega
        go_enter Tryz.func95, Tryz.ntmps95
        go_wp2_with fail
        refine (HX.out _).mono ?_
        rintro e w' ⟨rfl, rfl⟩
        go_wp2_with fail
        refine (HY.out _).mono ?_
        rintro e w' ⟨rfl, rfl⟩
        go_wp2_with fail
        go_ret
        exact F.out
      · have F : Hid (RetP pp w (.returned (.bool false)) (w.alloc (.cells #[.string x, .string y] 89))) := Lib.hid (RetP.no (fun h => h3 (HP.out.1 h).2) (HA.out _))
        rw [h1] at HX
        rw [h2] at HY
        clear h1 h2 HP
        by_cases h4 : (x.size : Int) ≤ 8
        · have n2 : decide ((y.size : Int) ≤ 8) = false := decide_eq_false (by omega)
          go_enter Tryz.func95, Tryz.ntmps95
          go_wp2_with fail
          refine (HX.out _).mono ?_
          rintro e w' ⟨rfl, rfl⟩
          go_wp2_with fail
          refine (HY.out _).mono ?_
          rintro e w' ⟨rfl, rfl⟩
          go_wp2_with fail
          go_ret
          exact F.out
        · go_enter Tryz.func95, Tryz.ntmps95
          go_wp2_with fail
          refine (HX.out _).mono ?_
          rintro e w' ⟨rfl, rfl⟩
          go_wp2_with fail
          refine (HY.out _).mono ?_
          rintro e w' ⟨rfl, rfl⟩
          go_wp2_with fail
          go_ret
          exact F.out
theorem size_zero0 {u : ByteArray} (h : u.size = 0) : u = ⟨#[]⟩ := by
  obtain ⟨⟨x⟩⟩ := u
  cases x with
  | nil => rfl
  | cons a t => simp [ByteArray.size] at h
theorem alloc_belowS (w : World) (o : Obj) : Below w.heap.size w (w.alloc o) := (Below.refl _ _).alloc (Nat.le_refl _) _
/-- the cells of a block that holds a system -/
theorem sys_cells {W : World} {g : Nat} {u v : Value} {T : TypeId} (h : W.heap[g]? = some (.cells #[u, v] T (0, 0))) : W.cell? ⟨g, 0, none⟩ = some u ∧ W.cell? ⟨g, 1, none⟩ = some v := by
  refine ⟨by simp [World.cell?, h], by simp [World.cell?, h]⟩
set_option maxRecDepth 20000 in
set_option maxHeartbeats 1000000 in
theorem specRulesOk_any (k : Int) (l : List RulD) (a : Option Addr) (cap : Nat) (w : World) (hl : RulesIn w a l) (hlen : l.length ≤ 2 ^ 40) (hz : SzR l) :
    Calls Tryz.prog 68 #[.agg #[.int .i64 k, .slice a l.length cap]] w (RetP (rulesP k l) w) := by
  have HL := Lib.hid hl
  have HZ := Lib.hid hz
  have P1 := Lib.hid (fun W => l01In_any k 1 4 W)
  clear hl hz
  cases hb : inB k 1 4
  · have F : Hid (¬ rulesP k l) := Lib.hid (fun h => by have := h.1.1; simp [inB] at hb; omega)
    rw [hb] at P1
    clear hb
    go_enter Tryz.func68, Tryz.ntmps68
    go_wp2_with (go_at_call 71; refine (P1.out _).mono ?_; rintro e w' ⟨rfl, rfl⟩)
    go_ret
    exact RetP.no F.out ((Below.refl _ _).alloc (Nat.le_refl _) _)
  · have hb2 := inB_bounds hb
    rw [hb] at P1
    clear hb
    by_cases h12 : l.length ≤ 12
    · have n1 : ¬ (12 : Int) < (l.length : Int) := by omega
      have HST : Hid (∀ W : World, Below W.heap.size W (W.alloc (.cells #[.int .i64 k, .slice a l.length cap] 67))) := Lib.hid (fun W => (Below.refl _ _).alloc (Nat.le_refl _) _)
      have HB0 : Hid ((w.alloc (.cells #[.int .i64 k, .slice a l.length cap] 67)).heap[w.heap.size]? = some (.cells #[.int .i64 k, .slice a l.length cap] 67 (0, 0))) := Lib.hid (alloc_at _ _)
      go_enter Tryz.func68, Tryz.ntmps68
      go_wp2_with (go_at_call 71; refine (P1.out _).mono ?_; rintro e w' ⟨rfl, rfl⟩)
      clear P1 n1
      go_loopw [18] (fun i wr => ∃ j : Nat, j ≤ l.length ∧ i = .int .i64 (j : Nat) ∧ Hid (∀ j', j' < j → ruleP k (nthR l j')) ∧ Below (w.alloc (.cells #[.int .i64 k, .slice a l.length cap] 67)).heap.size (w.alloc (.cells #[.int .i64 k, .slice a l.length cap] 67)) wr) (fun i _ => l.length - (intOf i).toNat)
      case atStart => exact ⟨0, Nat.zero_le _, rfl, Lib.hid (fun j' h => absurd h (Nat.not_lt_zero _)), Below.refl _ _⟩
      case round =>
        obtain ⟨j, hj, rfl, hall, hbw⟩ := hrel
        have hbw1 := Below.now (HST.out w) hbw
        have hs0 := hbw.size
        have hb0 := (hbw.block w.heap.size (by simp)).trans HB0.out
        obtain ⟨s0, s1⟩ := sys_cells hb0
        have s0a : ∀ o, (wr.alloc o).cell? ⟨w.heap.size, 0, none⟩ = some (.int .i64 k) := fun o => by rw [(alloc_belowS wr o).cell (World.block_lt_of_cell? wr _ s0)]; exact s0
        have HBW := Lib.hid hbw
        clear hb0
        by_cases hlt : j < l.length
        · obtain ⟨b, off, rfl, hb, hc⟩ := (HL.out.later hbw1).cell hlt
          obtain ⟨c1, c2⟩ := hc j hlt
          obtain ⟨z1, z2⟩ := HZ.out j hlt
          have HR : Hid (ruleP k (nthR l j) ↔ sideP k ((nthR l j).1, (nthR l j).2) ∧ (nthR l j).1.size ≠ 0) := Lib.hid Iff.rfl
          have HNO : Hid (¬ ruleP k (nthR l j) → ¬ rulesP k l) := Lib.hid (fun h h2 => h (h2.2 _ (nthR_mem hlt)))
          have HYE : Hid (ruleP k (nthR l j) → ∀ j', j' < j + 1 → ruleP k (nthR l j')) := Lib.hid (fun h j' hj' => by
            by_cases e : j' = j
            · rw [e]; exact h
            · exact hall.out j' (by omega))
          clear hc hbw
          generalize ruleP k (nthR l j) = pp at *
          generalize (nthR l j).1 = x at *
          generalize (nthR l j).2 = y at *
          have HSD := Lib.hid (fun W => specSidesOk_any k x y W z1 z2)
          generalize sideP k (x, y) = sp at *
          go_wp2_with fail
          refine (HSD.out _).mono ?_
          rintro e w2 ⟨bb, hbb, rfl, hb2⟩
          have HBB := Lib.hid hbb
          have hw1s : (wr.alloc (.cells #[.string x, .string y] 89)).heap.size = wr.heap.size + 1 := by simp
          have hcx : w2.cell? ⟨wr.heap.size, 0, none⟩ = some (.string x) := by rw [hb2.cell (by simp)]; simp [World.cell?_alloc_new]
          have HW2 : Hid (Below (w.alloc (.cells #[.int .i64 k, .slice (some ⟨b, off, none⟩) l.length cap] 67)).heap.size (w.alloc (.cells #[.int .i64 k, .slice (some ⟨b, off, none⟩) l.length cap] 67)) w2) := Lib.hid (Below.now (HBW.out.alloc HBW.out.size _) hb2)
          clear hbb hb2 HSD s0 s0a s1 c1 c2 hw1s
          cases bb
          · have F := Lib.hid (HNO.out (fun h => by have := HBB.out.2 (HR.out.1 h).1; cases this))
            go_wp2_with fail
            go_ret
            exact RetP.no F.out (Below.now (HST.out w) HW2.out)
          · by_cases h0 : x.size = 0
            · have F := Lib.hid (HNO.out (fun h => (HR.out.1 h).2 h0))
              have n1 : (x.toList == []) = true := by rw [size_zero0 h0, Lib.toList_data]; rfl
              have n3 : x.toList = [] := by rw [size_zero0 h0, Lib.toList_data]
              clear h0
              go_wp2_with fail
              go_ret
              exact RetP.no F.out (Below.now (HST.out w) HW2.out)
            · have F := Lib.hid (HYE.out (HR.out.2 ⟨HBB.out.1 rfl, h0⟩))
              have hne : x.toList ≠ [] := fun h => h0 (by
                have h2 : x.data.toList = [] := by rw [← Lib.toList_data]; exact h
                have h3 : x.data.toList.length = 0 := by rw [h2]; rfl
                exact h3)
              have n1 : (x.toList == []) = false := by rw [beq_eq_false_iff_ne]; exact hne
              have n3 : x.toList.isEmpty = false := by rw [List.isEmpty_eq_false_iff]; exact hne
              clear h0 hne
              go_wp2_with fail
              go_roundw
              case rel => exact ⟨j + 1, by omega, by go_num, F, HW2.out⟩
              case measure => simp [intOf]; omega
        · have F : Hid (rulesP k l) := Lib.hid ⟨⟨hb2, h12⟩, fun r hr => by
            obtain ⟨i, hi, rfl⟩ := mem_nthR hr
            exact hall.out i (by omega)⟩
          go_wp2_with fail
          go_ret
          exact RetP.yes F.out hbw1
    · have F : Hid (¬ rulesP k l) := Lib.hid (fun h => h12 h.1.2)
      have n1 : (12 : Int) < (l.length : Int) := by omega
      clear h12
      go_enter Tryz.func68, Tryz.ntmps68
      go_wp2_with (go_at_call 71; refine (P1.out _).mono ?_; rintro e w' ⟨rfl, rfl⟩)
      go_ret
      exact RetP.no F.out ((Below.refl _ _).alloc (Nat.le_refl _) _)
end Go.Proofs.YtmgdglghjlggnaaGreat
namespace Go.Proofs.YtmgdglghjlggnaaGreat
open Go.RowKit
set_option linter.unusedVariables false
theorem full_facts {x : ByteArray} (h : ¬ x.size = 0) : (x.toList == []) = false ∧ x.toList.isEmpty = false := by
  have hne : x.toList ≠ [] := fun h1 => h (by
    have h2 : x.data.toList = [] := by rw [← Lib.toList_data]; exact h1
    have h3 : x.data.toList.length = 0 := by rw [h2]; rfl
    exact h3)
  exact ⟨by rw [beq_eq_false_iff_ne]; exact hne, by rw [List.isEmpty_eq_false_iff]; exact hne⟩
set_option maxRecDepth 20000 in
set_option maxHeartbeats 1000000 in
theorem specSystemOk_any (k : Int) (l : List RulD) (a : Option Addr) (cap : Nat) (w : World) (hl : RulesIn w a l) (hlen : l.length ≤ 2 ^ 40) (hz : SzR l) :
    Calls Tryz.prog 96 #[.agg #[.int .i64 k, .slice a l.length cap]] w (RetP (sysP k l) w) := by
  have HL := Lib.hid hl
  have HZ := Lib.hid hz
  have HR := Lib.hid (fun W h => specRulesOk_any k l a cap W h hlen hz)
  have HA := Lib.hid (fun o => alloc_belowS w o)
  clear hl hz
  go_enter Tryz.func96, Tryz.ntmps96
  go_wp2_with fail
  refine (HR.out _ (HL.out.later (HA.out _))).mono ?_
  rintro e w2 ⟨bb, hbb, rfl, hb2⟩
  have HBB := Lib.hid hbb
  have hb0 := (hb2.block w.heap.size (by simp)).trans (alloc_at w (.cells #[.int .i64 k, .slice a l.length cap] 67))
  obtain ⟨s0, s1⟩ := sys_cells hb0
  have HW2 := Lib.hid (Below.now (HA.out _) hb2)
  clear hbb hb2 HR hb0
  cases bb
  · have F : Hid (RetP (sysP k l) w (.returned (.bool false)) w2) := Lib.hid (RetP.no (fun h => by have := HBB.out.2 h.1; cases this) HW2.out)
    go_wp2_with fail
    go_ret
    exact F.out
  · have HRP := Lib.hid (HBB.out.1 rfl)
    clear HBB
    go_wp2_with fail
    clear s0 s1
    go_loopw [11] (fun i wr => ∃ j : Nat, j ≤ l.length ∧ i = .int .i64 (j : Nat) ∧ Hid (∀ j', j' < j → lessS (nthR l j').2 (nthR l j').1 = true) ∧ Below w.heap.size w wr) (fun i _ => l.length - (intOf i).toNat)
    case atStart => exact ⟨0, Nat.zero_le _, rfl, Lib.hid (fun j' h => absurd h (Nat.not_lt_zero _)), HW2.out⟩
    case round =>
      obtain ⟨j, hj, rfl, hall, hbw⟩ := hrel
      have HBW := Lib.hid hbw
      by_cases hlt : j < l.length
      · obtain ⟨b, off, rfl, hb, hc⟩ := (HL.out.later hbw).cell hlt
        obtain ⟨c1, c2⟩ := hc j hlt
        obtain ⟨z1, z2⟩ := HZ.out j hlt
        have HNO : Hid (¬ lessS (nthR l j).2 (nthR l j).1 = true → ¬ sysP k l) := Lib.hid (fun h h2 => h (h2.2 _ (nthR_mem hlt)))
        have HYE : Hid (lessS (nthR l j).2 (nthR l j).1 = true → ∀ j', j' < j + 1 → lessS (nthR l j').2 (nthR l j').1 = true) := Lib.hid (fun h j' hj' => by
          by_cases e : j' = j
          · rw [e]; exact h
          · exact hall.out j' (by omega))
        clear hc hbw
        generalize (nthR l j).1 = x at *
        generalize (nthR l j).2 = y at *
        have HLS := Lib.hid (fun W => specIsLess_any y x W z2 z1)
        cases hq : lessS y x
        · have F := Lib.hid (HNO.out (by rw [hq]; simp))
          rw [hq] at HLS
          clear hq HNO HYE
          go_wp2_with (go_at_call 111; refine (HLS.out _).mono ?_; rintro e w' ⟨rfl, rfl⟩)
          go_ret
          exact RetP.no F.out (HBW.out.alloc HBW.out.size _)
        · have F := Lib.hid (HYE.out hq)
          rw [hq] at HLS
          clear hq HNO HYE
          go_wp2_with (go_at_call 111; refine (HLS.out _).mono ?_; rintro e w' ⟨rfl, rfl⟩)
          go_roundw
          case rel => exact ⟨j + 1, by omega, by go_num, F, HBW.out.alloc HBW.out.size _⟩
          case measure => simp [intOf]; omega
      · have F : Hid (sysP k l) := Lib.hid ⟨HRP.out, fun r hr => by
          obtain ⟨i, hi, rfl⟩ := mem_nthR hr
          exact hall.out i (by omega)⟩
        go_wp2_with fail
        go_ret
        exact RetP.yes F.out HBW.out
/-- the length of the longest Left of the first j rules -/
def lsTo (l : List RulD) : Nat → Nat
  | 0 => 0
  | j + 1 => max (lsTo l j) (nthR l j).1.size
def lsL (l : List RulD) : Nat := lsTo l l.length
theorem lsTo_le {l : List RulD} (hz : SzR l) : ∀ j, j ≤ l.length → lsTo l j ≤ maxLen
  | 0, _ => by unfold lsTo maxLen; omega
  | j + 1, h => by
    have h1 := lsTo_le hz j (by omega)
    have h2 := (hz j (by omega)).1
    show max _ _ ≤ _
    omega
set_option maxRecDepth 20000 in
set_option maxHeartbeats 1000000 in
theorem specLongestSide_any (k : Int) (l : List RulD) (a : Option Addr) (cap : Nat) (w : World) (hl : RulesIn w a l) (hlen : l.length ≤ 2 ^ 40) (hz : SzR l) :
    Calls Tryz.prog 121 #[.agg #[.int .i64 k, .slice a l.length cap]] w fun e w' => e = .returned (.int .i64 (lsL l : Nat)) ∧ Below w.heap.size w w' := by
  have HL := Lib.hid hl
  have HZ := Lib.hid hz
  have HA := Lib.hid (fun o => alloc_belowS w o)
  clear hl hz
  go_enter Tryz.func121, Tryz.ntmps121
  go_wp2_with fail
  go_loopw [3, 9] (fun v i wr => ∃ j m : Nat, j ≤ l.length ∧ i = .int .i64 (j : Nat) ∧ v = .int .i64 (m : Nat) ∧ Hid (m = lsTo l j) ∧ m ≤ 9223372036854775807 ∧ Below w.heap.size w wr) (fun _ i _ => l.length - (intOf i).toNat)
  case atStart => exact ⟨0, 0, Nat.zero_le _, rfl, rfl, Lib.hid rfl, by omega, HA.out _⟩
  case round =>
    obtain ⟨j, m, hj, rfl, rfl, hm, hm9, hbw⟩ := hrel
    have HBW := Lib.hid hbw
    by_cases hlt : j < l.length
    · obtain ⟨b, off, rfl, hb, hc⟩ := (HL.out.later hbw).cell hlt
      obtain ⟨c1, c2⟩ := hc j hlt
      obtain ⟨z1, z2⟩ := HZ.out j hlt
      have F : Hid (lsTo l (j + 1) = max (lsTo l j) (nthR l j).1.size) := Lib.hid rfl
      rw [← hm.out] at F
      unfold maxLen at z1
      clear hc hbw
      generalize (nthR l j).1 = x at *
      generalize (nthR l j).2 = y at *
      have HMX : Hid (((max m x.size : Nat) : Int) = max (m : Int) (x.size : Int)) := Lib.hid (by omega)
      have hmx : max m x.size ≤ 9223372036854775807 := by omega
      go_wp2_with fail
      go_roundw
      case rel => exact ⟨j + 1, max m x.size, by omega, by go_num, by first | (rw [HMX.out]) | (simp; omega), Lib.hid F.out.symm, hmx, HBW.out.alloc HBW.out.size _⟩
      case measure => simp [intOf]; omega
    · obtain rfl : j = l.length := by omega
      have F : Hid ((m : Int) = (lsL l : Nat)) := Lib.hid (by rw [hm.out]; rfl)
      go_wp2_with fail
      go_ret
      exact ⟨ret_int F.out, HBW.out⟩
end Go.Proofs.YtmgdglghjlggnaaGreat
namespace Go.Proofs.YtmgdglghjlggnaaGreat
open Go.RowKit
set_option linter.unusedVariables false
def intVals (l : List Int) : List Value := l.map (Value.int .i64)
/-- the numbers below j with a property -/
def listTo (f : Nat → Bool) (j : Nat) : List Int := ((List.range j).filter f).map Int.ofNat
theorem listTo_yes {f : Nat → Bool} {j : Nat} (h : f j = true) : listTo f (j + 1) = listTo f j ++ [(j : Int)] := by
  simp [listTo, List.range_succ, h]
theorem listTo_no {f : Nat → Bool} {j : Nat} (h : f j = false) : listTo f (j + 1) = listTo f j := by
  simp [listTo, List.range_succ, h]
theorem listTo_len (f : Nat → Bool) (j : Nat) : (listTo f j).length ≤ j := by
  unfold listTo
  rw [List.length_map]
  exact Nat.le_trans (List.length_filter_le _ _) (by simp)
end Go.Proofs.YtmgdglghjlggnaaGreat
namespace Go.Proofs.YtmgdglghjlggnaaGreat
open Go.RowKit
set_option linter.unusedVariables false
theorem listTo_mem (f : Nat → Bool) (m : Nat) (x : Int) : x ∈ listTo f m ↔ ∃ j : Nat, x = j ∧ j < m ∧ f j = true := by
  unfold listTo
  simp only [List.mem_map, List.mem_filter, List.mem_range, Int.ofNat_eq_natCast]
  constructor
  · rintro ⟨j, h, rfl⟩; exact ⟨j, rfl, h⟩
  · rintro ⟨j, rfl, h⟩; exact ⟨j, h, rfl⟩
end Go.Proofs.YtmgdglghjlggnaaGreat
namespace Go.Proofs.YtmgdglghjlggnaaGreat
open Go.RowKit
set_option linter.unusedVariables false
/-- the number at a place of a list -/
def nthZ (l : List Int) (i : Nat) : Int := l.getD i 0
/-- the product of two elements -/
def tm (m : Nat) (ln : List Nat) (i k : Nat) : Nat := ln.getD (i * m + k) 0
def asc (m : Nat) (ln : List Nat) (i j k : Nat) : Bool := decide (tm m ln (tm m ln i j) k = tm m ln i (tm m ln j k))
def idn (m : Nat) (ln : List Nat) (i : Nat) : Bool := decide (tm m ln 0 i = i) && decide (tm m ln i 0 = i)
def ascRow (m : Nat) (ln : List Nat) (i j : Nat) : Bool := (List.range m).all (asc m ln i j)
def rowOk (m : Nat) (ln : List Nat) (i : Nat) : Bool := idn m ln i && (List.range m).all (ascRow m ln i)
def rowsOk (m : Nat) (ln : List Nat) : Bool := (List.range m).all (rowOk m ln)
/-- the numbers lie in range -/
def rngB (n : Int) (l : List Int) : Bool := l.all fun x => inB x 0 (n - 1)
/-- TableOk as a function of plain data -/
def tabB (n : Int) (l : List Int) : Bool := inB n 1 40 && (decide ((l.length : Int) = n * n) && (rngB n l && rowsOk n.toNat (l.map Int.toNat)))
/-- a table whose numbers lie in range -/
structure Tb (m : Nat) (ln : List Nat) : Prop where
  lo : 1 ≤ m
  hi : m ≤ 40
  len : ln.length = m * m
  rng : ∀ x ∈ ln, x < m
/-- a valid table -/
structure TabOk (m : Nat) (ln : List Nat) : Prop extends Tb m ln where
  left : ∀ i, i < m → tm m ln 0 i = i
  right : ∀ i, i < m → tm m ln i 0 = i
  assoc : ∀ i j k, i < m → j < m → k < m → tm m ln (tm m ln i j) k = tm m ln i (tm m ln j k)
theorem ix_lt {m i k : Nat} (hi : i < m) (hk : k < m) : i * m + k < m * m := by
  have := Nat.mul_le_mul_right m (show i + 1 ≤ m from hi)
  rw [Nat.add_mul] at this
  omega
theorem mul_le {m i : Nat} (hm : m ≤ 40) (hi : i < m) : i * m ≤ 1600 :=
  Nat.le_trans (Nat.mul_le_mul (Nat.le_of_lt hi) (Nat.le_refl _)) (by have := Nat.mul_le_mul hm hm; omega)
theorem sq_le {m : Nat} (hm : m ≤ 40) : m * m ≤ 1600 := by have := Nat.mul_le_mul hm hm; omega
theorem Tb.tm_lt {m : Nat} {ln : List Nat} (h : Tb m ln) {i k : Nat} (hi : i < m) (hk : k < m) : tm m ln i k < m := by
  have hlt : i * m + k < ln.length := by rw [h.len]; exact ix_lt hi hk
  unfold tm
  rw [List.getD_eq_getElem?_getD, List.getElem?_eq_getElem hlt]
  exact h.rng _ (List.getElem_mem hlt)
/-- a slice of natural numbers -/
def NatsIn (w : World) (a : Option Addr) (ln : List Nat) : Prop := IntsIn w a (ln.map Int.ofNat)
theorem NatsIn.later {w w' : World} {a : Option Addr} {l : List Nat} (h : NatsIn w a l) (hb : Below w.heap.size w w') : NatsIn w' a l := IntsIn.later h hb
/-- the cells of a table's products -/
theorem Tb.cell {m : Nat} {ln : List Nat} (h : Tb m ln) {w : World} {a : Option Addr} (hn : NatsIn w a ln) :
    ∃ b off, a = some ⟨b, off, none⟩ ∧ b < w.heap.size ∧ ∀ i k, i < m → k < m → w.cell? ⟨b, off + (i * m + k), none⟩ = some (.int .i64 (tm m ln i k : Nat)) := by
  have h0 : 0 * m + 0 < m * m := ix_lt h.lo h.lo
  obtain ⟨b, off, ha, hc⟩ := IntsIn.at hn (i := 0) (by simp [h.len]; omega)
  have key : ∀ i k, i < m → k < m → w.cell? ⟨b, off + (i * m + k), none⟩ = some (.int .i64 (tm m ln i k : Nat)) := by
    intro i k hi hk
    have hlt : i * m + k < ln.length := by rw [h.len]; exact ix_lt hi hk
    rw [hc _ (by simpa using hlt)]
    simp [tm, List.getD_eq_getElem?_getD, hlt]
  exact ⟨b, off, ha, World.block_lt_of_cell? w _ (key 0 0 h.lo h.lo), key⟩
theorem all_range {m : Nat} {p : Nat → Bool} : (List.range m).all p = true ↔ ∀ i, i < m → p i = true := by simp
theorem all_range_false {m : Nat} {p : Nat → Bool} {i : Nat} (hi : i < m) (h : p i = false) : (List.range m).all p = false := by
  rw [List.all_eq_false]; exact ⟨i, by simpa using hi, by simp [h]⟩
/-- the first c of them hold -/
def upto (p : Nat → Bool) (c : Nat) : Prop := ∀ i, i < c → p i = true
theorem upto_zero (p : Nat → Bool) : upto p 0 := fun _ h => absurd h (Nat.not_lt_zero _)
theorem upto_succ {p : Nat → Bool} {c : Nat} (h : upto p c) (hc : p c = true) : upto p (c + 1) := fun i hi => by
  by_cases e : i = c
  · rw [e]; exact hc
  · exact h i (by omega)
theorem upto_all {p : Nat → Bool} {c m : Nat} (h : upto p c) (hc : ¬ c < m) : (List.range m).all p = true := all_range.2 fun i hi => h i (by omega)
theorem nthZ_lt {l : List Int} {j : Nat} (h : j < l.length) : nthZ l j = l[j] := by simp [nthZ, List.getD_eq_getElem?_getD, h]
theorem IntsIn.cell {w : World} {a : Option Addr} {l : List Int} (h : IntsIn w a l) {i : Nat} (hi : i < l.length) :
    ∃ b off, a = some ⟨b, off, none⟩ ∧ b < w.heap.size ∧ ∀ j, j < l.length → w.cell? ⟨b, off + j, none⟩ = some (.int .i64 (nthZ l j)) := by
  obtain ⟨b, off, ha, hc⟩ := h.at hi
  exact ⟨b, off, ha, World.block_lt_of_cell? w _ (hc i hi), hc⟩
theorem tabB_notn {n : Int} {l : List Int} (h : inB n 1 40 = false) : tabB n l = false := by simp [tabB, h]
theorem tabB_notlen {n : Int} {l : List Int} (h : ¬ (l.length : Int) = n * n) : tabB n l = false := by simp [tabB, h]
theorem tabB_notrng {n : Int} {l : List Int} (h : rngB n l = false) : tabB n l = false := by simp [tabB, h]
theorem tabB_rows {m : Nat} {ln : List Nat} {b : Bool} (h : Tb m ln) (hr : rowsOk m ln = b) : tabB m (ln.map Int.ofNat) = b := by
  have h1 : inB (m : Int) 1 40 = true := by have := h.lo; have := h.hi; simp [inB]; omega
  have h2 : ((ln.map Int.ofNat).length : Int) = (m : Int) * m := by simp [h.len]
  have h3 : rngB (m : Int) (ln.map Int.ofNat) = true := by
    unfold rngB
    rw [List.all_eq_true]
    intro x hx
    obtain ⟨y, hy, rfl⟩ := List.mem_map.1 hx
    have := h.rng y hy
    simp [inB]; omega
  have h4 : (ln.map Int.ofNat).map Int.toNat = ln := by rw [List.map_map]; exact List.map_id'' (fun x => rfl) ln
  simp [tabB, h1, h3, h4, hr, h.len]
/-- out of the first three tests -/
theorem tb_of {n : Int} {l : List Int} (h1 : inB n 1 40 = true) (h2 : (l.length : Int) = n * n) (h3 : rngB n l = true) : ∃ m ln, n = (m : Nat) ∧ l = ln.map Int.ofNat ∧ Tb m ln := by
  have hn : 1 ≤ n ∧ n ≤ 40 := by simpa [inB] using h1
  obtain ⟨m, rfl⟩ := Int.eq_ofNat_of_zero_le (show 0 ≤ n by omega)
  unfold rngB at h3
  rw [List.all_eq_true] at h3
  refine ⟨m, l.map Int.toNat, rfl, ?_, ⟨by omega, by omega, ?_, ?_⟩⟩
  · rw [List.map_map]
    symm
    have : ∀ x ∈ l, (Int.ofNat ∘ Int.toNat) x = x := fun x hx => by
      have := h3 x hx
      simp [inB] at this
      simp; omega
    rw [List.map_congr_left this]
    simp
  · simp only [List.length_map]
    have : ((l.length : Nat) : Int) = ((m * m : Nat) : Int) := by rw [h2]; simp
    omega
  · intro x hx
    obtain ⟨y, hy, rfl⟩ := List.mem_map.1 hx
    have := h3 y hy
    simp [inB] at this
    omega
theorem tabOk_of {m : Nat} {ln : List Nat} (h : Tb m ln) (hr : rowsOk m ln = true) : TabOk m ln := by
  have h1 := all_range.1 hr
  refine ⟨h, fun i hi => ?_, fun i hi => ?_, fun i j k hi hj hk => ?_⟩
  · have := h1 i hi; simp [rowOk, idn] at this; exact this.1.1
  · have := h1 i hi; simp [rowOk, idn] at this; exact this.1.2
  · have := h1 i hi
    simp only [rowOk, Bool.and_eq_true] at this
    have := all_range.1 (all_range.1 this.2 j hj) k hk
    simpa [asc] using this
/-- a valid table's two forms -/
theorem tabOk_out {n : Int} {l : List Int} (h : tabB n l = true) : ∃ m ln, n = (m : Nat) ∧ l = ln.map Int.ofNat ∧ TabOk m ln := by
  have h' := h
  simp only [tabB, Bool.and_eq_true, decide_eq_true_eq] at h
  obtain ⟨h1, h2, h3, h4⟩ := h
  obtain ⟨m, ln, rfl, rfl, ht⟩ := tb_of h1 h2 h3
  refine ⟨m, ln, rfl, rfl, tabOk_of ht ?_⟩
  have h5 : (ln.map Int.ofNat).map Int.toNat = ln := by rw [List.map_map]; exact List.map_id'' (fun x => rfl) ln
  rw [h5] at h4
  exact h4
theorem idn_of {m : Nat} {ln : List Nat} {c : Nat} (h1 : (((tm m ln 0 c : Nat) : Int) != (c : Nat)) = false) (h2 : (((tm m ln c 0 : Nat) : Int) != (c : Nat)) = false) : idn m ln c = true := by
  simp at h1 h2; simp [idn]; omega
theorem idn_not1 {m : Nat} {ln : List Nat} {c : Nat} (h1 : (((tm m ln 0 c : Nat) : Int) != (c : Nat)) = true) : idn m ln c = false := by
  simp at h1; simp [idn]; omega
theorem idn_not2 {m : Nat} {ln : List Nat} {c : Nat} (h1 : (((tm m ln c 0 : Nat) : Int) != (c : Nat)) = true) : idn m ln c = false := by
  simp at h1; simp [idn]; omega
theorem rowsOk_idn {m : Nat} {ln : List Nat} {c : Nat} (hc : c < m) (h : idn m ln c = false) : rowsOk m ln = false := all_range_false hc (by simp [rowOk, h])
theorem rowsOk_asc {m : Nat} {ln : List Nat} {i j k : Nat} (hi : i < m) (hj : j < m) (hk : k < m) (h : asc m ln i j k = false) : rowsOk m ln = false :=
  all_range_false hi (by unfold rowOk; rw [all_range_false hj (all_range_false hk h)]; simp)
theorem asc_of {m : Nat} {ln : List Nat} {i j k : Nat} {b : Bool} (h : (((tm m ln (tm m ln i j) k : Nat) : Int) != ((tm m ln i (tm m ln j k) : Nat) : Int)) = b) : asc m ln i j k = !b := by
  cases b <;> simp at h <;> simp [asc] <;> omega
theorem rowOk_of {m : Nat} {ln : List Nat} {c x : Nat} (h : idn m ln c = true) (h2 : upto (ascRow m ln c) x) (hx : ¬ x < m) : rowOk m ln c = true := by
  unfold rowOk; rw [h, upto_all h2 hx]; rfl
theorem ascRow_of {m : Nat} {ln : List Nat} {c d x : Nat} (h2 : upto (asc m ln c d) x) (hx : ¬ x < m) : ascRow m ln c d = true := upto_all h2 hx
end Go.Proofs.YtmgdglghjlggnaaGreat
namespace Go.Proofs.YtmgdglghjlggnaaGreat
open Go.RowKit
set_option linter.unusedVariables false
set_option maxHeartbeats 400000 in
theorem implTimes_any (m : Nat) (ln : List Nat) (a : Option Addr) (len cap i k : Nat) (w : World) (hl : NatsIn w a ln) (hT : Tb m ln) (hlen : len = m * m) (hi : i < m) (hk : k < m) :
    Calls Tryz.prog 43 #[.agg #[.int .i64 m, .slice a len cap], .int .i64 i, .int .i64 k] w fun e w' => e = .returned (.int .i64 (tm m ln i k : Nat)) ∧ Below w.heap.size w w' := by
  have h1 : i * m + k < len := by rw [hlen]; exact ix_lt hi hk
  have h2 := mul_le hT.hi hi
  have h3 : len ≤ 1600 := by rw [hlen]; exact sq_le hT.hi
  clear hlen
  obtain ⟨b, off, rfl, hb, hc⟩ := hT.cell hl
  have hc1 := hc i k hi hk
  have HT := Lib.hid hT
  clear hc hT hl
  go_enter Tryz.func43, Tryz.ntmps43
  go_wp2
  go_ret
  exact ⟨rfl, (Below.refl _ _).alloc (Nat.le_refl _) _⟩
end Go.Proofs.YtmgdglghjlggnaaGreat
