/-
  Links: slices of two integers and a bool; FormatLinks, of the program and of the reference.
-/
import Derived.Test.YtoddpmdjjgnpgaaGreatDoorTxt09
import Derived.Test.YtoddpmdjjgnpgaaGreatDoorTxt04
import Derived.Test.YtoddpmdjjgnpgaaGreatDoorTxt05
import Derived.Test.YtoddpmdjjgnpgaaGreatDoorTxt01
import Derived.Deep.RegionHeld3
namespace Go.Proofs.YtoddpmdjjgnpgaaGreatDoor
open Go.RowKit
set_option linter.unusedVariables false
/-- a part that does not do -/
def badP (n : Nat) (p : ByteArray) : Bool := decide (8 < p.size) || !wordOkB (n : Nat) p
def subB (l : List ByteArray) : Bool := inB (l.length : Nat) 1 4 && !(l.any (badP l.length))
def tagB (r : Int) (l : List ByteArray) : Bool := inB r 1 4 && subB l
/-- the sizes can be measured -/
def SzS (l : List ByteArray) : Prop := ∀ j, j < l.length → (nthS l j).size ≤ maxLen
theorem any_bad {l : List ByteArray} {n j : Nat} (hj : j < l.length) (h : badP n (nthS l j) = true) : l.any (badP n) = true := by
  rw [List.any_eq_true]; exact ⟨nthS l j, by rw [nthS_lt hj]; exact List.getElem_mem hj, h⟩
theorem any_none {l : List ByteArray} {n : Nat} (h : ∀ j, j < l.length → badP n (nthS l j) = false) : l.any (badP n) = false := by
  rw [List.any_eq_false]
  intro x hx
  obtain ⟨j, hj, rfl⟩ := List.getElem_of_mem hx
  rw [← nthS_lt hj, h j hj]; exact Bool.false_ne_true
theorem badP_big {n : Nat} {p : ByteArray} (h : 8 < p.size) : badP n p = true := by unfold badP; rw [decide_eq_true h]; rfl
theorem badP_small {n : Nat} {p : ByteArray} (h : ¬ 8 < p.size) : badP n p = !wordOkB (n : Nat) p := by unfold badP; rw [decide_eq_false h]; rfl
set_option maxHeartbeats 1000000 in
theorem specSub_any (l : List ByteArray) (a : Option Addr) (cap : Nat) (w : World) (hl : StrsIn w a l) (hlen : l.length ≤ 2 ^ 40) (hz : SzS l) :
    Calls Tryz.prog 62 #[.slice a l.length cap] w fun e w' => e = .returned (.bool (subB l)) ∧ Below w.heap.size w w' := by
  have HL := Lib.hid hl
  have HP := Lib.hid (fun W => l01In_any (l.length : Nat) 1 4 W)
  have HZ := Lib.hid hz
  clear hl hz
  cases hb : inB (l.length : Nat) 1 4
  · have F : Hid (subB l = false) := Lib.hid (by unfold subB; rw [hb]; rfl)
    rw [hb] at HP
    clear hb
    go_enter Tryz.func62, Tryz.ntmps62
    go_wp2_with fail
    refine (HP.out _).mono ?_
    rintro e w2 ⟨rfl, rfl⟩
    go_wp2_with fail
    go_ret
    exact ⟨ret_bool F.out.symm, Below.refl _ _⟩
  · have FT : Hid (l.any (badP l.length) = false → subB l = true) := Lib.hid (fun h => by unfold subB; rw [hb, h]; rfl)
    have FF : Hid (l.any (badP l.length) = true → subB l = false) := Lib.hid (fun h => by unfold subB; rw [h]; simp)
    rw [hb] at HP
    clear hb
    go_enter Tryz.func62, Tryz.ntmps62
    go_wp2_with fail
    refine (HP.out _).mono ?_
    rintro e w2 ⟨rfl, rfl⟩
    go_wp2_with fail
    go_loopw [11] (fun i wr => ∃ j : Nat, j ≤ l.length ∧ i = .int .i64 (j : Nat) ∧ Hid (∀ j', j' < j → badP l.length (nthS l j') = false) ∧ Hid (Below w.heap.size w wr)) (fun i _ => l.length - (intOf i).toNat)
    case atStart => exact ⟨0, Nat.zero_le _, rfl, Lib.hid (fun j' h => absurd h (Nat.not_lt_zero _)), Lib.hid (Below.refl _ _)⟩
    case round =>
      obtain ⟨j, hj, rfl, HA, HB⟩ := hrel
      by_cases hlt : j < l.length
      · obtain ⟨b, off, rfl, hb, hc⟩ := (HL.out.later HB.out).cell hlt
        have c1 := hc j hlt
        have hzj := HZ.out j hlt
        have HW := Lib.hid (fun W => specWordOk_any (l.length : Nat) (nthS l j) W hzj)
        have HY : Hid (badP l.length (nthS l j) = true → subB l = false) := Lib.hid (fun h => FF.out (any_bad hlt h))
        have HN : Hid (badP l.length (nthS l j) = false → ∀ j', j' < j + 1 → badP l.length (nthS l j') = false) := Lib.hid (fun h j' hj' => by
          by_cases e : j' = j
          · rw [e]; exact h
          · exact HA.out j' (by omega))
        have HBG : Hid (8 < (nthS l j).size → badP l.length (nthS l j) = true) := Lib.hid badP_big
        have HBS : Hid (¬ 8 < (nthS l j).size → badP l.length (nthS l j) = !wordOkB (l.length : Nat) (nthS l j)) := Lib.hid badP_small
        have HBW : Hid (wordOkB (l.length : Nat) (nthS l j) = false → badP l.length (nthS l j) = true) := Lib.hid (fun h => by unfold badP; rw [h]; simp)
        clear hc
        generalize badP l.length (nthS l j) = bp at *
        generalize wordOkB (l.length : Nat) (nthS l j) = wk at *
        generalize nthS l j = x at *
        unfold maxLen at hzj
        cases wk
        · have F := Lib.hid (HY.out (HBW.out rfl))
          go_wp2_with fail
          refine (HW.out _).mono ?_
          rintro e w3 ⟨rfl, rfl⟩
          go_wp2_with fail
          go_ret
          exact ⟨ret_bool F.out.symm, HB.out⟩
        · by_cases h8 : 8 < x.size
          · have F := Lib.hid (HY.out (HBG.out h8))
            have h8i : (8 : Int) < (x.size : Int) := by omega
            clear h8
            go_wp2_with fail
            refine (HW.out _).mono ?_
            rintro e w3 ⟨rfl, rfl⟩
            go_wp2_with fail
            go_ret
            exact ⟨ret_bool F.out.symm, HB.out⟩
          · have F := Lib.hid (HN.out (HBS.out h8))
            have h8i : ¬ (8 : Int) < (x.size : Int) := by omega
            clear h8
            go_wp2_with fail
            refine (HW.out _).mono ?_
            rintro e w3 ⟨rfl, rfl⟩
            go_wp2_with fail
            go_roundw
            case rel => exact ⟨j + 1, by omega, by go_num, F, HB⟩
            case measure => simp [intOf]; omega
      · have F := Lib.hid (FT.out (any_none (fun j' h => HA.out j' (by omega))))
        go_wp2_with fail
        go_ret
        exact ⟨ret_bool F.out.symm, HB.out⟩
set_option maxHeartbeats 1000000 in
theorem subOk1_any (l : List ByteArray) (a : Option Addr) (cap : Nat) (x : ByteArray) (box : Nat) (w : World) (hx : x.size ≤ maxLen) (hlen : l.length ≤ 2 ^ 40) (hk : w.cell? ⟨box, 0, none⟩ = some (.slice a l.length cap)) :
    Calls Tryz.prog 124 #[.string x, .pointer (some ⟨box, 0, none⟩)] w fun e w' => e = .returned (.bool (badP l.length x)) ∧ Below w.heap.size w w' := by
  have HW := Lib.hid (fun W => implWordOk_any (l.length : Nat) x W hx)
  unfold maxLen at hx
  have HBG : Hid (8 < x.size → badP l.length x = true) := Lib.hid badP_big
  have HBS : Hid (¬ 8 < x.size → badP l.length x = !wordOkB (l.length : Nat) x) := Lib.hid badP_small
  generalize badP l.length x = bp at *
  generalize wordOkB (l.length : Nat) x = wk at *
  by_cases h8 : 8 < x.size
  · have F := Lib.hid (HBG.out h8)
    have h8i : (8 : Int) < (x.size : Int) := by omega
    clear h8
    go_enter Tryz.func124, Tryz.ntmps124
    go_wp2_with fail
    go_ret
    exact ⟨ret_bool F.out.symm, Below.refl _ _⟩
  · have F := Lib.hid (HBS.out h8)
    have h8i : ¬ (8 : Int) < (x.size : Int) := by omega
    clear h8
    go_enter Tryz.func124, Tryz.ntmps124
    go_wp2_with fail
    refine (HW.out _).mono ?_
    rintro e w3 ⟨rfl, rfl⟩
    go_wp2_with fail
    go_ret
    exact ⟨ret_bool F.out.symm, Below.refl _ _⟩
set_option maxHeartbeats 1000000 in
theorem implSub_any (l : List ByteArray) (a : Option Addr) (cap : Nat) (w : World) (hl : StrsIn w a l) (hlen : l.length ≤ 2 ^ 40) (hz : SzS l) :
    Calls Tryz.prog 79 #[.slice a l.length cap] w fun e w' => e = .returned (.bool (subB l)) ∧ Below w.heap.size w w' := by
  have HP := Lib.hid (fun W => within_any (l.length : Nat) 1 4 W)
  have HA := Lib.hid (alloc_belowS w (.cells #[.slice a l.length cap] 47))
  have hbx : (w.alloc (.cells #[.slice a l.length cap] 47)).cell? ⟨w.heap.size, 0, none⟩ = some (.slice a l.length cap) := by simp
  have HC := Lib.hid (containsFuncStrs_any 124 #[.pointer (some ⟨w.heap.size, 0, none⟩)] (badP l.length) l a cap (w.alloc (.cells #[.slice a l.length cap] 47)) (hl.later HA.out) (by omega) (w.heap.size + 1) (by simp) (fun j hj W hW =>
    subOk1_any l a cap (nthS l j) w.heap.size W (hz j hj) hlen (by rw [hW.cell (p := ⟨w.heap.size, 0, none⟩) (by simp)]; exact hbx)) (enters_of Tryz.func124 (by kernel_rfl) rfl))
  clear hbx hl hz
  cases hb : inB (l.length : Nat) 1 4
  · have F : Hid (subB l = false) := Lib.hid (by unfold subB; rw [hb]; rfl)
    rw [hb] at HP
    clear hb
    go_enter Tryz.func79, Tryz.ntmps79
    go_wp2_with fail
    refine (HP.out _).mono ?_
    rintro e w2 ⟨rfl, rfl⟩
    go_wp2_with fail
    go_ret
    exact ⟨ret_bool F.out.symm, HA.out⟩
  · have F : Hid (subB l = !(l.any (badP l.length))) := Lib.hid (by unfold subB; rw [hb]; rfl)
    rw [hb] at HP
    clear hb
    generalize l.any (badP l.length) = bp at *
    go_enter Tryz.func79, Tryz.ntmps79
    go_wp2_with fail
    refine (HP.out _).mono ?_
    rintro e w2 ⟨rfl, rfl⟩
    go_wp2_with fail
    refine HC.out.mono ?_
    rintro e w3 ⟨rfl, hb3⟩
    have HB3 := Lib.hid (Below.now HA.out hb3)
    clear hb3
    go_wp2_with fail
    go_ret
    exact ⟨ret_bool F.out.symm, HB3.out⟩
end Go.Proofs.YtoddpmdjjgnpgaaGreatDoor
namespace Go.Proofs.YtoddpmdjjgnpgaaGreatDoor
open Go.RowKit
set_option linter.unusedVariables false
theorem tag_cells {W : World} {B : Nat} {x y : Value} {T : TypeId} (h : W.heap[B]? = some (.cells #[x, y] T (0, 0))) : W.cell? ⟨B, 0, none⟩ = some x ∧ W.cell? ⟨B, 1, none⟩ = some y := by
  constructor <;> simp [World.cell?, h]
theorem tagB_of {r : Int} {l : List ByteArray} (h : inB r 1 4 = true) : tagB r l = subB l := by unfold tagB; rw [h]; rfl
theorem tagB_no {r : Int} {l : List ByteArray} (h : inB r 1 4 = false) : tagB r l = false := by unfold tagB; rw [h]; rfl
theorem subB_of {l : List ByteArray} (h : inB (l.length : Nat) 1 4 = true) : subB l = !(l.any (badP l.length)) := by unfold subB; rw [h]; rfl
theorem subB_no {l : List ByteArray} (h : inB (l.length : Nat) 1 4 = false) : subB l = false := by unfold subB; rw [h]; rfl
set_option maxHeartbeats 1000000 in
theorem specTag_any (r : Int) (l : List ByteArray) (a : Option Addr) (cap : Nat) (w : World) (hl : StrsIn w a l) (hlen : l.length ≤ 2 ^ 40) (hz : SzS l) :
    Calls Tryz.prog 60 #[.agg #[.int .i64 r, .slice a l.length cap]] w fun e w' => e = .returned (.bool (tagB r l)) ∧ Below w.heap.size w w' := by
  have HW1 := Lib.hid (alloc_belowS w (.cells #[.int .i64 r, .slice a l.length cap] 49))
  have HL := Lib.hid (hl.later HW1.out)
  have HP := Lib.hid (fun W => l01In_any (l.length : Nat) 1 4 W)
  have HR := Lib.hid (fun W => l01In_any r 1 4 W)
  have HZ := Lib.hid hz
  have HBX := Lib.hid (alloc_at w (.cells #[.int .i64 r, .slice a l.length cap] 49))
  clear hl hz
  cases hr : inB r 1 4
  · have F := Lib.hid (tagB_no (l := l) hr)
    rw [hr] at HR
    clear hr
    go_enter Tryz.func60, Tryz.ntmps60
    go_wp2_with fail
    refine (HR.out _).mono ?_
    rintro e w2 ⟨rfl, rfl⟩
    go_wp2_with fail
    go_ret
    exact ⟨ret_bool F.out.symm, HW1.out⟩
  have HT := Lib.hid (tagB_of (l := l) hr)
  rw [hr] at HR
  clear hr
  cases hb : inB (l.length : Nat) 1 4
  · have F := Lib.hid (HT.out.trans (subB_no hb))
    rw [hb] at HP
    clear hb
    go_enter Tryz.func60, Tryz.ntmps60
    go_wp2_with fail
    refine (HR.out _).mono ?_
    rintro e w2 ⟨rfl, rfl⟩
    go_wp2_with fail
    refine (HP.out _).mono ?_
    rintro e w2 ⟨rfl, rfl⟩
    go_wp2_with fail
    go_ret
    exact ⟨ret_bool F.out.symm, HW1.out⟩
  · have FT : Hid (l.any (badP l.length) = false → tagB r l = true) := Lib.hid (fun h => by rw [HT.out, subB_of hb, h]; rfl)
    have FF : Hid (l.any (badP l.length) = true → tagB r l = false) := Lib.hid (fun h => by rw [HT.out, subB_of hb, h]; rfl)
    rw [hb] at HP
    clear hb
    go_enter Tryz.func60, Tryz.ntmps60
    go_wp2_with fail
    refine (HR.out _).mono ?_
    rintro e w2 ⟨rfl, rfl⟩
    go_wp2_with fail
    refine (HP.out _).mono ?_
    rintro e w2 ⟨rfl, rfl⟩
    go_wp2_with fail
    generalize w.alloc (.cells #[.int .i64 r, .slice a l.length cap] 49) = w1 at *
    go_loopw [19] (fun i wr => ∃ j : Nat, j ≤ l.length ∧ i = .int .i64 (j : Nat) ∧ Hid (∀ j', j' < j → badP l.length (nthS l j') = false) ∧ Hid (Below w1.heap.size w1 wr)) (fun i _ => l.length - (intOf i).toNat)
    case atStart => exact ⟨0, Nat.zero_le _, rfl, Lib.hid (fun j' h => absurd h (Nat.not_lt_zero _)), Lib.hid (Below.refl _ _)⟩
    case round =>
      obtain ⟨j, hj, rfl, HA, HB⟩ := hrel
      by_cases hlt : j < l.length
      · obtain ⟨b, off, rfl, hb, hc⟩ := (HL.out.later HB.out).cell hlt
        have c1 := hc j hlt
        have hzj := HZ.out j hlt
        obtain ⟨q0, q1⟩ := tag_cells ((HB.out.block w.heap.size (Array.getElem?_eq_some_iff.1 HBX.out).1).trans HBX.out)
        have HW := Lib.hid (fun W => specWordOk_any (l.length : Nat) (nthS l j) W hzj)
        have HY : Hid (badP l.length (nthS l j) = true → tagB r l = false) := Lib.hid (fun h => FF.out (any_bad hlt h))
        have HN : Hid (badP l.length (nthS l j) = false → ∀ j', j' < j + 1 → badP l.length (nthS l j') = false) := Lib.hid (fun h j' hj' => by
          by_cases e : j' = j
          · rw [e]; exact h
          · exact HA.out j' (by omega))
        have HBG : Hid (8 < (nthS l j).size → badP l.length (nthS l j) = true) := Lib.hid badP_big
        have HBS : Hid (¬ 8 < (nthS l j).size → badP l.length (nthS l j) = !wordOkB (l.length : Nat) (nthS l j)) := Lib.hid badP_small
        have HBW : Hid (wordOkB (l.length : Nat) (nthS l j) = false → badP l.length (nthS l j) = true) := Lib.hid (fun h => by unfold badP; rw [h]; simp)
        have HBN := Lib.hid (Below.now HW1.out HB.out)
        clear hc
        generalize badP l.length (nthS l j) = bp at *
        generalize wordOkB (l.length : Nat) (nthS l j) = wk at *
        generalize nthS l j = x at *
        unfold maxLen at hzj
        cases wk
        · have F := Lib.hid (HY.out (HBW.out rfl))
          go_wp2_with fail
          refine (HW.out _).mono ?_
          rintro e w3 ⟨rfl, rfl⟩
          go_wp2_with fail
          go_ret
          exact ⟨ret_bool F.out.symm, HBN.out⟩
        · by_cases h8 : 8 < x.size
          · have F := Lib.hid (HY.out (HBG.out h8))
            have h8i : (8 : Int) < (x.size : Int) := by omega
            clear h8
            go_wp2_with fail
            refine (HW.out _).mono ?_
            rintro e w3 ⟨rfl, rfl⟩
            go_wp2_with fail
            go_ret
            exact ⟨ret_bool F.out.symm, HBN.out⟩
          · have F := Lib.hid (HN.out (HBS.out h8))
            have h8i : ¬ (8 : Int) < (x.size : Int) := by omega
            clear h8
            go_wp2_with fail
            refine (HW.out _).mono ?_
            rintro e w3 ⟨rfl, rfl⟩
            go_wp2_with fail
            go_roundw
            case rel => exact ⟨j + 1, by omega, by go_num, F, HB⟩
            case measure => simp [intOf]; omega
      · have F := Lib.hid (FT.out (any_none (fun j' h => HA.out j' (by omega))))
        have HBN := Lib.hid (Below.now HW1.out HB.out)
        go_wp2_with fail
        go_ret
        exact ⟨ret_bool F.out.symm, HBN.out⟩
set_option maxHeartbeats 1000000 in
theorem tagOk1_any (r : Value) (l : List ByteArray) (a : Option Addr) (cap : Nat) (x : ByteArray) (box : Nat) (w : World) (hx : x.size ≤ maxLen) (hlen : l.length ≤ 2 ^ 40) (hk : w.heap[box]? = some (.cells #[r, .slice a l.length cap] 49 (0, 0))) :
    Calls Tryz.prog 122 #[.string x, .pointer (some ⟨box, 0, none⟩)] w fun e w' => e = .returned (.bool (badP l.length x)) ∧ Below w.heap.size w w' := by
  have HW := Lib.hid (fun W => implWordOk_any (l.length : Nat) x W hx)
  obtain ⟨q0, q1⟩ := tag_cells hk
  clear hk
  unfold maxLen at hx
  have HBG : Hid (8 < x.size → badP l.length x = true) := Lib.hid badP_big
  have HBS : Hid (¬ 8 < x.size → badP l.length x = !wordOkB (l.length : Nat) x) := Lib.hid badP_small
  generalize badP l.length x = bp at *
  generalize wordOkB (l.length : Nat) x = wk at *
  by_cases h8 : 8 < x.size
  · have F := Lib.hid (HBG.out h8)
    have h8i : (8 : Int) < (x.size : Int) := by omega
    clear h8
    go_enter Tryz.func122, Tryz.ntmps122
    go_wp2_with fail
    go_ret
    exact ⟨ret_bool F.out.symm, Below.refl _ _⟩
  · have F := Lib.hid (HBS.out h8)
    have h8i : ¬ (8 : Int) < (x.size : Int) := by omega
    clear h8
    go_enter Tryz.func122, Tryz.ntmps122
    go_wp2_with fail
    refine (HW.out _).mono ?_
    rintro e w3 ⟨rfl, rfl⟩
    go_wp2_with fail
    go_ret
    exact ⟨ret_bool F.out.symm, Below.refl _ _⟩
set_option maxHeartbeats 1000000 in
theorem implTag_any (r : Int) (l : List ByteArray) (a : Option Addr) (cap : Nat) (w : World) (hl : StrsIn w a l) (hlen : l.length ≤ 2 ^ 40) (hz : SzS l) :
    Calls Tryz.prog 76 #[.agg #[.int .i64 r, .slice a l.length cap]] w fun e w' => e = .returned (.bool (tagB r l)) ∧ Below w.heap.size w w' := by
  have HP := Lib.hid (fun W => within_any (l.length : Nat) 1 4 W)
  have HR := Lib.hid (fun W => within_any r 1 4 W)
  have HA := Lib.hid (alloc_belowS w (.cells #[.int .i64 r, .slice a l.length cap] 49))
  have hbx := alloc_at w (.cells #[.int .i64 r, .slice a l.length cap] 49)
  have HC := Lib.hid (containsFuncStrs_any 122 #[.pointer (some ⟨w.heap.size, 0, none⟩)] (badP l.length) l a cap (w.alloc (.cells #[.int .i64 r, .slice a l.length cap] 49)) (hl.later HA.out) (by omega) (w.heap.size + 1) (by simp) (fun j hj W hW =>
    tagOk1_any (.int .i64 r) l a cap (nthS l j) w.heap.size W (hz j hj) hlen ((hW.block w.heap.size (by omega)).trans hbx)) (enters_of Tryz.func122 (by kernel_rfl) rfl))
  clear hbx hl hz
  cases hr : inB r 1 4
  · have F := Lib.hid (tagB_no (l := l) hr)
    rw [hr] at HR
    clear hr
    go_enter Tryz.func76, Tryz.ntmps76
    go_wp2_with fail
    refine (HR.out _).mono ?_
    rintro e w2 ⟨rfl, rfl⟩
    go_wp2_with fail
    go_ret
    exact ⟨ret_bool F.out.symm, HA.out⟩
  have HT := Lib.hid (tagB_of (l := l) hr)
  rw [hr] at HR
  clear hr
  cases hb : inB (l.length : Nat) 1 4
  · have F := Lib.hid (HT.out.trans (subB_no hb))
    rw [hb] at HP
    clear hb
    go_enter Tryz.func76, Tryz.ntmps76
    go_wp2_with fail
    refine (HR.out _).mono ?_
    rintro e w2 ⟨rfl, rfl⟩
    go_wp2_with fail
    refine (HP.out _).mono ?_
    rintro e w2 ⟨rfl, rfl⟩
    go_wp2_with fail
    go_ret
    exact ⟨ret_bool F.out.symm, HA.out⟩
  · have F := Lib.hid (HT.out.trans (subB_of hb))
    rw [hb] at HP
    clear hb
    generalize l.any (badP l.length) = bp at *
    go_enter Tryz.func76, Tryz.ntmps76
    go_wp2_with fail
    refine (HR.out _).mono ?_
    rintro e w2 ⟨rfl, rfl⟩
    go_wp2_with fail
    refine (HP.out _).mono ?_
    rintro e w2 ⟨rfl, rfl⟩
    go_wp2_with fail
    refine HC.out.mono ?_
    rintro e w3 ⟨rfl, hb3⟩
    have HB3 := Lib.hid (Below.now HA.out hb3)
    clear hb3
    go_wp2_with fail
    go_ret
    exact ⟨ret_bool F.out.symm, HB3.out⟩
end Go.Proofs.YtoddpmdjjgnpgaaGreatDoor
namespace Go.Proofs.YtoddpmdjjgnpgaaGreatDoor
open Go.RowKit
set_option linter.unusedVariables false
def hitB (s : ByteArray) (c : UInt8) (i : Nat) : Bool := if h : i < s.size then s[i] == c else false
/-- the parts of the first i bytes, and where the last one begins -/
def spT (s : ByteArray) (c : UInt8) : Nat → List ByteArray × Nat
  | 0 => ([], 0)
  | i + 1 => if hitB s c i then ((spT s c i).1 ++ [s.extract (spT s c i).2 i], i + 1) else spT s c i
def splitB (s : ByteArray) (c : UInt8) : List ByteArray := (spT s c s.size).1 ++ [s.extract (spT s c s.size).2 s.size]
theorem spT_le (s : ByteArray) (c : UInt8) : ∀ i, (spT s c i).2 ≤ i ∧ (spT s c i).1.length ≤ i
  | 0 => ⟨Nat.le_refl _, Nat.le_refl _⟩
  | i + 1 => by
    have := spT_le s c i
    unfold spT
    split
    · simp; omega
    · omega
theorem spT_hit {s : ByteArray} {c : UInt8} {i fr : Nat} {l : List ByteArray} (h : spT s c i = (l, fr)) (hc : hitB s c i = true) : spT s c (i + 1) = (l ++ [s.extract fr i], i + 1) := by
  rw [spT, if_pos hc, h]
theorem spT_no {s : ByteArray} {c : UInt8} {i fr : Nat} {l : List ByteArray} (h : spT s c i = (l, fr)) (hc : hitB s c i = false) : spT s c (i + 1) = (l, fr) := by
  rw [spT, if_neg (by rw [hc]; exact Bool.noConfusion), h]
end Go.Proofs.YtoddpmdjjgnpgaaGreatDoor
namespace Go.Proofs.YtoddpmdjjgnpgaaGreatDoor
open Go.RowKit
set_option linter.unusedVariables false
/-- the cells of steps -/
def stepCells : List (Int × Int) → List Value
  | [] => []
  | p :: l => .int .i64 p.1 :: .int .i64 p.2 :: stepCells l
theorem stepCells_len : ∀ l : List (Int × Int), (stepCells l).length = l.length * 2
  | [] => rfl
  | p :: l => by simp only [stepCells, List.length_cons, stepCells_len l]; omega
/-- the step at a place -/
def nthP (l : List (Int × Int)) (j : Nat) : Int × Int := l.getD j (0, 0)
theorem stepCells_at : ∀ (l : List (Int × Int)) (j : Nat), j < l.length → (stepCells l)[j * 2]? = some (.int .i64 (nthP l j).1) ∧ (stepCells l)[j * 2 + 1]? = some (.int .i64 (nthP l j).2)
  | [], j, h => by simp at h
  | p :: l, 0, _ => by simp [stepCells, nthP]
  | p :: l, j + 1, h => by
    have := stepCells_at l j (by simpa using h)
    rw [show (j + 1) * 2 = j * 2 + 2 by omega, show j * 2 + 2 + 1 = (j * 2 + 1) + 2 by omega]
    have e1 : ∀ n, (stepCells (p :: l))[n + 2]? = (stepCells l)[n]? := fun n => rfl
    have e2 : nthP (p :: l) (j + 1) = nthP l j := rfl
    rw [e1, e1, e2]
    exact this
/-- a slice of steps -/
def StepsIn (w : World) (a : Option Addr) (l : List (Int × Int)) : Prop := CellsIn w a (stepCells l)
theorem StepsIn.later {w w' : World} {a : Option Addr} {l : List (Int × Int)} (h : StepsIn w a l) (hb : Below w.heap.size w w') : StepsIn w' a l := CellsIn.later h hb
theorem StepsIn.cell {w : World} {a : Option Addr} {l : List (Int × Int)} (h : StepsIn w a l) {i : Nat} (hi : i < l.length) :
    ∃ b off, a = some ⟨b, off, none⟩ ∧ b < w.heap.size ∧ ∀ j, j < l.length → w.cell? ⟨b, off + j * 2, none⟩ = some (.int .i64 (nthP l j).1) ∧ w.cell? ⟨b, off + j * 2 + 1, none⟩ = some (.int .i64 (nthP l j).2) := by
  rcases h with h | ⟨b, off, ha, hc⟩
  · have := stepCells_len l
    rw [h, List.length_nil] at this
    omega
  · have key : ∀ j, j < l.length → w.cell? ⟨b, off + j * 2, none⟩ = some (.int .i64 (nthP l j).1) ∧ w.cell? ⟨b, off + j * 2 + 1, none⟩ = some (.int .i64 (nthP l j).2) := fun j hj => by
      obtain ⟨h1, h2⟩ := stepCells_at l j hj
      have hlen := stepCells_len l
      have c1 := hc (j * 2) (by omega)
      have c2 := hc (j * 2 + 1) (by omega)
      rw [List.getElem?_eq_getElem (by omega)] at h1 h2
      rw [Option.some.inj h1] at c1
      rw [Option.some.inj h2] at c2
      exact ⟨c1, by rw [← Nat.add_assoc] at c2; exact c2⟩
    exact ⟨b, off, ha, World.block_lt_of_cell? w _ (key i hi).1, key⟩
end Go.Proofs.YtoddpmdjjgnpgaaGreatDoor
namespace Go.Proofs.YtoddpmdjjgnpgaaGreatDoor
open Go.RowKit
set_option linter.unusedVariables false
/-- the cells of links -/
def linkCells : List (Int × Int × Bool) → List Value
  | [] => []
  | p :: l => .int .i64 p.1 :: .int .i64 p.2.1 :: .bool p.2.2 :: linkCells l
theorem linkCells_len : ∀ l : List (Int × Int × Bool), (linkCells l).length = l.length * 3
  | [] => rfl
  | p :: l => by simp only [linkCells, List.length_cons, linkCells_len l]; omega
/-- the link at a place -/
def nthK (l : List (Int × Int × Bool)) (j : Nat) : Int × Int × Bool := l.getD j (0, 0, false)
theorem linkCells_at : ∀ (l : List (Int × Int × Bool)) (j : Nat), j < l.length → (linkCells l)[j * 3]? = some (.int .i64 (nthK l j).1) ∧ (linkCells l)[j * 3 + 1]? = some (.int .i64 (nthK l j).2.1) ∧ (linkCells l)[j * 3 + 2]? = some (.bool (nthK l j).2.2)
  | [], j, h => by simp at h
  | p :: l, 0, _ => by simp [linkCells, nthK]
  | p :: l, j + 1, h => by
    have := linkCells_at l j (by simpa using h)
    rw [show (j + 1) * 3 = j * 3 + 3 by omega, show j * 3 + 3 + 1 = (j * 3 + 1) + 3 by omega, show j * 3 + 3 + 2 = (j * 3 + 2) + 3 by omega]
    have e1 : ∀ n, (linkCells (p :: l))[n + 3]? = (linkCells l)[n]? := fun n => rfl
    have e2 : nthK (p :: l) (j + 1) = nthK l j := rfl
    rw [e1, e1, e1, e2]
    exact this
/-- a slice of links -/
def LinksIn (w : World) (a : Option Addr) (l : List (Int × Int × Bool)) : Prop := CellsIn w a (linkCells l)
theorem LinksIn.later {w w' : World} {a : Option Addr} {l : List (Int × Int × Bool)} (h : LinksIn w a l) (hb : Below w.heap.size w w') : LinksIn w' a l := CellsIn.later h hb
theorem LinksIn.cell {w : World} {a : Option Addr} {l : List (Int × Int × Bool)} (h : LinksIn w a l) {i : Nat} (hi : i < l.length) :
    ∃ b off, a = some ⟨b, off, none⟩ ∧ b < w.heap.size ∧ ∀ j, j < l.length → w.cell? ⟨b, off + j * 3, none⟩ = some (.int .i64 (nthK l j).1) ∧ w.cell? ⟨b, off + j * 3 + 1, none⟩ = some (.int .i64 (nthK l j).2.1) ∧ w.cell? ⟨b, off + j * 3 + 2, none⟩ = some (.bool (nthK l j).2.2) := by
  rcases h with h | ⟨b, off, ha, hc⟩
  · have := linkCells_len l
    rw [h, List.length_nil] at this
    omega
  · have key : ∀ j, j < l.length → w.cell? ⟨b, off + j * 3, none⟩ = some (.int .i64 (nthK l j).1) ∧ w.cell? ⟨b, off + j * 3 + 1, none⟩ = some (.int .i64 (nthK l j).2.1) ∧ w.cell? ⟨b, off + j * 3 + 2, none⟩ = some (.bool (nthK l j).2.2) := fun j hj => by
      obtain ⟨h1, h2, h3⟩ := linkCells_at l j hj
      have hlen := linkCells_len l
      have c1 := hc (j * 3) (by omega)
      have c2 := hc (j * 3 + 1) (by omega)
      have c3 := hc (j * 3 + 2) (by omega)
      rw [List.getElem?_eq_getElem (by omega)] at h1 h2 h3
      rw [Option.some.inj h1] at c1
      rw [Option.some.inj h2] at c2
      rw [Option.some.inj h3] at c3
      exact ⟨c1, by rw [← Nat.add_assoc] at c2; exact c2, by rw [← Nat.add_assoc] at c3; exact c3⟩
    exact ⟨b, off, ha, World.block_lt_of_cell? w _ (key i hi).1, key⟩
theorem owns_links {w : World} {base : Nat} {T : TypeId} {size : Nat} {a : Option Addr} {n m cap : Nat} {l : List (Int × Int × Bool)} (h : w.ownsRow base T size (.slice a m cap) n (linkCells l)) : LinksIn w a l := owns_cells h
/-- the numbers are ints -/
def RngK (l : List (Int × Int × Bool)) : Prop := ∀ j, j < l.length → (-9223372036854775808 ≤ (nthK l j).1 ∧ (nthK l j).1 ≤ 9223372036854775807) ∧ (-9223372036854775808 ≤ (nthK l j).2.1 ∧ (nthK l j).2.1 ≤ 9223372036854775807)
def signB (b : Bool) : ByteArray := if b = true then ⟨#[45]⟩ else ⟨#[43]⟩
/-- the text of a link -/
def linkB (p : Int × Int × Bool) : ByteArray := signB p.2.2 ++ numB p.1 ++ ⟨#[64]⟩ ++ numB p.2.1
def linkTo (l : List (Int × Int × Bool)) (j : Nat) : List ByteArray := (l.take j).map linkB
theorem linkTo_len {l : List (Int × Int × Bool)} {j : Nat} (h : j ≤ l.length) : (linkTo l j).length = j := by simp [linkTo]; omega
theorem nthK_lt {l : List (Int × Int × Bool)} {j : Nat} (h : j < l.length) : nthK l j = l[j] := by simp [nthK, List.getD_eq_getElem?_getD, h]
theorem linkTo_succ {l : List (Int × Int × Bool)} {j : Nat} (h : j < l.length) : linkTo l (j + 1) = linkTo l j ++ [linkB (nthK l j)] := by
  unfold linkTo; rw [List.take_succ_eq_append_getElem h, nthK_lt h, List.map_append]; rfl
theorem signB_size (b : Bool) : (signB b).size = 1 := by cases b <;> rfl
theorem linkTo_sum {l : List (Int × Int × Bool)} (hr : RngK l) : ∀ j, j ≤ l.length → strSum (linkTo l j) ≤ 44 * j
  | 0, _ => by simp [linkTo, strSum]
  | j + 1, h => by
    have h1 := linkTo_sum hr j (by omega)
    have h2 := itoa_len (hr j (by omega)).1.1 (hr j (by omega)).1.2
    have h3 := itoa_len (hr j (by omega)).2.1 (hr j (by omega)).2.2
    have h4 := signB_size (nthK l j).2.2
    rw [linkTo_succ (by omega)]
    unfold strSum linkB at *
    rw [List.map_append, List.sum_append]
    simp only [List.map_cons, List.map_nil, List.sum_cons, List.sum_nil, Nat.add_zero, ByteArray.size_append]
    have : (ByteArray.mk #[64]).size = 1 := rfl
    omega
/-- FormatLinks as a function of plain data -/
def fmtLinks (l : List (Int × Int × Bool)) : ByteArray := if l.length = 0 then ⟨#[61]⟩ else joinF (linkTo l l.length) ⟨#[32]⟩
theorem fmtLinks_zero {l : List (Int × Int × Bool)} (h : l.length = 0) : fmtLinks l = ⟨#[61]⟩ := by simp [fmtLinks, h]
theorem fmtLinks_pos {l : List (Int × Int × Bool)} (h : 0 < l.length) : fmtLinks l = joinF (linkTo l l.length) ⟨#[32]⟩ := by simp only [fmtLinks, if_neg (show ¬ l.length = 0 by omega)]
theorem fmtLinks_size {l : List (Int × Int × Bool)} (hr : RngK l) (h : l.length ≤ 2 ^ 40) : (joinF (linkTo l l.length) ⟨#[32]⟩).size ≤ 2 ^ 46 := by
  have h1 := joinF_size (linkTo l l.length) ⟨#[32]⟩
  have h3 := linkTo_sum hr l.length (Nat.le_refl _)
  rw [linkTo_len (Nat.le_refl _)] at h1
  have : (ByteArray.mk #[32]).size = 1 := rfl
  rw [this] at h1
  omega
set_option maxRecDepth 20000 in
set_option maxHeartbeats 2000000 in
theorem implFormatLinks_any (l : List (Int × Int × Bool)) (a : Option Addr) (cap : Nat) (w : World) (hl : LinksIn w a l) (hlen : l.length ≤ 2 ^ 40) (hr : RngK l) (ht : Tab10 w) :
    Calls Tryz.prog 30 #[.slice a l.length cap] w fun e w' => e = .returned (.string (fmtLinks l)) ∧ Below w.heap.size w w' := by
  have HL := Lib.hid hl
  have HZ := Lib.hid (fmtLinks_size hr hlen)
  have HR := Lib.hid hr
  have HT := Lib.hid ht
  clear hl hr ht
  rcases Nat.eq_zero_or_pos l.length with h0 | h0
  · have F := Lib.hid (fmtLinks_zero h0)
    rw [h0]
    go_enter Tryz.func30, Tryz.ntmps30
    go_wp2_with fail
    go_ret
    exact ⟨ret_str F.out.symm, Below.refl _ _⟩
  have F := Lib.hid (fmtLinks_pos h0)
  have HS := Lib.hid (Bld.nil 9 1 (Below.refl w.heap.size w))
  have hn0 : ((l.length : Int) == 0) = false := by rw [beq_eq_false_iff_ne]; omega
  go_enter Tryz.func30, Tryz.ntmps30
  go_wp2_with fail
  go_loopw [3, 12] (fun v i wr => ∃ j : Nat, j ≤ l.length ∧ i = .int .i64 j ∧ Bld 9 1 w wr v j (strVals (linkTo l j))) (fun _ i _ => l.length - (intOf i).toNat)
  case atStart => exact ⟨0, Nat.zero_le _, rfl, HS.out⟩
  case round =>
    clear HS
    obtain ⟨j, hj, rfl, hbd⟩ := hrel
    obtain ⟨a3, c3, rfl⟩ := owns_form hbd.1
    have HB := Lib.hid hbd
    have hbw := hbd.2
    clear hbd
    by_cases hlt : j < l.length
    · obtain ⟨b, off, rfl, hb, hc⟩ := (HL.out.later hbw).cell hlt
      obtain ⟨c1, c2, d3⟩ := hc j hlt
      have F1 := Lib.hid (linkTo_succ hlt)
      have hr1 := (HR.out j hlt).1
      have hr2 := (HR.out j hlt).2
      have FS : Hid (linkB (nthK l j) = signB (nthK l j).2.2 ++ numB (nthK l j).1 ++ ⟨#[64]⟩ ++ numB (nthK l j).2.1) := Lib.hid rfl
      have hz1 := itoa_len hr1.1 hr1.2
      have hz2 := itoa_len hr2.1 hr2.2
      generalize (nthK l j).1 = p1 at *
      generalize (nthK l j).2.1 = p2 at *
      generalize (nthK l j).2.2 = bk at *
      have HR1 := Lib.hid hr1
      have HR2 := Lib.hid hr2
      have hA : ¬ 9223372036854775807 < 1 + (numB p1).size := by omega
      have hB : ¬ 9223372036854775807 < 1 + (numB p1).size + 1 := by omega
      have hC : ¬ 9223372036854775807 < 1 + (numB p1).size + 1 + (numB p2).size := by omega
      clear hc hr1 hr2
      cases bk
      · go_wp2_with fail
        obtain ⟨w0, hw0⟩ : ∃ w0, w0 = wr.alloc (.cells #[.int .i64 p1, .int .i64 p2, .bool false] 114) := ⟨_, rfl⟩
        have y0 : w0.cell? ⟨wr.heap.size, 0, none⟩ = some (.int .i64 p1) := by rw [hw0]; simp
        have y1 : w0.cell? ⟨wr.heap.size, 1, none⟩ = some (.int .i64 p2) := by rw [hw0]; simp
        have k0 : Below wr.heap.size wr w0 := by rw [hw0]; exact (Below.refl _ _).alloc (Nat.le_refl _) _
        have HB0 := Lib.hid (HB.out.later k0)
        have hbw0 := Lib.hid (Below.now hbw k0)
        have k := Below.refl w0.heap.size w0
        have hne : (Value.slice a3 j c3).ownBlock ≠ some wr.heap.size := fun e => by have := (HB.out.1.lt _ e).2; omega
        have HC1 : Hid (j + 1 ≤ maxLen) := Lib.hid (by unfold maxLen; omega)
        have HC2 : Hid ((j + 1) * 16 ≤ 140737488355328) := Lib.hid (by omega)
        have hone : ∀ s : ByteArray, ∀ u ∈ [Value.string s], u.oneCell' = true := fun s u hu => by rw [List.mem_singleton.1 hu]; rfl
        rw [← hw0]
        clear hw0 c1 c2 d3 hb k0 hbw HB

        go_region_held3 (fun w' => w'.cell? ⟨wr.heap.size, 0, none⟩ = some (.int .i64 p1) ∧ w'.cell? ⟨wr.heap.size, 1, none⟩ = some (.int .i64 p2)) (go_keep) (first
          | (go_at_call 72; refine (implFormatInt_any _ _ (by first | exact HR1.out.1 | exact HR2.out.1) (by first | exact HR1.out.2 | exact HR2.out.2) (HT.out.later (Below.now hbw0.out (by repeat (first | exact k | refine Below.drew ?_ | refine below_drewN ?_ _))))).mono ?_; rintro e w2 ⟨rfl, hb2⟩; replace k : Below w0.heap.size w0 w2 := Below.now (by repeat (first | exact k | refine Below.drew ?_ | refine below_drewN ?_ _)) hb2; have s0 := (k.cell (World.block_lt_of_cell? w0 _ y0)).trans y0; have s1 := (k.cell (World.block_lt_of_cell? w0 _ y1)).trans y1; clear hb2)
          | (refine step_app1g rfl _ _ (by rfl) Tryz.underlying47 Tryz.infoStr rfl (by decide) (by rfl) (HB0.out.later k) (by rfl) rfl (hone _) HC1.out HC2.out ?_; intro v2 w4 hb4 hgr; have t0 := far_cell hgr ((k.cell (World.block_lt_of_cell? w0 _ y0)).trans y0) hne; have t1 := far_cell hgr ((k.cell (World.block_lt_of_cell? w0 _ y1)).trans y1) hne; clear hgr))
        all_goals
          have F2 : Hid (Bld 9 1 w w4 v2 (j + 1) (strVals (linkTo l (j + 1)))) := by
            rw [F1.out, FS.out]; unfold strVals at *; rw [List.map_append]; exact Lib.hid hb4
          clear hb4 y0 y1 k hne
          go_wp2_with fail
          go_roundw
          case rel => exact ⟨j + 1, by omega, by go_num, F2.out⟩
          case measure => simp [intOf]; omega
      · go_wp2_with fail
        obtain ⟨w0, hw0⟩ : ∃ w0, w0 = wr.alloc (.cells #[.int .i64 p1, .int .i64 p2, .bool true] 114) := ⟨_, rfl⟩
        have y0 : w0.cell? ⟨wr.heap.size, 0, none⟩ = some (.int .i64 p1) := by rw [hw0]; simp
        have y1 : w0.cell? ⟨wr.heap.size, 1, none⟩ = some (.int .i64 p2) := by rw [hw0]; simp
        have k0 : Below wr.heap.size wr w0 := by rw [hw0]; exact (Below.refl _ _).alloc (Nat.le_refl _) _
        have HB0 := Lib.hid (HB.out.later k0)
        have hbw0 := Lib.hid (Below.now hbw k0)
        have k := Below.refl w0.heap.size w0
        have hne : (Value.slice a3 j c3).ownBlock ≠ some wr.heap.size := fun e => by have := (HB.out.1.lt _ e).2; omega
        have HC1 : Hid (j + 1 ≤ maxLen) := Lib.hid (by unfold maxLen; omega)
        have HC2 : Hid ((j + 1) * 16 ≤ 140737488355328) := Lib.hid (by omega)
        have hone : ∀ s : ByteArray, ∀ u ∈ [Value.string s], u.oneCell' = true := fun s u hu => by rw [List.mem_singleton.1 hu]; rfl
        rw [← hw0]
        clear hw0 c1 c2 d3 hb k0 hbw HB

        go_region_held3 (fun w' => w'.cell? ⟨wr.heap.size, 0, none⟩ = some (.int .i64 p1) ∧ w'.cell? ⟨wr.heap.size, 1, none⟩ = some (.int .i64 p2)) (go_keep) (first
          | (go_at_call 72; refine (implFormatInt_any _ _ (by first | exact HR1.out.1 | exact HR2.out.1) (by first | exact HR1.out.2 | exact HR2.out.2) (HT.out.later (Below.now hbw0.out (by repeat (first | exact k | refine Below.drew ?_ | refine below_drewN ?_ _))))).mono ?_; rintro e w2 ⟨rfl, hb2⟩; replace k : Below w0.heap.size w0 w2 := Below.now (by repeat (first | exact k | refine Below.drew ?_ | refine below_drewN ?_ _)) hb2; have s0 := (k.cell (World.block_lt_of_cell? w0 _ y0)).trans y0; have s1 := (k.cell (World.block_lt_of_cell? w0 _ y1)).trans y1; clear hb2)
          | (refine step_app1g rfl _ _ (by rfl) Tryz.underlying47 Tryz.infoStr rfl (by decide) (by rfl) (HB0.out.later k) (by rfl) rfl (hone _) HC1.out HC2.out ?_; intro v2 w4 hb4 hgr; have t0 := far_cell hgr ((k.cell (World.block_lt_of_cell? w0 _ y0)).trans y0) hne; have t1 := far_cell hgr ((k.cell (World.block_lt_of_cell? w0 _ y1)).trans y1) hne; clear hgr))
        all_goals
          have F2 : Hid (Bld 9 1 w w4 v2 (j + 1) (strVals (linkTo l (j + 1)))) := by
            rw [F1.out, FS.out]; unfold strVals at *; rw [List.map_append]; exact Lib.hid hb4
          clear hb4 y0 y1 k hne
          go_wp2_with fail
          go_roundw
          case rel => exact ⟨j + 1, by omega, by go_num, F2.out⟩
          case measure => simp [intOf]; omega
    · obtain rfl : j = l.length := by omega
      have hdl := linkTo_len (l := l) (Nat.le_refl _)
      go_wp2_with fail
      have hJ := implJoin_any (linkTo l l.length) ⟨#[32]⟩ a3 c3 wr (owns_strs HB.out.1) (by decide) (by decide) (by omega) (by rw [hdl]; exact owns_capS HB.out.1) HZ.out
      rw [hdl] at hJ
      refine hJ.mono ?_
      rintro e w5 ⟨rfl, hb5⟩
      replace hbw := Below.now hbw hb5
      clear hb5 hJ
      go_wp2_with fail
      go_ret
      exact ⟨ret_str F.out.symm, hbw⟩
end Go.Proofs.YtoddpmdjjgnpgaaGreatDoor
