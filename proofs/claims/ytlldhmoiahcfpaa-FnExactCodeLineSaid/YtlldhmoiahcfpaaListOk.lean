/-
  ListOk of the reference.
-/
import Derived.Test.YtlldhmoiahcfpaaHas
import Derived.Test.YtlldhmoiahcfpaaPat
namespace Go.Proofs.Ytlldhmoiahcfpaa
open Go.RowKit
set_option linter.unusedVariables false
theorem StrsIn.take {w : World} {b off : Nat} {l : List ByteArray} (h : ∀ j, j < l.length → w.cell? ⟨b, off + j, none⟩ = some (.string (nthS l j))) (i : Nat) (hi : i ≤ l.length) : StrsIn w (some ⟨b, off, none⟩) (l.take i) := by
  refine .inr ⟨b, off, rfl, fun j hj => ?_⟩
  have hj2 : j < i := by simpa using Nat.lt_of_lt_of_le hj (by simp; omega)
  rw [h j (by omega), List.getElem_map, List.getElem_take, nthS_lt (by omega)]
def wordP (l : List ByteArray) (i : Nat) : Prop := wordOkB 4 (nthS l i) = true ∧ (1 ≤ (nthS l i).size ∧ (nthS l i).size ≤ 6) ∧ ¬ nthS l i ∈ l.take i
def listP (l : List ByteArray) : Prop := (1 ≤ l.length ∧ l.length ≤ 8) ∧ ∀ i, i < l.length → wordP l i
set_option maxRecDepth 20000 in
set_option maxHeartbeats 1000000 in
theorem specListOk_any (l : List ByteArray) (a : Option Addr) (cap : Nat) (w : World) (hl : StrsIn w a l) (hlen : l.length ≤ 2 ^ 40) (hcap : l.length ≤ cap) (hsz : ∀ j, j < l.length → (nthS l j).size ≤ maxLen) :
    Calls Try.prog 9 #[.slice a l.length cap] w (RetP (listP l) w) := by
  have HL := Lib.hid hl
  have HZ := Lib.hid hsz
  have P1 := Lib.hid (fun W => l01In_any (l.length : Int) 1 8 W)
  clear hl hsz
  cases hb : inB (l.length : Int) 1 8
  · have F : Hid (¬ listP l) := Lib.hid (fun h => by have := h.1; simp [inB] at hb; omega)
    rw [hb] at P1
    clear hb
    go_enter Try.func9, Try.ntmps9
    go_wp2_with (go_at_call 17; refine (P1.out _).mono ?_; rintro e w' ⟨rfl, rfl⟩)
    go_ret
    exact RetP.no F.out (Below.refl _ _)
  · have hb2 := inB_bounds hb
    rw [hb] at P1
    clear hb
    have hl1 : 1 ≤ l.length := by omega
    have hl8 : l.length ≤ 8 := by omega
    go_enter Try.func9, Try.ntmps9
    go_wp2_with (go_at_call 17; refine (P1.out _).mono ?_; rintro e w' ⟨rfl, rfl⟩)
    clear P1
    go_loopw [11] (fun i wr => ∃ j : Nat, j ≤ l.length ∧ i = .int .i64 (j : Nat) ∧ Hid (∀ j', j' < j → wordP l j') ∧ Below w.heap.size w wr) (fun i _ => l.length - (intOf i).toNat)
    case atStart => exact ⟨0, Nat.zero_le _, rfl, Lib.hid (fun j' h => absurd h (Nat.not_lt_zero _)), Below.refl _ _⟩
    case round =>
      obtain ⟨j, hj, rfl, hall, hbw⟩ := hrel
      by_cases hlt : j < l.length
      · obtain ⟨b, off, rfl, hb, hc⟩ := (HL.out.later hbw).cell hlt
        have c1 := hc j hlt
        have HS := Lib.hid (StrsIn.take hc j (by omega))
        have htl : (l.take j).length = j := by rw [List.length_take]; omega
        have HH := Lib.hid (fun v => l04Has_any (l.take j) v (some ⟨b, off, none⟩) cap wr HS.out (by omega))
        rw [htl] at HH
        have hz := HZ.out j hlt
        have HNO : Hid (¬ wordP l j → ¬ listP l) := Lib.hid (fun h h2 => h (h2.2 j hlt))
        have HYE : Hid (wordP l j → ∀ j', j' < j + 1 → wordP l j') := Lib.hid (fun h j' hj' => by
          by_cases e : j' = j
          · rw [e]; exact h
          · exact hall.out j' (by omega))
        have HWP : Hid (wordP l j ↔ (wordOkB 4 (nthS l j) = true ∧ (1 ≤ (nthS l j).size ∧ (nthS l j).size ≤ 6) ∧ ¬ nthS l j ∈ l.take j)) := Lib.hid Iff.rfl
        have hji : (j : Int) ≤ (cap : Int) := by omega
        have hji2 : j ≤ cap := by omega
        clear hc htl
        generalize nthS l j = u at *
        have HW := Lib.hid (fun W => specWordOk_any 4 u W hz)
        have HI := Lib.hid (fun W => l01In_any (u.size : Int) 1 6 W)
        cases hw : wordOkB 4 u
        · have F := Lib.hid (HNO.out (fun h => by have := (HWP.out.1 h).1; rw [hw] at this; cases this))
          rw [hw] at HW
          clear hw
          go_wp2_with (go_at_call 18; refine (HW.out _).mono ?_; rintro e w' ⟨rfl, rfl⟩)
          go_ret
          exact RetP.no F.out hbw
        · have HWT := Lib.hid hw
          rw [hw] at HW
          clear hw
          cases hi : inB (u.size : Int) 1 6
          · have F := Lib.hid (HNO.out (fun h => by have := (HWP.out.1 h).2.1; simp [inB] at hi; omega))
            rw [hi] at HI
            clear hi
            go_wp2_with (first
              | (go_at_call 18; refine (HW.out _).mono ?_; rintro e w' ⟨rfl, rfl⟩)
              | (go_at_call 17; refine (HI.out _).mono ?_; rintro e w' ⟨rfl, rfl⟩))
            go_ret
            exact RetP.no F.out hbw
          · have hi2 := inB_bounds hi
            have HI2 : Hid (1 ≤ u.size ∧ u.size ≤ 6) := Lib.hid (by omega)
            rw [hi] at HI
            clear hi hi2
            go_wp2_with (first
              | (go_at_call 18; refine (HW.out _).mono ?_; rintro e w' ⟨rfl, rfl⟩)
              | (go_at_call 17; refine (HI.out _).mono ?_; rintro e w' ⟨rfl, rfl⟩))
            refine (HH.out _).mono ?_
            rintro e w2 ⟨bb, hbb, rfl, hb2⟩
            have B2 := Lib.hid (Below.now hbw hb2)
            have HBB := Lib.hid hbb
            clear hb2 hbb HH
            cases bb
            · have F := Lib.hid (HYE.out (HWP.out.2 ⟨HWT.out, HI2.out, fun h => by have := HBB.out.2 h; cases this⟩))
              go_wp2_with fail
              go_roundw
              case rel => exact ⟨j + 1, by omega, by go_num, F, B2.out⟩
              case measure => simp [intOf]; omega
            · have F := Lib.hid (HNO.out (fun h => (HWP.out.1 h).2.2 (HBB.out.1 rfl)))
              go_wp2_with fail
              go_ret
              exact RetP.no F.out B2.out
      · obtain rfl : j = l.length := by omega
        have F : Hid (listP l) := Lib.hid ⟨⟨hl1, hl8⟩, hall.out⟩
        go_wp2_with fail
        go_ret
        exact RetP.yes F.out hbw
end Go.Proofs.Ytlldhmoiahcfpaa
