/-
  The laws' own functions over rows of numbers: count, has, same; and ProductOf at a valid table.
-/
import Derived.Test.YtgoeadgpbidgiaaGreatDoorMnp37
import Derived.Test.YtgoeadgpbidgiaaGreatDoorMnp26
import Derived.Test.YtgoeadgpbidgiaaGreatDoorMnp17
namespace Go.Proofs.YtgoeadgpbidgiaaGreatDoor
open Go.RowKit
set_option linter.unusedVariables false
set_option maxHeartbeats 1000000 in
theorem implProductOf_ok (m : Nat) (l : List Int) (a : Option Addr) (cap i k : Nat) (w : World) (hl : IntsIn w a l) (hT : TabG m l) (hi : i < m) (hk : k < m) :
    Calls Tryz.prog 25 #[.agg #[.int .i64 (m : Nat), .slice a l.length cap], .int .i64 (i : Nat), .int .i64 (k : Nat)] w fun e w' => e = .returned (.tuple #[.int .i64 ((tm m (l.map Int.toNat) i k : Nat) : Int), .bool true]) ∧ Below w.heap.size w w' := by
  have hlen : l.length ≤ 1600 := by
    obtain ⟨ln, rfl, h⟩ := hT
    rw [List.length_map, h.len]; exact sq_le h.hi
  have HB1 := Lib.hid ((Below.refl w.heap.size w).alloc (Nat.le_refl _) (.cells #[.int .i64 (m : Nat), .slice a l.length cap] 47))
  have HX : Hid (∀ W, Below (w.alloc (.cells #[.int .i64 (m : Nat), .slice a l.length cap] 47)).heap.size (w.alloc (.cells #[.int .i64 (m : Nat), .slice a l.length cap] 47)) W → W.cell? ⟨w.heap.size, 0, none⟩ = some (.int .i64 (m : Nat)) ∧ W.cell? ⟨w.heap.size, 1, none⟩ = some (.slice a l.length cap)) := Lib.hid (fun W hW => ⟨by rw [hW.cell (by simp)]; simp, by rw [hW.cell (by simp)]; simp⟩)
  have HTO := Lib.hid (fun W (h : IntsIn W a l) => implTableOk_any (m : Nat) l a cap W h (by omega))
  rw [hT.tab] at HTO
  obtain ⟨hm1, hm2⟩ : 1 ≤ m ∧ m ≤ 40 := by obtain ⟨ln, _, h⟩ := hT; exact ⟨h.lo, h.hi⟩
  have hbi : inB (i : Int) 0 ((m : Int) - 1) = true := by unfold inB; simp; omega
  have hbk : inB (k : Int) 0 ((m : Int) - 1) = true := by unfold inB; simp; omega
  have HHI := Lib.hid (fun W => has_any m (i : Int) (.slice a l.length cap) W hm1 hm2)
  have HHK := Lib.hid (fun W => has_any m (k : Int) (.slice a l.length cap) W hm1 hm2)
  rw [hbi] at HHI
  rw [hbk] at HHK
  have HTM : Hid (∀ W, IntsIn W a l → Calls Tryz.prog 61 #[.agg #[.int .i64 (m : Nat), .slice a l.length cap], .int .i64 (i : Nat), .int .i64 (k : Nat)] W fun e w' => e = .returned (.int .i64 (tm m (l.map Int.toNat) i k : Nat)) ∧ Below W.heap.size W w') := Lib.hid (fun W h => by
    obtain ⟨ln, rfl, hT⟩ := hT
    rw [map_toNat]
    exact implTimes_any m ln a _ cap i k W h hT.toTb (by rw [List.length_map]; exact hT.len) hi hk)
  have HL := Lib.hid hl
  generalize tm m (l.map Int.toNat) i k = q at *
  clear hl hT hbi hbk
  go_enter Tryz.func25, Tryz.ntmps25
  go_wp2_with fail
  generalize w.alloc (.cells #[.int .i64 (m : Nat), .slice a l.length cap] 47) = w1 at *
  refine (HTO.out _ (HL.out.later HB1.out)).mono ?_
  rintro e w2 ⟨rfl, hb2⟩
  have HB2 := Lib.hid hb2
  obtain ⟨z0, z1⟩ := HX.out _ hb2
  clear hb2
  go_wp2_with fail
  refine (HHI.out _).mono ?_
  rintro e w3 ⟨rfl, hb3⟩
  have HB3 := Lib.hid (Below.now HB2.out hb3)
  clear hb3 z0 z1
  obtain ⟨z0, z1⟩ := HX.out _ HB3.out
  go_wp2_with fail
  refine (HHK.out _).mono ?_
  rintro e w4 ⟨rfl, hb4⟩
  have HB4 := Lib.hid (Below.now HB3.out hb4)
  clear hb4 z0 z1
  obtain ⟨z0, z1⟩ := HX.out _ HB4.out
  go_wp2_with fail
  refine (HTM.out _ (HL.out.later (Below.now HB1.out HB4.out))).mono ?_
  rintro e w5 ⟨rfl, hb5⟩
  have HB5 := Lib.hid (Below.now HB4.out hb5)
  clear hb5 z0 z1
  go_wp2_with fail
  go_ret2
  exact ⟨rfl, Below.now HB1.out HB5.out⟩
end Go.Proofs.YtgoeadgpbidgiaaGreatDoor
