/-
  Is a word in a list? (the reference's l04Has)
-/
import Derived.Test.YtlldhmoiahcfpaaStrs
import Derived.Test.YtlldhmoiahcfpaaTailsPl
namespace Go.Proofs.Ytlldhmoiahcfpaa
open Go.RowKit
set_option linter.unusedVariables false
/-- an answer that tells whether P -/
def RetP (P : Prop) (w : World) (e : Ending) (w' : World) : Prop := ∃ b : Bool, (b = true ↔ P) ∧ e = .returned (.bool b) ∧ Below w.heap.size w w'
theorem RetP.yes {P : Prop} {w w' : World} (h : P) (hb : Below w.heap.size w w') : RetP P w (.returned (.bool true)) w' := ⟨true, ⟨fun _ => h, fun _ => rfl⟩, rfl, hb⟩
theorem RetP.no {P : Prop} {w w' : World} (h : ¬ P) (hb : Below w.heap.size w w') : RetP P w (.returned (.bool false)) w' := ⟨false, ⟨fun h => (by cases h), fun h2 => absurd h2 h⟩, rfl, hb⟩
theorem bytes_eq {a b : ByteArray} : (a.toList == b.toList) = true ↔ a = b := by
  rw [beq_iff_eq, ByteArray.toList_eq, ByteArray.toList_eq]
  constructor
  · intro h
    obtain ⟨⟨x⟩⟩ := a
    obtain ⟨⟨y⟩⟩ := b
    have : x = y := h
    rw [this]
  · intro h; rw [h]
set_option maxRecDepth 20000 in
set_option maxHeartbeats 400000 in
theorem l04Has_any (l : List ByteArray) (v : ByteArray) (a : Option Addr) (cap : Nat) (w : World) (hl : StrsIn w a l) (hlen : l.length ≤ 2 ^ 40) :
    Calls Try.prog 19 #[.slice a l.length cap, .string v] w (RetP (v ∈ l) w) := by
  have HL := Lib.hid hl
  clear hl
  go_enter Try.func19, Try.ntmps19
  go_wp2_with fail
  go_loopw [9] (fun i wr => ∃ j : Nat, j ≤ l.length ∧ i = .int .i64 (j : Nat) ∧ Hid (∀ j', j' < j → nthS l j' ≠ v) ∧ Below w.heap.size w wr) (fun i _ => l.length - (intOf i).toNat)
  case atStart => exact ⟨0, Nat.zero_le _, rfl, Lib.hid (fun j' h => absurd h (Nat.not_lt_zero _)), Below.refl _ _⟩
  case round =>
    obtain ⟨j, hj, rfl, hno, hbw⟩ := hrel
    by_cases hlt : j < l.length
    · obtain ⟨b, off, rfl, hb, hc⟩ := (HL.out.later hbw).cell hlt
      have c1 := hc j hlt
      have HM : Hid (nthS l j = v → v ∈ l) := Lib.hid (fun h => by rw [← h, nthS_lt hlt]; exact List.getElem_mem _)
      have HN : Hid (nthS l j ≠ v → ∀ j', j' < j + 1 → nthS l j' ≠ v) := Lib.hid (fun h j' hj' => by
        by_cases e : j' = j
        · rw [e]; exact h
        · exact hno.out j' (by omega))
      clear hc
      generalize nthS l j = u at *
      cases hq : (u.toList == v.toList)
      · have F := Lib.hid (HN.out (fun h => by rw [bytes_eq.2 h] at hq; cases hq))
        go_wp2_with fail
        go_roundw
        case rel => exact ⟨j + 1, by omega, by go_num, F, hbw⟩
        case measure => simp [intOf]; omega
      · have F := Lib.hid (HM.out (bytes_eq.1 hq))
        go_wp2_with fail
        go_ret
        exact RetP.yes F.out hbw
    · have F : Hid (¬ v ∈ l) := Lib.hid (fun h => by
        obtain ⟨j', hj', he⟩ := List.getElem_of_mem h
        exact hno.out j' (by omega) (by rw [nthS_lt hj']; exact he))
      go_wp2_with fail
      go_ret
      exact RetP.no F.out hbw
end Go.Proofs.Ytlldhmoiahcfpaa
