/-
  The laws' own helpers over slices of strings.
-/
import Derived.Test.YtlldhmoiahcfpaaDoorFmtWords
import Derived.Test.YtlldhmoiahcfpaaDoorLift
import Derived.SliceStrings
namespace Go.Proofs.YtlldhmoiahcfpaaDoor
open Go.RowKit Go.ChangeShapes Go.WideShapes Go.ChangeAt
set_option linter.unusedVariables false
theorem strSum_take (l : List ByteArray) {j : Nat} (h : j ≤ l.length) : sumTo l j ≤ strSum l := by
  have := sumTo_mono l h
  rw [sumTo_eq l l.length (Nat.le_refl _), List.take_of_length_le (Nat.le_refl _)] at this
  exact this
theorem strSum_all (l : List ByteArray) : sumTo l l.length = strSum l := by
  rw [sumTo_eq l l.length (Nat.le_refl _), List.take_of_length_le (Nat.le_refl _)]; rfl
/-- what szStringS hands back -/
def szF (left : Int) (l : List ByteArray) : Int := if left < (l.length : Int) + strSum l then -1 else left - l.length - strSum l
theorem szF_big {left : Int} {l : List ByteArray} (h : left < (l.length : Int) + strSum l) : szF left l = -1 := by simp [szF, h]
theorem szF_ok {left : Int} {l : List ByteArray} (h : ¬ left < (l.length : Int) + strSum l) : szF left l = left - l.length - strSum l := by simp only [szF, if_neg h]
set_option maxHeartbeats 400000 in
/-- eqStringS of two slices that hold the same strings -/
theorem eqStringS_same (l : List ByteArray) (a1 a2 : Option Addr) (c1 c2 : Nat) (w : World) (h1 : StrsIn w a1 l) (h2 : StrsIn w a2 l) (hlen : l.length ≤ 2 ^ 47) :
    Calls Tryd.prog 12 #[.slice a1 l.length c1, .slice a2 l.length c2] w fun e w' => e = .returned (.bool true) ∧ Below w.heap.size w w' := by
  go_enter Tryd.func12, Tryd.ntmps12
  go_wp2
  go_loopw [5] (fun i wr => ∃ j : Nat, j ≤ l.length ∧ i = .int .i64 j ∧ Below w.heap.size w wr) (fun i _ => l.length - (intOf i).toNat)
  case atStart => exact ⟨0, Nat.zero_le _, rfl, Below.refl _ _⟩
  case round =>
    obtain ⟨j, hj, rfl, hbel⟩ := hrel
    by_cases hlt : j < l.length
    · obtain ⟨b1, o1, rfl, hb1, hc1⟩ := (h1.later hbel).cell hlt
      obtain ⟨b2, o2, rfl, hb2, hc2⟩ := (h2.later hbel).cell hlt
      have g1 := hc1 j hlt
      have g2 := hc2 j hlt
      clear hc1 hc2
      go_wp2
      go_quiet (fail)
      have hbel2 : Below w.heap.size w (wr.drewN nq) := below_drewN hbel _
      clear hbel g1 g2
      go_wp2
      go_roundw
      case rel => exact ⟨j + 1, by omega, by go_num, hbel2⟩
      case measure => simp [intOf]; omega
    · go_wp2
      go_ret
      exact ⟨rfl, hbel⟩
/-- a slice of strings that came in -/
theorem open_strsIn {H : Type} {enc : TypeId × Value → H} {P : Program} {w : World} {r : Reach} {b0 : Nat} {t e : TypeId} {v : Value} {d : DataW H} {p : List MemPlace} (ht : P.underlying t = some (.slice e)) (he : P.underlying e = some .string) (hc : P.cellsOf e = 1)
    (hv : Value.okWide P w r b0 t v) (h : DataW.Trod enc P w 0 (fun _ => true) true t v d p) : ∃ a l cap, v = .slice a l.length cap ∧ StrsIn w a l ∧ l.length ≤ 9223372036854775807 ∧ ∀ j, j < l.length → (nthS l j).size ≤ maxLen := by
  obtain ⟨a0, len0, cap0, rfl⟩ := okWide_slice ht hv
  obtain ⟨fuel, hf⟩ := h
  rcases open_strings ht he hc hf with ⟨hcs, _⟩ | ⟨a, len, cap, ss, hcs, _, hl, hm, hz, _, hcell, hsz⟩
  · have e : (Value.slice a0 len0 cap0) = .slice none 0 0 := by simpa [Value.cells] using hcs
    rw [e]
    exact ⟨none, [], 0, rfl, .inl rfl, by simp, fun j hj => absurd hj (by simp)⟩
  · have e : (Value.slice a0 len0 cap0) = .slice (some a) len cap := by simpa [Value.cells] using hcs
    rw [e]
    simp only [if_true] at hz
    have hlen : (ss.take len).length = len := by rw [List.length_take]; omega
    have hat : ∀ j, j < len → nthS (ss.take len) j = ss.getD j ByteArray.empty := fun j hj => by
      rw [nthS_lt (by omega), List.getD_eq_getElem?_getD, List.getElem?_eq_getElem (by omega)]
      simp
    refine ⟨some a, ss.take len, cap, by rw [hlen], ?_, by rw [hlen]; unfold maxLen at hm; omega, fun j hj => ?_⟩
    · by_cases h0 : len = 0
      · left; subst h0; simp
      · obtain ⟨b, off, spot⟩ := a
        have hspot : spot = none := by simpa [Addr.add] using World.cell?_spot (hcell 0 (by omega))
        subst hspot
        right
        refine ⟨b, off, rfl, fun i hi => ?_⟩
        rw [List.length_map, hlen] at hi
        have := hcell i (by omega)
        rw [add_plain] at this
        rw [this, List.getElem_map, ← nthS_lt (by omega), hat i hi]
    · rw [hlen] at hj
      rw [hat j hj, List.getD_eq_getElem?_getD, List.getElem?_eq_getElem (by omega)]
      exact hsz _ (List.getElem_mem _)
end Go.Proofs.YtlldhmoiahcfpaaDoor
