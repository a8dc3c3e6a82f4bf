/-
  Slices of integers that come in, and the range of their numbers.
-/
import Derived.Test.YtlldhmoiahcfpaaDoorLift
import Derived.Test.YtlldhmoiahcfpaaDoorTabPlain
namespace Go.Proofs.YtlldhmoiahcfpaaDoor
open Go.RowKit Go.ChangeShapes Go.WideShapes Go.ChangeAt
set_option linter.unusedVariables false
/-- all lie in the range of an int -/
def Rng64 (l : List Int) : Prop := ∀ j, j < l.length → -9223372036854775808 ≤ nthZ l j ∧ nthZ l j ≤ 9223372036854775807
theorem open_sliceIn {H : Type} {enc : TypeId × Value → H} {P : Program} {w : World} {r : Reach} {b0 : Nat} {t e : TypeId} {v : Value} {d : DataW H} {p : List MemPlace} (ht : P.underlying t = some (.slice e)) (he : P.underlying e = some (.int .i64)) (hc : P.cellsOf e = 1)
    (hv : Value.okWide P w r b0 t v) (h : DataW.Trod enc P w 0 (fun _ => true) true t v d p) : ∃ a l cap, v = .slice a l.length cap ∧ IntsIn w a l ∧ l.length ≤ 9223372036854775807 ∧ Rng64 l := by
  obtain ⟨a0, len0, cap0, rfl⟩ := okWide_slice ht hv
  obtain ⟨fuel, hf⟩ := h
  rcases open_ints ht he hc hf with ⟨hcs, _⟩ | ⟨a, len, cap, zs, hcs, _, hl, hm, hz, _, hcell, hwf⟩
  · have e : (Value.slice a0 len0 cap0) = .slice none 0 0 := by simpa [Value.cells] using hcs
    rw [e]
    exact ⟨none, [], 0, rfl, .inl rfl, by simp, fun j hj => absurd hj (by simp)⟩
  · have e : (Value.slice a0 len0 cap0) = .slice (some a) len cap := by simpa [Value.cells] using hcs
    rw [e]
    simp only [if_true] at hz
    have hlen : (zs.take len).length = len := by rw [List.length_take]; omega
    refine ⟨some a, zs.take len, cap, by rw [hlen], ?_, by rw [hlen]; unfold maxLen at hm; omega, fun j hj => ?_⟩
    · by_cases h0 : len = 0
      · left; subst h0; simp
      · obtain ⟨b, off, rfl, hc'⟩ := ints_at hcell (by omega)
        right
        refine ⟨b, off, rfl, fun i hi => ?_⟩
        rw [List.length_map, hlen] at hi
        rw [hc' i (by omega)]
        simp [List.getElem_take, List.getD_eq_getElem?_getD, show i < zs.length by omega]
    · rw [nthZ_lt hj, List.getElem_take]
      exact bounds_i64 (hwf _ (List.getElem_mem _))
end Go.Proofs.YtlldhmoiahcfpaaDoor
