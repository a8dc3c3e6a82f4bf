/-
  Slices of links that come in.
-/
import Derived.Test.YtldkghfnlkbmpaaDoorOpenPairs
import Derived.Test.YtldkghfnlkbmpaaDoorLinks
namespace Go.Proofs.YtldkghfnlkbmpaaDoor
open Go.RowKit Go.ChangeShapes Go.WideShapes Go.ChangeAt Go.Joins Go.Deep
set_option linter.unusedVariables false
section
variable {H : Type} {enc : TypeId × Value → H} {P : Program} {w : World}
/-- a slice of links that came in -/
theorem open_linksIn {r : Reach} {b0 : Nat} {t e : TypeId} {f0 f1 f2 : Field} {v : Value} {d : DataW H} {p : List MemPlace} (ht : P.underlying t = some (.slice e)) (hs : P.underlying e = some (.struct #[f0, f1, f2])) (hC : P.cellsOf e = 3)
    (h0 : P.underlying f0.type = some (.int .i64)) (h1 : P.underlying f1.type = some (.int .i64)) (h2 : P.underlying f2.type = some .bool) (o0 : f0.offset = 0) (o1 : f1.offset = 1) (o2 : f2.offset = 2) (k0 : P.cellsOf f0.type = 1) (k1 : P.cellsOf f1.type = 1) (k2 : P.cellsOf f2.type = 1)
    (hv : Value.okWide P w r b0 t v) (h : DataW.Trod enc P w 0 (fun _ => true) true t v d p) : ∃ a l cap, v = .slice a l.length cap ∧ LinksIn w a l ∧ l.length ≤ 9223372036854775807 ∧ RngK l := by
  obtain ⟨a, len, cap, rfl, hm, hcase⟩ := open_slice_cells ht (by omega) hv h
  rw [hC] at hcase
  rcases hcase with rfl | ⟨b, off, rfl, hel⟩
  · exact ⟨a, [], cap, rfl, .inl rfl, by simp, fun j hj => absurd hj (by simp)⟩
  · have key : ∀ i, i < len → ∃ p : Int × Int × Bool, w.cell? ⟨b, off + i * 3, none⟩ = some (.int .i64 p.1) ∧ w.cell? ⟨b, off + i * 3 + 1, none⟩ = some (.int .i64 p.2.1) ∧ w.cell? ⟨b, off + i * 3 + 2, none⟩ = some (.bool p.2.2) ∧ (-9223372036854775808 ≤ p.1 ∧ p.1 ≤ 9223372036854775807) ∧ (-9223372036854775808 ≤ p.2.1 ∧ p.2.1 ≤ 9223372036854775807) := fun i hi => by
      obtain ⟨cs, n, y, hcl, hat, htr⟩ := hel i hi
      obtain ⟨y0, y1, y2, m, _, _, hy0, hy1, hy2⟩ := trod_struct3 hs htr
      rw [o0, k0] at hy0
      rw [o1, k1] at hy1
      rw [o2, k2] at hy2
      match cs, hcl with
      | [c0, c1, c2], _ =>
        obtain ⟨x0, e0, _, w0⟩ := DataW.trod_int h0 hy0
        obtain ⟨x1, e1, _, w1⟩ := DataW.trod_int h1 hy1
        obtain ⟨x2, e2, _⟩ := DataW.trod_bool h2 hy2
        simp at e0 e1 e2
        subst e0 e1 e2
        have z0 := hat 0 (by omega)
        rw [Nat.add_zero] at z0
        exact ⟨(x0, x1, x2), z0, hat 1 (by omega), hat 2 (by omega), bounds_i64 w0, bounds_i64 w1⟩
    obtain ⟨l, hl, hc⟩ : ∃ l : List (Int × Int × Bool), l.length = len ∧ ∀ i, i < len → w.cell? ⟨b, off + i * 3, none⟩ = some (.int .i64 (nthK l i).1) ∧ w.cell? ⟨b, off + i * 3 + 1, none⟩ = some (.int .i64 (nthK l i).2.1) ∧ w.cell? ⟨b, off + i * 3 + 2, none⟩ = some (.bool (nthK l i).2.2) ∧ (-9223372036854775808 ≤ (nthK l i).1 ∧ (nthK l i).1 ≤ 9223372036854775807) ∧ (-9223372036854775808 ≤ (nthK l i).2.1 ∧ (nthK l i).2.1 ≤ 9223372036854775807) := by
      refine ⟨(List.range len).map fun i => if h : i < len then Classical.choose (key i h) else (0, 0, false), by simp, fun i hi => ?_⟩
      have e : nthK ((List.range len).map fun i => if h : i < len then Classical.choose (key i h) else (0, 0, false)) i = Classical.choose (key i hi) := by
        rw [nthK_lt (by simpa using hi)]; simp [hi]
      rw [e]
      exact Classical.choose_spec (key i hi)
    refine ⟨some ⟨b, off, none⟩, l, cap, by rw [hl], ?_, by rw [hl]; unfold maxLen at hm; omega, fun j hj => (hc j (by omega)).2.2.2⟩
    right
    refine ⟨b, off, rfl, fun i hi => ?_⟩
    have hlen := linkCells_len l
    have hi2 : i / 3 < l.length := by omega
    obtain ⟨s1, s2, s3⟩ := linkCells_at l (i / 3) hi2
    obtain ⟨c1, c2, c3, _⟩ := hc (i / 3) (by omega)
    have hm3 : i % 3 = 0 ∨ i % 3 = 1 ∨ i % 3 = 2 := by omega
    rcases hm3 with h2 | h2 | h2
    · have e : i = i / 3 * 3 := by omega
      rw [List.getElem?_eq_getElem (by omega)] at s1
      have s1' : (linkCells l)[i] = .int .i64 (nthK l (i / 3)).1 := by
        have := Option.some.inj s1
        rw [← this]; congr 1
      rw [s1', ← c1, ← e]
    · have e : i = i / 3 * 3 + 1 := by omega
      rw [List.getElem?_eq_getElem (by omega)] at s2
      have s2' : (linkCells l)[i] = .int .i64 (nthK l (i / 3)).2.1 := by
        have := Option.some.inj s2
        rw [← this]; congr 1
      rw [s2', ← c2, Nat.add_assoc, ← e]
    · have e : i = i / 3 * 3 + 2 := by omega
      rw [List.getElem?_eq_getElem (by omega)] at s3
      have s3' : (linkCells l)[i] = .bool (nthK l (i / 3)).2.2 := by
        have := Option.some.inj s3
        rw [← this]; congr 1
      rw [s3', ← c3, Nat.add_assoc, ← e]
end
end Go.Proofs.YtldkghfnlkbmpaaDoor
