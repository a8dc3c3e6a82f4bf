/-
  Systems that come in: their rules' cells and their readings.
-/
import Derived.Test.YtlldhmoiahcfpaaDoorGrp06
import Derived.Test.YtlldhmoiahcfpaaDoorGrp12
import Derived.Test.YtlldhmoiahcfpaaDoorGrp09
import Derived.Deep.Slices
import Derived.ChangeSame
import Derived.ChangeMaps
namespace Go.Proofs.YtlldhmoiahcfpaaDoor
open Go.RowKit Go.ChangeShapes Go.WideShapes Go.ChangeAt Go.Joins Go.Deep
set_option linter.unusedVariables false
section
variable {H : Type} {enc : TypeId × Value → H} {P : Program} {w : World}
/-- the cells of each element, and that they read -/
theorem open_slice_raw {t e : TypeId} {fuel : Nat} {cs0 : List Value} {x0 : DataW H × List MemPlace} (ht : P.underlying t = some (.slice e)) (hpos : 0 < P.cellsOf e)
    (hf : DataW.trod enc P w 0 (fun _ => true) true fuel t cs0 = some x0) : ∃ a len cap, cs0 = [.slice a len cap] ∧ len ≤ maxLen ∧ (len = 0 ∨ ∃ b off, a = some ⟨b, off, none⟩ ∧
      ∀ i, i < len → ∃ (cs : List Value) (n : Nat) (y : DataW H × List MemPlace), cs.length = P.cellsOf e ∧ (∀ k, k < P.cellsOf e → w.cell? ⟨b, off + i * P.cellsOf e + k, none⟩ = cs[k]?) ∧ DataW.trod enc P w 0 (fun _ => true) true n e cs = some y) := by
  rcases open_slice ht hf with ⟨rfl, _⟩ | ⟨a, len, cap, m, n, D, Pl, rfl, hb, hl, hm, hmm, hx, hi⟩
  · exact ⟨none, 0, 0, rfl, Nat.zero_le _, .inl rfl⟩
  · skip
    simp only [if_true] at hmm
    refine ⟨some a, len, cap, rfl, Nat.le_trans hl hm, ?_⟩
    rcases Nat.eq_zero_or_pos len with h0 | h0
    · exact .inl h0
    · obtain ⟨b, off, spot⟩ := a
      have hspot : spot = none := by
        obtain ⟨cs', hc, ht'⟩ := hi 0 (by omega)
        obtain ⟨_, hcl, hat⟩ := World.cells?_some hc
        have := hat 0 hpos
        rw [List.getElem?_eq_getElem (by omega)] at this
        have := World.cell?_spot this
        simpa [Addr.add] using this
      subst hspot
      refine .inr ⟨b, off, rfl, fun i hi' => ?_⟩
      obtain ⟨cs', hc, ht'⟩ := hi i (by omega)
      obtain ⟨_, hcl, hat⟩ := World.cells?_some hc
      refine ⟨cs', n, _, hcl, fun k hk => ?_, ht'⟩
      have := hat k hk
      rw [Go.Deep.add_add, add_plain] at this
      rw [← this, Nat.add_assoc]
end
section
variable {H : Type} {enc : TypeId × Value → H} {P : Program} {w : World}
/-- a slice of rules that came in -/
theorem open_rulesIn {t e : TypeId} {f0 f1 : Field} {fuel : Nat} {cs0 : List Value} {q : DataW H × List MemPlace} (ht : P.underlying t = some (.slice e)) (hs : P.underlying e = some (.struct #[f0, f1])) (hC : P.cellsOf e = 2)
    (h0 : P.underlying f0.type = some .string) (h1 : P.underlying f1.type = some .string) (o0 : f0.offset = 0) (o1 : f1.offset = 1) (k0 : P.cellsOf f0.type = 1) (k1 : P.cellsOf f1.type = 1)
    (h : DataW.trod enc P w 0 (fun _ => true) true fuel t cs0 = some q) : ∃ a l cap, cs0 = [.slice a l.length cap] ∧ RulesIn w a l ∧ l.length ≤ 9223372036854775807 ∧ SzR l := by
  obtain ⟨a, len, cap, rfl, hm, hcase⟩ := open_slice_raw ht (by omega) h
  rw [hC] at hcase
  rcases hcase with rfl | ⟨b, off, rfl, hel⟩
  · exact ⟨a, [], cap, rfl, .inl rfl, by simp, fun j hj => absurd hj (by simp)⟩
  · have key : ∀ i, i < len → ∃ p : RulD, w.cell? ⟨b, off + i * 2, none⟩ = some (.string p.1) ∧ w.cell? ⟨b, off + i * 2 + 1, none⟩ = some (.string p.2) ∧ p.1.size ≤ maxLen ∧ p.2.size ≤ maxLen := fun i hi => by
      obtain ⟨cs, n, y, hcl, hat, htr⟩ := hel i hi
      obtain ⟨y0, y1, m, _, _, hy0, hy1⟩ := trod_struct2 hs htr
      rw [o0, k0] at hy0
      rw [o1, k1] at hy1
      match cs, hcl with
      | [c0, c1], _ =>
        obtain ⟨x0, e0, _, w0⟩ := DataW.trod_string h0 hy0
        obtain ⟨x1, e1, _, w1⟩ := DataW.trod_string h1 hy1
        simp at e0 e1
        subst e0 e1
        have z0 := hat 0 (by omega)
        rw [Nat.add_zero] at z0
        exact ⟨(x0, x1), z0, hat 1 (by omega), w0, w1⟩
    obtain ⟨l, hl, hc⟩ : ∃ l : List RulD, l.length = len ∧ ∀ i, i < len → w.cell? ⟨b, off + i * 2, none⟩ = some (.string (nthR l i).1) ∧ w.cell? ⟨b, off + i * 2 + 1, none⟩ = some (.string (nthR l i).2) ∧ (nthR l i).1.size ≤ maxLen ∧ (nthR l i).2.size ≤ maxLen := by
      refine ⟨(List.range len).map fun i => if h : i < len then Classical.choose (key i h) else (⟨#[]⟩, ⟨#[]⟩), by simp, fun i hi => ?_⟩
      have e : nthR ((List.range len).map fun i => if h : i < len then Classical.choose (key i h) else (⟨#[]⟩, ⟨#[]⟩)) i = Classical.choose (key i hi) := by
        rw [nthR_lt (by simpa using hi)]; simp [hi]
      rw [e]
      exact Classical.choose_spec (key i hi)
    refine ⟨some ⟨b, off, none⟩, l, cap, by rw [hl], ?_, by rw [hl]; unfold maxLen at hm; omega, fun j hj => (hc j (by omega)).2.2⟩
    right
    refine ⟨b, off, rfl, fun i hi => ?_⟩
    have hlen := ruleCells_len l
    have hi2 : i / 2 < l.length := by omega
    obtain ⟨s1, s2⟩ := ruleCells_at l (i / 2) hi2
    obtain ⟨c1, c2, _⟩ := hc (i / 2) (by omega)
    rcases Nat.mod_two_eq_zero_or_one i with h2 | h2
    · have e : i = i / 2 * 2 := by omega
      rw [List.getElem?_eq_getElem (by omega)] at s1
      have s1' : (ruleCells l)[i] = .string (nthR l (i / 2)).1 := by
        have := Option.some.inj s1
        rw [← this]; congr 1
      rw [s1', ← c1, ← e]
    · have e : i = i / 2 * 2 + 1 := by omega
      rw [List.getElem?_eq_getElem (by omega)] at s2
      have s2' : (ruleCells l)[i] = .string (nthR l (i / 2)).2 := by
        have := Option.some.inj s2
        rw [← this]; congr 1
      rw [s2', ← c2, Nat.add_assoc, ← e]
/-- a system that came in -/
theorem open_systemIn {r : Reach} {b0 : Nat} {t e : TypeId} {f0 f1 g0 g1 : Field} {v : Value} {d : DataW H} {p : List MemPlace} (hs : P.underlying t = some (.struct #[f0, f1])) (hone : oneCellFields P #[f0, f1] = true) (hC : P.cellsOf t = 2)
    (h0 : P.underlying f0.type = some (.int .i64)) (h1 : P.underlying f1.type = some (.slice e)) (he : P.underlying e = some (.struct #[g0, g1])) (hCe : P.cellsOf e = 2)
    (j0 : P.underlying g0.type = some .string) (j1 : P.underlying g1.type = some .string) (o0 : g0.offset = 0) (o1 : g1.offset = 1) (k0 : P.cellsOf g0.type = 1) (k1 : P.cellsOf g1.type = 1)
    (hv : Value.okWide P w r b0 t v) (h : DataW.Trod enc P w 0 (fun _ => true) true t v d p) : ∃ n a l cap, v = .agg #[.int .i64 n, .slice a l.length cap] ∧ RulesIn w a l ∧ l.length ≤ 9223372036854775807 ∧ SzR l := by
  obtain ⟨c0, c1, y0, y1, m, rfl, _, _, hy0, hy1⟩ := open_agg2 hs hone hC hv h
  obtain ⟨n, e0, _, _⟩ := DataW.trod_int h0 hy0
  obtain ⟨a, l, cap, e1, hl, hn, hz⟩ := open_rulesIn h1 he hCe j0 j1 o0 o1 k0 k1 hy1
  simp only [List.cons.injEq, and_true] at e0 e1
  subst e0 e1
  exact ⟨n, a, l, cap, rfl, hl, hn, hz⟩
end
end Go.Proofs.YtlldhmoiahcfpaaDoor
