/-
  Systems that come in: their rules' cells and their readings.
-/
import Derived.Test.YtdpfgdckgchpdaaGreatDoorGrp39
import Derived.Test.YtdpfgdckgchpdaaGreatDoorGrp06
import Derived.Test.YtdpfgdckgchpdaaGreatDoorGrp03
import Derived.Test.YtdpfgdckgchpdaaGreatDoorGrp05
import Derived.Deep.Slices
import Derived.ChangeSame
import Derived.ChangeMaps
namespace Go.Proofs.YtdpfgdckgchpdaaGreatDoor
open Go.RowKit
set_option linter.unusedVariables false
set_option maxHeartbeats 400000 in
theorem markTable_row (n : Int) (len k cap base : Nat) (a : Option Addr) (xs : List Value) (w : World) (ho : w.ownsRow base 3 1 (.slice a len cap) len xs) (hk : k ≤ 10000000) (hn : len ≤ 10000000) :
    Calls Tryz.prog 19 #[.agg #[.int .i64 n, .slice a len cap], .int .i64 (k : Nat)] w fun e w' => e = .returned (.int .i64 ((k + len : Nat) : Int)) ∧ w'.ownsRow base 3 1 (.slice a len cap) len ((markVals k len).map (Value.int .i64)) ∧ OnlyRow w a w' := by
  have HO := Lib.hid ho
  clear ho
  go_enter Tryz.func19, Tryz.ntmps19
  go_wp2_with fail
  refine (markIntS_any k len cap base a xs _ (HO.out.alloc _) hk hn).mono ?_
  rintro e w2 ⟨rfl, ho, hr⟩
  have hr2 : Hid (OnlyRow w a w2) := Lib.hid (only_trans (World.grownBy_alloc w (.cells #[.int .i64 n, .slice a len cap] 35) _) hr)
  have ho2 := Lib.hid ho
  clear ho hr
  go_wp2_with fail
  go_ret
  exact ⟨rfl, ho2.out, hr2.out⟩
set_option maxHeartbeats 400000 in
theorem heldTable_any (n : Int) (len k cap : Nat) (a : Option Addr) (w : World) (hl : IntsIn w a (markVals k len)) (hk : k ≤ 10000000) (hn : len ≤ 10000000) :
    Calls Tryz.prog 21 #[.agg #[.int .i64 n, .slice a len cap], .int .i64 (k : Nat)] w fun e w' => e = .returned (.int .i64 ((k + len : Nat) : Int)) ∧ Below w.heap.size w w' := by
  have HL := Lib.hid hl
  clear hl
  go_enter Tryz.func21, Tryz.ntmps21
  go_wp2_with fail
  refine (heldIntS_any k len cap a _ (HL.out.later (alloc_belowS w _)) hk hn).mono ?_
  rintro e w2 ⟨rfl, rfl⟩
  go_wp2_with fail
  go_ret
  exact ⟨rfl, alloc_belowS w _⟩
/-- rows of elements of two types lie in two blocks -/
theorem owns_apart {w : World} {b1 b2 : Nat} {T1 T2 : TypeId} {s1 s2 : Nat} {a1 a2 : Option Addr} {n1 m1 c1 n2 m2 c2 : Nat} {x1 x2 : List Value} (h1 : w.ownsRow b1 T1 s1 (.slice a1 n1 c1) m1 x1) (h2 : w.ownsRow b2 T2 s2 (.slice a2 n2 c2) m2 x2) (hne : T1 ≠ T2) :
    ∀ x y, a1 = some x → a2 = some y → x.block ≠ y.block := by
  rintro x y rfl rfl he
  rcases h1.2 with ⟨hv, _⟩ | ⟨g, cap, cur, hv, hb, hg, _⟩
  · simp at hv
  · rcases h2.2 with ⟨hv2, _⟩ | ⟨g2, cap2, cur2, hv2, hb2, hg2, _⟩
    · simp at hv2
    · simp only [Value.slice.injEq, Option.some.injEq] at hv hv2
      obtain ⟨rfl, _⟩ := hv
      obtain ⟨rfl, _⟩ := hv2
      simp only at he
      subst he
      rw [hg] at hg2
      simp only [Option.some.injEq, Obj.cells.injEq] at hg2
      exact hne hg2.2.1
theorem cell_only {w w' : World} {a : Option Addr} {p : Addr} {v : Value} (hr : OnlyRow w a w') (hc : w.cell? p = some v) (hne : ∀ y, a = some y → y.block ≠ p.block) : w'.cell? p = some v := by
  rw [World.cell?_of_block (w := w) (hr.block _ (World.block_lt_of_cell? w _ hc) (fun e => ?_))]
  · exact hc
  · cases a with
    | none => simp [Value.ownBlock] at e
    | some y =>
      simp only [Value.ownBlock, Option.some.injEq] at e
      exact hne y rfl e.symm
end Go.Proofs.YtdpfgdckgchpdaaGreatDoor
namespace Go.Proofs.YtdpfgdckgchpdaaGreatDoor
open Go.RowKit Go.ChangeShapes Go.WideShapes Go.ChangeAt Go.Joins Go.Deep
set_option linter.unusedVariables false
section
variable {H : Type} {enc : TypeId × Value → H} {P : Program} {w : World}
/-- the cells of each element, and that they read -/
theorem open_slice_raw {t e : TypeId} {fuel : Nat} {cs0 : List Value} {x0 : DataW H × List MemPlace} (ht : P.underlying t = some (.slice e)) (hpos : 0 < P.cellsOf e)
    (hf : DataW.trod enc P w 0 (fun _ => true) true fuel t cs0 = some x0) : ∃ a len cap, cs0 = [.slice a len cap] ∧ len ≤ maxLen ∧ (len = 0 ∨ ∃ b off, a = some ⟨b, off, none⟩ ∧
      ∀ i, i < len → ∃ (cs : List Value) (n : Nat) (y : DataW H × List MemPlace), cs.length = P.cellsOf e ∧ (∀ k, k < P.cellsOf e → w.cell? ⟨b, off + i * P.cellsOf e + k, none⟩ = cs[k]?) ∧ DataW.trod enc P w 0 (fun _ => true) true n e cs = some y) := by
  rcases open_slice ht hf with ⟨rfl, _⟩ | ⟨a, len, cap, m, n, D, Pl, rfl, hb, hl, hm, hmm, hx, hi⟩
  · exact ⟨none, 0, 0, rfl, Nat.zero_le _, .inl rfl⟩
  · skip
    simp only [if_true] at hmm
    refine ⟨some a, len, cap, rfl, Nat.le_trans hl hm, ?_⟩
    rcases Nat.eq_zero_or_pos len with h0 | h0
    · exact .inl h0
    · obtain ⟨b, off, spot⟩ := a
      have hspot : spot = none := by
        obtain ⟨cs', hc, ht'⟩ := hi 0 (by omega)
        obtain ⟨_, hcl, hat⟩ := World.cells?_some hc
        have := hat 0 hpos
        rw [List.getElem?_eq_getElem (by omega)] at this
        have := World.cell?_spot this
        simpa [Addr.add] using this
      subst hspot
      refine .inr ⟨b, off, rfl, fun i hi' => ?_⟩
      obtain ⟨cs', hc, ht'⟩ := hi i (by omega)
      obtain ⟨_, hcl, hat⟩ := World.cells?_some hc
      refine ⟨cs', n, _, hcl, fun k hk => ?_, ht'⟩
      have := hat k hk
      rw [Go.Deep.add_add, add_plain] at this
      rw [← this, Nat.add_assoc]
end
section
variable {H : Type} {enc : TypeId × Value → H} {P : Program} {w : World}
/-- a slice of rules that came in -/
theorem open_rulesIn {t e : TypeId} {f0 f1 : Field} {fuel : Nat} {cs0 : List Value} {q : DataW H × List MemPlace} (ht : P.underlying t = some (.slice e)) (hs : P.underlying e = some (.struct #[f0, f1])) (hC : P.cellsOf e = 2)
    (h0 : P.underlying f0.type = some .string) (h1 : P.underlying f1.type = some .string) (o0 : f0.offset = 0) (o1 : f1.offset = 1) (k0 : P.cellsOf f0.type = 1) (k1 : P.cellsOf f1.type = 1)
    (h : DataW.trod enc P w 0 (fun _ => true) true fuel t cs0 = some q) : ∃ a l cap, cs0 = [.slice a l.length cap] ∧ RulesIn w a l ∧ l.length ≤ 9223372036854775807 ∧ SzR l := by
  obtain ⟨a, len, cap, rfl, hm, hcase⟩ := open_slice_raw ht (by omega) h
  rw [hC] at hcase
  rcases hcase with rfl | ⟨b, off, rfl, hel⟩
  · exact ⟨a, [], cap, rfl, .inl rfl, by simp, fun j hj => absurd hj (by simp)⟩
  · have key : ∀ i, i < len → ∃ p : RulD, w.cell? ⟨b, off + i * 2, none⟩ = some (.string p.1) ∧ w.cell? ⟨b, off + i * 2 + 1, none⟩ = some (.string p.2) ∧ p.1.size ≤ maxLen ∧ p.2.size ≤ maxLen := fun i hi => by
      obtain ⟨cs, n, y, hcl, hat, htr⟩ := hel i hi
      obtain ⟨y0, y1, m, _, _, hy0, hy1⟩ := trod_struct2 hs htr
      rw [o0, k0] at hy0
      rw [o1, k1] at hy1
      match cs, hcl with
      | [c0, c1], _ =>
        obtain ⟨x0, e0, _, w0⟩ := DataW.trod_string h0 hy0
        obtain ⟨x1, e1, _, w1⟩ := DataW.trod_string h1 hy1
        simp at e0 e1
        subst e0 e1
        have z0 := hat 0 (by omega)
        rw [Nat.add_zero] at z0
        exact ⟨(x0, x1), z0, hat 1 (by omega), w0, w1⟩
    obtain ⟨l, hl, hc⟩ : ∃ l : List RulD, l.length = len ∧ ∀ i, i < len → w.cell? ⟨b, off + i * 2, none⟩ = some (.string (nthR l i).1) ∧ w.cell? ⟨b, off + i * 2 + 1, none⟩ = some (.string (nthR l i).2) ∧ (nthR l i).1.size ≤ maxLen ∧ (nthR l i).2.size ≤ maxLen := by
      refine ⟨(List.range len).map fun i => if h : i < len then Classical.choose (key i h) else (⟨#[]⟩, ⟨#[]⟩), by simp, fun i hi => ?_⟩
      have e : nthR ((List.range len).map fun i => if h : i < len then Classical.choose (key i h) else (⟨#[]⟩, ⟨#[]⟩)) i = Classical.choose (key i hi) := by
        rw [nthR_lt (by simpa using hi)]; simp [hi]
      rw [e]
      exact Classical.choose_spec (key i hi)
    refine ⟨some ⟨b, off, none⟩, l, cap, by rw [hl], ?_, by rw [hl]; unfold maxLen at hm; omega, fun j hj => (hc j (by omega)).2.2⟩
    right
    refine ⟨b, off, rfl, fun i hi => ?_⟩
    have hlen := ruleCells_len l
    have hi2 : i / 2 < l.length := by omega
    obtain ⟨s1, s2⟩ := ruleCells_at l (i / 2) hi2
    obtain ⟨c1, c2, _⟩ := hc (i / 2) (by omega)
    rcases Nat.mod_two_eq_zero_or_one i with h2 | h2
    · have e : i = i / 2 * 2 := by omega
      rw [List.getElem?_eq_getElem (by omega)] at s1
      have s1' : (ruleCells l)[i] = .string (nthR l (i / 2)).1 := by
        have := Option.some.inj s1
        rw [← this]; congr 1
      rw [s1', ← c1, ← e]
    · have e : i = i / 2 * 2 + 1 := by omega
      rw [List.getElem?_eq_getElem (by omega)] at s2
      have s2' : (ruleCells l)[i] = .string (nthR l (i / 2)).2 := by
        have := Option.some.inj s2
        rw [← this]; congr 1
      rw [s2', ← c2, Nat.add_assoc, ← e]
/-- a system that came in -/
theorem open_systemIn {r : Reach} {b0 : Nat} {t e : TypeId} {f0 f1 g0 g1 : Field} {v : Value} {d : DataW H} {p : List MemPlace} (hs : P.underlying t = some (.struct #[f0, f1])) (hone : oneCellFields P #[f0, f1] = true) (hC : P.cellsOf t = 2)
    (h0 : P.underlying f0.type = some (.int .i64)) (h1 : P.underlying f1.type = some (.slice e)) (he : P.underlying e = some (.struct #[g0, g1])) (hCe : P.cellsOf e = 2)
    (j0 : P.underlying g0.type = some .string) (j1 : P.underlying g1.type = some .string) (o0 : g0.offset = 0) (o1 : g1.offset = 1) (k0 : P.cellsOf g0.type = 1) (k1 : P.cellsOf g1.type = 1)
    (hv : Value.okWide P w r b0 t v) (h : DataW.Trod enc P w 0 (fun _ => true) true t v d p) : ∃ n a l cap, v = .agg #[.int .i64 n, .slice a l.length cap] ∧ RulesIn w a l ∧ l.length ≤ 9223372036854775807 ∧ SzR l := by
  obtain ⟨c0, c1, y0, y1, m, rfl, _, _, hy0, hy1⟩ := open_agg2 hs hone hC hv h
  obtain ⟨n, e0, _, _⟩ := DataW.trod_int h0 hy0
  obtain ⟨a, l, cap, e1, hl, hn, hz⟩ := open_rulesIn h1 he hCe j0 j1 o0 o1 k0 k1 hy1
  simp only [List.cons.injEq, and_true] at e0 e1
  subst e0 e1
  exact ⟨n, a, l, cap, rfl, hl, hn, hz⟩
end
end Go.Proofs.YtdpfgdckgchpdaaGreatDoor
