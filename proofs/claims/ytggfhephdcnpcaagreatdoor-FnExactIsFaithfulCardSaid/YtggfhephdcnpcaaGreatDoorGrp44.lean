/-
  The laws' own helpers over tables.
-/
import Derived.Test.YtggfhephdcnpcaaGreatDoorGrp03
import Derived.Test.YtggfhephdcnpcaaGreatDoorGrp06
import Derived.Test.YtggfhephdcnpcaaGreatDoorGrp05
import Derived.Deep.Slices
import Derived.ChangeSame
import Derived.ChangeMaps
import Derived.Test.YtggfhephdcnpcaaGreatDoorGrp09
namespace Go.Proofs.YtggfhephdcnpcaaGreatDoor
open Go.RowKit Go.ChangeShapes Go.WideShapes Go.ChangeAt Go.Joins Go.Deep
set_option linter.unusedVariables false
section
variable {H : Type} {enc : TypeId × Value → H} {P : Program} {w : World}
/-- the cells of each element, and that they read -/
theorem open_slice_raw {t e : TypeId} {fuel : Nat} {cs0 : List Value} {x0 : DataW H × List MemPlace} (ht : P.underlying t = some (.slice e)) (hpos : 0 < P.cellsOf e)
    (hf : DataW.trod enc P w 0 (fun _ => true) true fuel t cs0 = some x0) : ∃ a len cap, cs0 = [.slice a len cap] ∧ len ≤ maxLen ∧ (len = 0 ∨ ∃ b off, a = some ⟨b, off, none⟩ ∧
      ∀ i, i < len → ∃ (cs : List Value) (n : Nat) (y : DataW H × List MemPlace), cs.length = P.cellsOf e ∧ (∀ k, k < P.cellsOf e → w.cell? ⟨b, off + i * P.cellsOf e + k, none⟩ = cs[k]?) ∧ DataW.trod enc P w 0 (fun _ => true) true n e cs = some y) := by
  rcases open_slice ht hf with ⟨rfl, _⟩ | ⟨a, len, cap, m, n, D, Pl, rfl, hb, hl, hm, hmm, hx, hi⟩
  · exact ⟨none, 0, 0, rfl, Nat.zero_le _, .inl rfl⟩
  · skip
    simp only [if_true] at hmm
    refine ⟨some a, len, cap, rfl, Nat.le_trans hl hm, ?_⟩
    rcases Nat.eq_zero_or_pos len with h0 | h0
    · exact .inl h0
    · obtain ⟨b, off, spot⟩ := a
      have hspot : spot = none := by
        obtain ⟨cs', hc, ht'⟩ := hi 0 (by omega)
        obtain ⟨_, hcl, hat⟩ := World.cells?_some hc
        have := hat 0 hpos
        rw [List.getElem?_eq_getElem (by omega)] at this
        have := World.cell?_spot this
        simpa [Addr.add] using this
      subst hspot
      refine .inr ⟨b, off, rfl, fun i hi' => ?_⟩
      obtain ⟨cs', hc, ht'⟩ := hi i (by omega)
      obtain ⟨_, hcl, hat⟩ := World.cells?_some hc
      refine ⟨cs', n, _, hcl, fun k hk => ?_, ht'⟩
      have := hat k hk
      rw [Go.Deep.add_add, add_plain] at this
      rw [← this, Nat.add_assoc]
end
section
variable {H : Type} {enc : TypeId × Value → H} {P : Program} {w : World}
/-- a slice of rules that came in -/
theorem open_rulesIn {t e : TypeId} {f0 f1 : Field} {fuel : Nat} {cs0 : List Value} {q : DataW H × List MemPlace} (ht : P.underlying t = some (.slice e)) (hs : P.underlying e = some (.struct #[f0, f1])) (hC : P.cellsOf e = 2)
    (h0 : P.underlying f0.type = some .string) (h1 : P.underlying f1.type = some .string) (o0 : f0.offset = 0) (o1 : f1.offset = 1) (k0 : P.cellsOf f0.type = 1) (k1 : P.cellsOf f1.type = 1)
    (h : DataW.trod enc P w 0 (fun _ => true) true fuel t cs0 = some q) : ∃ a l cap, cs0 = [.slice a l.length cap] ∧ RulesIn w a l ∧ l.length ≤ 9223372036854775807 ∧ SzR l := by
  obtain ⟨a, len, cap, rfl, hm, hcase⟩ := open_slice_raw ht (by omega) h
  rw [hC] at hcase
  rcases hcase with rfl | ⟨b, off, rfl, hel⟩
  · exact ⟨a, [], cap, rfl, .inl rfl, by simp, fun j hj => absurd hj (by simp)⟩
  · have key : ∀ i, i < len → ∃ p : RulD, w.cell? ⟨b, off + i * 2, none⟩ = some (.string p.1) ∧ w.cell? ⟨b, off + i * 2 + 1, none⟩ = some (.string p.2) ∧ p.1.size ≤ maxLen ∧ p.2.size ≤ maxLen := fun i hi => by
      obtain ⟨cs, n, y, hcl, hat, htr⟩ := hel i hi
      obtain ⟨y0, y1, m, _, _, hy0, hy1⟩ := trod_struct2 hs htr
      rw [o0, k0] at hy0
      rw [o1, k1] at hy1
      match cs, hcl with
      | [c0, c1], _ =>
        obtain ⟨x0, e0, _, w0⟩ := DataW.trod_string h0 hy0
        obtain ⟨x1, e1, _, w1⟩ := DataW.trod_string h1 hy1
        simp at e0 e1
        subst e0 e1
        have z0 := hat 0 (by omega)
        rw [Nat.add_zero] at z0
        exact ⟨(x0, x1), z0, hat 1 (by omega), w0, w1⟩
    obtain ⟨l, hl, hc⟩ : ∃ l : List RulD, l.length = len ∧ ∀ i, i < len → w.cell? ⟨b, off + i * 2, none⟩ = some (.string (nthR l i).1) ∧ w.cell? ⟨b, off + i * 2 + 1, none⟩ = some (.string (nthR l i).2) ∧ (nthR l i).1.size ≤ maxLen ∧ (nthR l i).2.size ≤ maxLen := by
      refine ⟨(List.range len).map fun i => if h : i < len then Classical.choose (key i h) else (⟨#[]⟩, ⟨#[]⟩), by simp, fun i hi => ?_⟩
      have e : nthR ((List.range len).map fun i => if h : i < len then Classical.choose (key i h) else (⟨#[]⟩, ⟨#[]⟩)) i = Classical.choose (key i hi) := by
        rw [nthR_lt (by simpa using hi)]; simp [hi]
      rw [e]
      exact Classical.choose_spec (key i hi)
    refine ⟨some ⟨b, off, none⟩, l, cap, by rw [hl], ?_, by rw [hl]; unfold maxLen at hm; omega, fun j hj => (hc j (by omega)).2.2⟩
    right
    refine ⟨b, off, rfl, fun i hi => ?_⟩
    have hlen := ruleCells_len l
    have hi2 : i / 2 < l.length := by omega
    obtain ⟨s1, s2⟩ := ruleCells_at l (i / 2) hi2
    obtain ⟨c1, c2, _⟩ := hc (i / 2) (by omega)
    rcases Nat.mod_two_eq_zero_or_one i with h2 | h2
    · have e : i = i / 2 * 2 := by omega
      rw [List.getElem?_eq_getElem (by omega)] at s1
      have s1' : (ruleCells l)[i] = .string (nthR l (i / 2)).1 := by
        have := Option.some.inj s1
        rw [← this]; congr 1
      rw [s1', ← c1, ← e]
    · have e : i = i / 2 * 2 + 1 := by omega
      rw [List.getElem?_eq_getElem (by omega)] at s2
      have s2' : (ruleCells l)[i] = .string (nthR l (i / 2)).2 := by
        have := Option.some.inj s2
        rw [← this]; congr 1
      rw [s2', ← c2, Nat.add_assoc, ← e]
/-- a system that came in -/
theorem open_systemIn {r : Reach} {b0 : Nat} {t e : TypeId} {f0 f1 g0 g1 : Field} {v : Value} {d : DataW H} {p : List MemPlace} (hs : P.underlying t = some (.struct #[f0, f1])) (hone : oneCellFields P #[f0, f1] = true) (hC : P.cellsOf t = 2)
    (h0 : P.underlying f0.type = some (.int .i64)) (h1 : P.underlying f1.type = some (.slice e)) (he : P.underlying e = some (.struct #[g0, g1])) (hCe : P.cellsOf e = 2)
    (j0 : P.underlying g0.type = some .string) (j1 : P.underlying g1.type = some .string) (o0 : g0.offset = 0) (o1 : g1.offset = 1) (k0 : P.cellsOf g0.type = 1) (k1 : P.cellsOf g1.type = 1)
    (hv : Value.okWide P w r b0 t v) (h : DataW.Trod enc P w 0 (fun _ => true) true t v d p) : ∃ n a l cap, v = .agg #[.int .i64 n, .slice a l.length cap] ∧ RulesIn w a l ∧ l.length ≤ 9223372036854775807 ∧ SzR l := by
  obtain ⟨c0, c1, y0, y1, m, rfl, _, _, hy0, hy1⟩ := open_agg2 hs hone hC hv h
  obtain ⟨n, e0, _, _⟩ := DataW.trod_int h0 hy0
  obtain ⟨a, l, cap, e1, hl, hn, hz⟩ := open_rulesIn h1 he hCe j0 j1 o0 o1 k0 k1 hy1
  simp only [List.cons.injEq, and_true] at e0 e1
  subst e0 e1
  exact ⟨n, a, l, cap, rfl, hl, hn, hz⟩
end
end Go.Proofs.YtggfhephdcnpcaaGreatDoor
namespace Go.Proofs.YtggfhephdcnpcaaGreatDoor
open Go.RowKit
set_option linter.unusedVariables false
set_option maxHeartbeats 400000 in
/-- eqIntS of two slices that hold the same numbers -/
theorem eqIntS_same (l : List Int) (a1 a2 : Option Addr) (c1 c2 : Nat) (w : World) (h1 : IntsIn w a1 l) (h2 : IntsIn w a2 l) (hlen : l.length ≤ 2 ^ 47) :
    Calls Tryz.prog 20 #[.slice a1 l.length c1, .slice a2 l.length c2] w fun e w' => e = .returned (.bool true) ∧ Below w.heap.size w w' := by
  go_enter Tryz.func20, Tryz.ntmps20
  go_wp2
  go_loopw [5] (fun i wr => ∃ j : Nat, j ≤ l.length ∧ i = .int .i64 j ∧ Below w.heap.size w wr) (fun i _ => l.length - (intOf i).toNat)
  case atStart => exact ⟨0, Nat.zero_le _, rfl, Below.refl _ _⟩
  case round =>
    obtain ⟨j, hj, rfl, hbel⟩ := hrel
    by_cases hlt : j < l.length
    · obtain ⟨b1, o1, rfl, hb1, hc1⟩ := (h1.later hbel).cell hlt
      obtain ⟨b2, o2, rfl, hb2, hc2⟩ := (h2.later hbel).cell hlt
      have g1 := hc1 j hlt
      have g2 := hc2 j hlt
      clear hc1 hc2
      go_wp2
      go_quiet (fail)
      have hbel2 : Below w.heap.size w (wr.drewN nq) := below_drewN hbel _
      clear hbel g1 g2
      go_wp2
      go_roundw
      case rel => exact ⟨j + 1, by omega, by go_num, hbel2⟩
      case measure => simp [intOf]; omega
    · go_wp2
      go_ret
      exact ⟨rfl, hbel⟩
set_option maxHeartbeats 400000 in
theorem szIntS_any (n cap : Nat) (a : Option Addr) (left : Int) (w : World) (hn : n ≤ 9223372036854775807) (h0 : 0 ≤ left) (h1 : left ≤ 1048576) :
    Calls Tryz.prog 60 #[.slice a n cap, .int .i64 left] w fun e w' => e = .returned (.int .i64 (if left < n then -1 else left - n)) ∧ w = w' := by
  by_cases hlt : left < (n : Int)
  · rw [if_pos hlt]
    go_enter Tryz.func60, Tryz.ntmps60
    go_wp2
    go_ret
    exact ⟨rfl, rfl⟩
  · rw [if_neg hlt]
    go_enter Tryz.func60, Tryz.ntmps60
    go_wp2
    go_ret
    exact ⟨rfl, rfl⟩
/-- marks: the numbers from k on -/
def markVals (k : Nat) (n : Nat) : List Int := (List.range n).map fun (i : Nat) => ((k + i : Nat) : Int)
theorem markVals_len (k n : Nat) : (markVals k n).length = n := by simp [markVals]
theorem markVals_at {k n j : Nat} (h : j < n) : ((markVals k n).map (Value.int .i64))[j]? = some (.int .i64 ((k + j : Nat) : Int)) := by simp [markVals, h]
theorem markVals_nth {k n j : Nat} (h : j < n) : nthZ (markVals k n) j = ((k + j : Nat) : Int) := by rw [nthZ_lt (by simpa [markVals] using h)]; simp [markVals]
/-- only the row of a slice has turned -/
def OnlyRow (w : World) (a : Option Addr) (w' : World) : Prop := w.grownBy w' (Value.slice a 0 0).ownBlock
/-- what a function leaves that marks a slice -/
def Marked (T : TypeId) (w : World) (base : Nat) (a : Option Addr) (n cap k : Nat) (e : Ending) (w' : World) : Prop :=
  e = .returned (.int .i64 ((k + n : Nat) : Int)) ∧ w'.ownsRow base T 1 (.slice a n cap) n ((markVals k n).map (Value.int .i64)) ∧ OnlyRow w a w'
/-- a row that is being marked -/
def Marking (T : TypeId) (w wr : World) (base : Nat) (a : Option Addr) (n cap k j : Nat) : Prop :=
  ∃ xs, wr.ownsRow base T 1 (.slice a n cap) n xs ∧ xs.take j = ((markVals k n).map (Value.int .i64)).take j ∧ OnlyRow w a wr
theorem Marking.start {T : TypeId} {w : World} {base : Nat} {a : Option Addr} {n cap k : Nat} {xs : List Value} (h : w.ownsRow base T 1 (.slice a n cap) n xs) : Marking T w w base a n cap k 0 :=
  ⟨xs, h, by simp, ⟨rfl, rfl, rfl, Nat.le_refl _, fun _ _ _ => rfl⟩⟩
theorem Marking.addr {T : TypeId} {w wr : World} {base : Nat} {a : Option Addr} {n cap k j : Nat} (h : Marking T w wr base a n cap k j) (hj : j < n) : ∃ g, a = some ⟨g, 0, none⟩ := by
  obtain ⟨xs, ho, _⟩ := h
  rcases ho.2 with ⟨hv, h0⟩ | ⟨g, cap', cur, hv, _⟩
  · omega
  · simp only [Value.slice.injEq] at hv
    exact ⟨g, hv.1⟩
theorem Marking.cell {T : TypeId} {w wr : World} {base g n cap k j : Nat} (h : Marking T w wr base (some ⟨g, 0, none⟩) n cap k j) (hj : j < n) : ∃ v, wr.cell? ⟨g, j, none⟩ = some v := by
  obtain ⟨xs, ho, _⟩ := h
  have h1 := ho.1
  exact ⟨xs[j]'(by omega), by rw [ho.cellAt j (by omega), List.getElem?_eq_getElem]⟩
theorem Marking.frozen {T : TypeId} {w wr : World} {base g n cap k j : Nat} (h : Marking T w wr base (some ⟨g, 0, none⟩) n cap k j) (i : Nat) : wr.frozen? ⟨g, i, none⟩ = false := by
  obtain ⟨xs, ho, _⟩ := h
  exact ho.frozenAt i
theorem only_trans {w w1 w2 : World} {a : Option Addr} (h : OnlyRow w a w1) (h' : OnlyRow w1 a w2) : OnlyRow w a w2 :=
  ⟨h'.os.trans h.os, h'.tape.trans h.tape, h'.output.trans h.output, Nat.le_trans h.size h'.size, fun k hk hne => (h'.block k (Nat.lt_of_lt_of_le hk h.size) hne).trans (h.block k hk hne)⟩
theorem Marking.store {T : TypeId} {w wr : World} {base g n cap k j : Nat} (h : Marking T w wr base (some ⟨g, 0, none⟩) n cap k j) (hj : j < n) :
    Marking T w (wr.setCell ⟨g, j, none⟩ (.int .i64 ((k + j : Nat) : Int))) base (some ⟨g, 0, none⟩) n cap k (j + 1) := by
  obtain ⟨xs, ho, ht, hr⟩ := h
  have h1 := ho.1
  have hs := ho.stored j (.int .i64 ((k + j : Nat) : Int))
  have hu := List.getElem?_eq_some_iff.1 (markVals_at (k := k) hj)
  obtain ⟨hu1, hu2⟩ := hu
  refine ⟨_, hs.1, ?_, only_trans hr hs.2⟩
  rw [← hu2]
  exact fill_step (by simp [markVals]; omega) ht hu1
theorem Marking.done {T : TypeId} {w wr : World} {base : Nat} {a : Option Addr} {n cap k j : Nat} (h : Marking T w wr base a n cap k j) (hj : ¬ j < n) : Marked T w base a n cap k (.returned (.int .i64 ((k + n : Nat) : Int))) wr := by
  obtain ⟨xs, ho, ht, hr⟩ := h
  have h1 := ho.1
  have : xs = (markVals k n).map (Value.int .i64) := fill_done (by simp [markVals]; omega) ht (by simp [markVals]; omega)
  subst this
  exact ⟨rfl, ho, hr⟩
end Go.Proofs.YtggfhephdcnpcaaGreatDoor
namespace Go.Proofs.YtggfhephdcnpcaaGreatDoor
open Go.RowKit
set_option linter.unusedVariables false
/-- what toTable hands back -/
def RetTab (T : TypeId) (n : Int) (l : List Int) (w : World) (e : Ending) (w' : World) : Prop :=
  ∃ a cap, e = .returned (.agg #[.int .i64 n, .slice a l.length cap]) ∧ w'.ownsRow w.heap.size T 1 (.slice a l.length cap) l.length (l.map (Value.int .i64)) ∧ Below w.heap.size w w'
set_option maxHeartbeats 400000 in
theorem toTable_any (n : Int) (l : List Int) (a : Option Addr) (cap : Nat) (w : World) (hl : IntsIn w a l) (hlen : l.length ≤ 2097152) :
    Calls Tryz.prog 16 #[.agg #[.int .i64 n, .slice a l.length cap]] w (RetTab 3 n l w) := by
  have HL := Lib.hid hl
  clear hl
  go_enter Tryz.func16, Tryz.ntmps16
  go_wp2_with fail
  refine (toIntS_any l a cap _ (HL.out.later (by repeat (first | exact Below.refl _ _ | refine Below.setCell ?_ (by simp) _ | refine Below.alloc ?_ (by simp; try omega) _))) hlen).mono ?_
  rintro e w2 ⟨a2, c2, rfl, ho, hb2⟩
  have hs := hb2.size
  have hsz : w.heap.size + 1 + 1 < w2.heap.size := by simp at hs; omega
  have h10 : w2.cell? ⟨w.heap.size + 1, 0, none⟩ = some (.int .i64 0) := by rw [hb2.cell (by simp; try omega)]; simp [go_sem]
  have h11 : w2.cell? ⟨w.heap.size + 1, 1, none⟩ = some (.slice none 0 0) := by rw [hb2.cell (by simp; try omega)]; simp [go_sem]
  have h20 : w2.cell? ⟨w.heap.size + 1 + 1, 0, none⟩ = some (.int .i64 n) := by rw [hb2.cell (by simp; try omega)]; simp [go_sem]
  have h21 : w2.cell? ⟨w.heap.size + 1 + 1, 1, none⟩ = some (.slice none 0 0) := by rw [hb2.cell (by simp; try omega)]; simp [go_sem]
  have f10 : w2.frozen? ⟨w.heap.size + 1, 0, none⟩ = false := by rw [hb2.frozen (by simp; try omega)]; simp [go_sem]
  have f11 : w2.frozen? ⟨w.heap.size + 1, 1, none⟩ = false := by rw [hb2.frozen (by simp; try omega)]; simp [go_sem]
  have f20 : w2.frozen? ⟨w.heap.size + 1 + 1, 0, none⟩ = false := by rw [hb2.frozen (by simp; try omega)]; simp [go_sem]
  have f21 : w2.frozen? ⟨w.heap.size + 1 + 1, 1, none⟩ = false := by rw [hb2.frozen (by simp; try omega)]; simp [go_sem]
  have hbel : Below w.heap.size w w2 := by
    refine Below.trans ?_ (hb2.mono (by simp; try omega))
    repeat (first | exact Below.refl _ _ | refine Below.alloc ?_ (by simp; try omega) _)
  have ho' : w2.ownsRow (w.heap.size + 1 + 1 + 1) 3 1 (.slice a2 l.length c2) l.length (l.map (Value.int .i64)) := by simpa using ho
  clear ho hb2 hs
  have HO := Lib.hid ho'
  clear ho'
  go_wp2_with fail
  refine bodyPost_ret (v := .agg #[.int .i64 n, .slice a2 l.length c2]) ?_ rfl ?_
  · simp [results, Tryz.results16, go_sem, h10, h11]
  · refine ⟨_, _, rfl, ?_, ?_⟩
    · exact owns_mono (ownsRow_setCell_below (ownsRow_setCell_below (ownsRow_setCell_below HO.out (by simp; try omega) _) (by simp; try omega) _) (by simp; try omega) _) (by omega)
    · exact ((hbel.setCell (by simp; try omega) _).setCell (by simp; try omega) _).setCell (by simp; try omega) _
set_option maxHeartbeats 400000 in
theorem szTable_any (n : Int) (len cap : Nat) (a : Option Addr) (left : Int) (w : World) (hn : len ≤ 9223372036854775807) (h0 : 0 ≤ left) (h1 : left ≤ 1048576) :
    Calls Tryz.prog 14 #[.agg #[.int .i64 n, .slice a len cap], .int .i64 left] w fun e w' => e = .returned (.int .i64 (if left < len then -1 else left - len)) ∧ Below w.heap.size w w' := by
  have HC := fun w => Lib.hid (szIntS_any len cap a left w hn h0 h1)
  by_cases hlt : left < (len : Int)
  · rw [if_pos hlt] at HC
    rw [if_pos hlt]
    go_enter Tryz.func14, Tryz.ntmps14
    go_wp2_with (go_at_call 60; refine (HC _).out.mono ?_; rintro e w' ⟨rfl, rfl⟩)
    go_ret
    exact ⟨rfl, (Below.refl _ _).alloc (Nat.le_refl _) _⟩
  · rw [if_neg hlt] at HC
    rw [if_neg hlt]
    go_enter Tryz.func14, Tryz.ntmps14
    go_wp2_with (go_at_call 60; refine (HC _).out.mono ?_; rintro e w' ⟨rfl, rfl⟩)
    go_ret
    exact ⟨rfl, (Below.refl _ _).alloc (Nat.le_refl _) _⟩
set_option maxHeartbeats 400000 in
theorem eqTable_same (n : Int) (l : List Int) (a1 a2 : Option Addr) (c1 c2 : Nat) (w : World) (h1 : IntsIn w a1 l) (h2 : IntsIn w a2 l) (hlen : l.length ≤ 2 ^ 47) :
    Calls Tryz.prog 19 #[.agg #[.int .i64 n, .slice a1 l.length c1], .agg #[.int .i64 n, .slice a2 l.length c2]] w fun e w' => e = .returned (.bool true) ∧ Below w.heap.size w w' := by
  have H1 := Lib.hid h1
  have H2 := Lib.hid h2
  clear h1 h2
  go_enter Tryz.func19, Tryz.ntmps19
  go_wp2_with fail
  have hbel : Below w.heap.size w ((w.alloc (.cells #[.int .i64 n, .slice a1 l.length c1] 38)).alloc (.cells #[.int .i64 n, .slice a2 l.length c2] 38)) := ((Below.refl _ _).alloc (Nat.le_refl _) _).alloc (by simp) _
  refine (eqIntS_same l a1 a2 c1 c2 _ (H1.out.later hbel) (H2.out.later hbel) hlen).mono ?_
  rintro e w2 ⟨rfl, hb2⟩
  have hbel2 := Below.now hbel hb2
  clear hbel hb2
  go_wp2_with fail
  go_ret
  exact ⟨rfl, hbel2⟩
theorem owns_only {w w' : World} {base : Nat} {T : TypeId} {size : Nat} {a a' : Option Addr} {n m cap : Nat} {xs : List Value} (h : w.ownsRow base T size (.slice a n cap) m xs) (hr : OnlyRow w a' w')
    (hne : ∀ x y, a = some x → a' = some y → x.block ≠ y.block) : w'.ownsRow base T size (.slice a n cap) m xs := by
  refine h.kept hr ?_
  cases a with
  | none => left; rfl
  | some x =>
    right
    cases a' with
    | none => simp [Value.ownBlock]
    | some y => simpa [Value.ownBlock] using hne x y rfl rfl
theorem below_only {B : Nat} {w w1 w' : World} {a : Option Addr} (h : Below B w w1) (hr : OnlyRow w1 a w') (hB : B ≤ w1.heap.size) (hlo : ∀ x, a = some x → B ≤ x.block) : Below B w w' :=
  h.grown hr hB (fun k hk => by
    cases a with
    | none => simp [Value.ownBlock] at hk
    | some x => simp only [Value.ownBlock, Option.some.injEq] at hk; rw [← hk]; exact hlo x rfl)
theorem owns_range {w : World} {base : Nat} {T : TypeId} {size : Nat} {a : Option Addr} {n m cap : Nat} {xs : List Value} (h : w.ownsRow base T size (.slice a n cap) m xs) : ∀ x, a = some x → base ≤ x.block ∧ x.block < w.heap.size := by
  rintro x rfl
  exact h.lt x.block rfl
end Go.Proofs.YtggfhephdcnpcaaGreatDoor
