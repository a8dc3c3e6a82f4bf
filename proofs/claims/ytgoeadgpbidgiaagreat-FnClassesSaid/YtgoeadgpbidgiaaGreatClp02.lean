/-
  Slices that a call has made: how they are held, filled and read.
-/
import Derived.Test.YtgoeadgpbidgiaaGreatClp01
import Derived.Deep.OwnRows
namespace Go.Proofs.YtgoeadgpbidgiaaGreat
open Go.RowKit
set_option linter.unusedVariables false
/-- what a call hands back that makes a slice: n elements, the cells xs, in memory of its own -/
def RetSl (T : TypeId) (size : Nat) (n : Nat) (xs : List Value) (w : World) (e : Ending) (w' : World) : Prop :=
  ∃ a cap, e = .returned (.slice a n cap) ∧ w'.ownsRow w.heap.size T size (.slice a n cap) n xs ∧ Below w.heap.size w w'
theorem owns_cells {w : World} {base : Nat} {T : TypeId} {size : Nat} {a : Option Addr} {n m cap : Nat} {xs : List Value} (h : w.ownsRow base T size (.slice a m cap) n xs) : CellsIn w a xs := by
  rcases h.2 with ⟨hv, h0⟩ | ⟨g, cap', cur, hv, hb, hg, hn, hc, hs, ht⟩
  · left
    have := h.1
    rw [h0] at this
    simpa using this
  · right
    simp only [Value.slice.injEq] at hv
    refine ⟨g, 0, hv.1, fun i hi => ?_⟩
    have := cell_of_row w g i cur T (0, 0) hg
    rw [Nat.zero_add, this]
    have h2 : xs[i]? = some xs[i] := List.getElem?_eq_getElem hi
    rw [← h2, ← ht, List.getElem?_take]
    have h1 := h.1
    rw [if_pos (by omega)]
    simp
theorem owns_ints {w : World} {base : Nat} {T : TypeId} {size : Nat} {a : Option Addr} {n m cap : Nat} {l : List Int} (h : w.ownsRow base T size (.slice a m cap) n (l.map (Value.int .i64))) : IntsIn w a l := owns_cells h
theorem owns_later {w w' : World} {base : Nat} {T : TypeId} {size : Nat} {v : Value} {n : Nat} {xs : List Value} (h : w.ownsRow base T size v n xs) (hb : Below w.heap.size w w') : w'.ownsRow base T size v n xs :=
  h.kept (row := none) ⟨hb.os, hb.tape, hb.output, hb.size, fun k hk _ => hb.block k hk⟩ (by cases h : v.ownBlock <;> simp)
theorem owns_mono {w : World} {base base' : Nat} {T : TypeId} {size : Nat} {v : Value} {n : Nat} {xs : List Value} (h : w.ownsRow base T size v n xs) (hb : base' ≤ base) : w.ownsRow base' T size v n xs := by
  refine ⟨h.1, ?_⟩
  rcases h.2 with h' | ⟨g, cap', cur, hv, hb', r⟩
  · exact .inl h'
  · exact .inr ⟨g, cap', cur, hv, by omega, r⟩
theorem fill_step {xs tgt : List Value} {j : Nat} (hl : xs.length = tgt.length) (h : xs.take j = tgt.take j) (hj : j < tgt.length) : (xs.set j tgt[j]).take (j + 1) = tgt.take (j + 1) := by
  rw [List.take_succ_eq_append_getElem (by simpa using by omega), List.take_succ_eq_append_getElem hj, List.take_set_of_le (Nat.le_refl _), h]
  simp
theorem fill_done {xs tgt : List Value} {j : Nat} (hl : xs.length = tgt.length) (h : xs.take j = tgt.take j) (hj : ¬ j < tgt.length) : xs = tgt := by
  rwa [List.take_of_length_le (by omega), List.take_of_length_le (by omega)] at h
/-- a row that is being filled -/
def Filling (w wr : World) (T : TypeId) (g n : Nat) (tgt : List Value) (j : Nat) : Prop :=
  ∃ xs, wr.ownsRow g T 1 (.slice (some ⟨g, 0, none⟩) n n) n xs ∧ xs.take j = tgt.take j ∧ Below w.heap.size w wr ∧ w.heap.size ≤ g ∧ tgt.length = n
theorem Filling.cell {w wr : World} {T : TypeId} {g n : Nat} {tgt : List Value} {j : Nat} (h : Filling w wr T g n tgt j) (hj : j < n) : ∃ v, wr.cell? ⟨g, j, none⟩ = some v := by
  obtain ⟨xs, ho, ht, hb, hg, hl⟩ := h
  have := ho.cellAt j (by omega)
  have h1 := ho.1
  exact ⟨xs[j]'(by omega), by rw [this, List.getElem?_eq_getElem]⟩
theorem Filling.frozen {w wr : World} {T : TypeId} {g n : Nat} {tgt : List Value} {j : Nat} (h : Filling w wr T g n tgt j) (i : Nat) : wr.frozen? ⟨g, i, none⟩ = false := by
  obtain ⟨xs, ho, ht, hb, hg, hl⟩ := h
  exact ho.frozenAt i
theorem Filling.store {w wr : World} {T : TypeId} {g n : Nat} {tgt : List Value} {j : Nat} (h : Filling w wr T g n tgt j) (hj : j < n) {u : Value} (hu : tgt[j]? = some u) : Filling w (wr.setCell ⟨g, j, none⟩ u) T g n tgt (j + 1) := by
  obtain ⟨xs, ho, ht, hb, hg, hl⟩ := h
  have h1 := ho.1
  have hu' : tgt[j]'(by omega) = u := by rw [List.getElem?_eq_getElem (by omega)] at hu; simpa using hu
  refine ⟨xs.set j u, (ho.stored j u).1, ?_, hb.setCell hg u, hg, hl⟩
  rw [← hu']
  exact fill_step (by omega) ht (by omega)
theorem Filling.done {w wr : World} {T : TypeId} {g n : Nat} {tgt : List Value} {j : Nat} (h : Filling w wr T g n tgt j) (hj : ¬ j < n) : RetSl T 1 n tgt w (.returned (.slice (some ⟨g, 0, none⟩) n n)) wr := by
  obtain ⟨xs, ho, ht, hb, hg, hl⟩ := h
  have h1 := ho.1
  have : xs = tgt := fill_done (by omega) ht (by omega)
  subst this
  exact ⟨_, _, rfl, owns_mono ho hg, hb⟩
theorem Filling.start (w : World) (T : TypeId) (cs : Array Value) (n : Nat) (tgt : List Value) (hs : cs.size = n) (hn : n ≤ maxLen) (hl : tgt.length = n) : Filling w (w.alloc (.cells cs T)) T w.heap.size n tgt 0 :=
  ⟨cs.toList, World.ownsRow_lit w cs n (Nat.le_refl _) hn (by omega), by simp, (Below.refl _ _).alloc (Nat.le_refl _) _, Nat.le_refl _, hl⟩
theorem Tryz.infoInt : (Tryz.prog.info? 3).map (fun i => (i.zero, i.size, i.bytes)) = some (some (.int .i64 0), 1, 8) := by kernel_rfl
end Go.Proofs.YtgoeadgpbidgiaaGreat
