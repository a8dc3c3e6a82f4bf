/-
  Slices that a call has made: how they are held, filled and read.
-/
import Derived.Test.YtklbehapbchnaaaDoorRows
import Derived.WalkKit
import Derived.WalkSpells
import Derived.WalkLawsBesides
import Derived.BigQuiet
import Derived.Lib.Hide
import Derived.Deep.QuietTactic
import Derived.Deep.OwnRows
namespace Go.Proofs.YtklbehapbchnaaaDoor
open Go.RowKit
set_option linter.unusedVariables false
/-- the number a lies in the range from b to c -/
def inB (a b c : Int) : Bool := decide (b ≤ a) && decide (a ≤ c)
theorem inB_bounds {a b c : Int} (h : inB a b c = true) : b ≤ a ∧ a ≤ c := by simpa [inB] using h
/-- the byte is among the first k small letters -/
def letB (k : Int) (c : UInt8) : Bool := inB (c.toNat : Int) 97 (97 + k - 1)
/-- all bytes of a text have a property -/
def allB (p : UInt8 → Bool) (s : ByteArray) : Bool := s.data.toList.all p
theorem byte_lt (c : UInt8) : (c.toNat : Int) < 256 := by have := c.toNat_lt; omega
end Go.Proofs.YtklbehapbchnaaaDoor
namespace Go.Proofs.YtklbehapbchnaaaDoor
open Go.RowKit
set_option linter.unusedVariables false
theorem Below.next {B : Nat} {w W W' : World} (h : Below B w W) (h' : Below W.heap.size W W') (hB : B ≤ W.heap.size) : Below B w W' := h.trans (h'.mono hB)
theorem Below.now {w W W' : World} (h : Below w.heap.size w W) (h' : Below W.heap.size W W') : Below w.heap.size w W' := h.trans (h'.mono h.size)
/-- draws and new blocks -/
structure Ext where
  d : Nat
  h : Array Obj
instance : Inhabited Ext := ⟨⟨0, #[]⟩⟩
/-- w with other draws and with new blocks behind its own -/
def wide (w : World) (x : Ext) : World := { w with drawn := x.d, heap := w.heap ++ x.h }
theorem wide_of_below {w w' : World} (h : Below w.heap.size w w') : ∃ x, w' = wide w x := by
  refine ⟨⟨w'.drawn, w'.heap.extract w.heap.size w'.heap.size⟩, ?_⟩
  obtain ⟨heap, tape, drawn, os, output⟩ := w'
  obtain ⟨h1, h2, h3, h4, h5⟩ := h
  simp only [] at h1 h2 h3 h4 h5
  unfold wide
  simp only [World.mk.injEq, h1, h2, h3, and_true]
  apply Array.ext
  · simp; omega
  · intro i hi hi'
    by_cases hlt : i < w.heap.size
    · have h6 := h5 i hlt
      rw [Array.getElem?_eq_getElem hi, Array.getElem?_eq_getElem hlt] at h6
      rw [Array.getElem_append_left hlt]
      simpa using h6
    · rw [Array.getElem_append_right (by omega)]
      simp only [Array.getElem_extract]
      congr 1
      omega
theorem below_wide (w : World) (x : Ext) : Below w.heap.size w (wide w x) :=
  ⟨rfl, rfl, rfl, by simp [wide], fun k hk => by simp [wide, Array.getElem?_append_left hk]⟩
theorem wide_cell {w : World} {a : Addr} {v : Value} (h : w.cell? a = some v) (x : Ext) : (wide w x).cell? a = some v := by
  rw [(below_wide w x).cell (World.block_lt_of_cell? w a h), h]
/-- the cells behind an address -/
def CellsIn (w : World) (a : Option Addr) (vs : List Value) : Prop :=
  vs = [] ∨ ∃ b off, a = some ⟨b, off, none⟩ ∧ ∀ i (h : i < vs.length), w.cell? ⟨b, off + i, none⟩ = some vs[i]
theorem CellsIn.later {w w' : World} {a : Option Addr} {vs : List Value} (h : CellsIn w a vs) (hb : Below w.heap.size w w') : CellsIn w' a vs := by
  rcases h with h | ⟨b, off, ha, hc⟩
  · exact .inl h
  · refine .inr ⟨b, off, ha, fun i hi => ?_⟩
    rw [hb.cell (World.block_lt_of_cell? w _ (hc i hi)), hc i hi]
/-- a slice of integers -/
def IntsIn (w : World) (a : Option Addr) (l : List Int) : Prop := CellsIn w a (l.map (Value.int .i64))
theorem IntsIn.later {w w' : World} {a : Option Addr} {l : List Int} (h : IntsIn w a l) (hb : Below w.heap.size w w') : IntsIn w' a l := CellsIn.later h hb
theorem IntsIn.at {w : World} {a : Option Addr} {l : List Int} (h : IntsIn w a l) {i : Nat} (hi : i < l.length) :
    ∃ b off, a = some ⟨b, off, none⟩ ∧ ∀ j, j < l.length → w.cell? ⟨b, off + j, none⟩ = some (.int .i64 (l.getD j 0)) := by
  rcases h with h | ⟨b, off, ha, hc⟩
  · simp at h; simp [h] at hi
  · refine ⟨b, off, ha, fun j hj => ?_⟩
    have := hc j (by simpa using hj)
    simpa [List.getD_eq_getElem?_getD, hj] using this
theorem wide_next {w : World} {x : Ext} {w2 : World} (h : Below (wide w x).heap.size (wide w x) w2) : ∃ y, w2 = wide w y := by
  have hb := below_wide w x
  exact wide_of_below (hb.trans (h.mono hb.size))
/-- a region that draws its order, whose operations read and whose callees make memory of their own: one walk, in the order of the text -/
theorem region_wide {P : Program} {id : Nat} {Q : Exit → Act → World → Prop} {a : Act} {w : World} {l : List Oper} (hm : P.follows .mixedOrders = true) (hB : Region.lexB .any l.toArray = true)
    (h : wpQuiet P l.toArray (fun w' => ∃ x, w' = wide w x) (fun a' => ∀ w', (∃ x, w' = wide w x) → Q .normal a' w') l a) : (Code.region id l.toArray true).wp P Q a w :=
  wp_region_quiet (C := fun w' => ∃ x, w' = wide w x) hm hB ⟨⟨w.drawn + 1, #[]⟩, by simp [wide]⟩ (by simpa using h)
end Go.Proofs.YtklbehapbchnaaaDoor
namespace Go.Proofs.YtklbehapbchnaaaDoor
open Go.RowKit
set_option linter.unusedVariables false
/-- what a call hands back that makes a slice: n elements, the cells xs, in memory of its own -/
def RetSl (T : TypeId) (size : Nat) (n : Nat) (xs : List Value) (w : World) (e : Ending) (w' : World) : Prop :=
  ∃ a cap, e = .returned (.slice a n cap) ∧ w'.ownsRow w.heap.size T size (.slice a n cap) n xs ∧ Below w.heap.size w w'
theorem owns_cells {w : World} {base : Nat} {T : TypeId} {size : Nat} {a : Option Addr} {n m cap : Nat} {xs : List Value} (h : w.ownsRow base T size (.slice a m cap) n xs) : CellsIn w a xs := by
  rcases h.2 with ⟨hv, h0⟩ | ⟨g, cap', cur, hv, hb, hg, hn, hc, hs, ht⟩
  · left
    have := h.1
    rw [h0] at this
    simpa using this
  · right
    simp only [Value.slice.injEq] at hv
    refine ⟨g, 0, hv.1, fun i hi => ?_⟩
    have := cell_of_row w g i cur T (0, 0) hg
    rw [Nat.zero_add, this]
    have h2 : xs[i]? = some xs[i] := List.getElem?_eq_getElem hi
    rw [← h2, ← ht, List.getElem?_take]
    have h1 := h.1
    rw [if_pos (by omega)]
    simp
theorem owns_later {w w' : World} {base : Nat} {T : TypeId} {size : Nat} {v : Value} {n : Nat} {xs : List Value} (h : w.ownsRow base T size v n xs) (hb : Below w.heap.size w w') : w'.ownsRow base T size v n xs :=
  h.kept (row := none) ⟨hb.os, hb.tape, hb.output, hb.size, fun k hk _ => hb.block k hk⟩ (by cases h : v.ownBlock <;> simp)
theorem owns_mono {w : World} {base base' : Nat} {T : TypeId} {size : Nat} {v : Value} {n : Nat} {xs : List Value} (h : w.ownsRow base T size v n xs) (hb : base' ≤ base) : w.ownsRow base' T size v n xs := by
  refine ⟨h.1, ?_⟩
  rcases h.2 with h' | ⟨g, cap', cur, hv, hb', r⟩
  · exact .inl h'
  · exact .inr ⟨g, cap', cur, hv, by omega, r⟩
theorem fill_step {xs tgt : List Value} {j : Nat} (hl : xs.length = tgt.length) (h : xs.take j = tgt.take j) (hj : j < tgt.length) : (xs.set j tgt[j]).take (j + 1) = tgt.take (j + 1) := by
  rw [List.take_succ_eq_append_getElem (by simpa using by omega), List.take_succ_eq_append_getElem hj, List.take_set_of_le (Nat.le_refl _), h]
  simp
theorem fill_done {xs tgt : List Value} {j : Nat} (hl : xs.length = tgt.length) (h : xs.take j = tgt.take j) (hj : ¬ j < tgt.length) : xs = tgt := by
  rwa [List.take_of_length_le (by omega), List.take_of_length_le (by omega)] at h
/-- a row that is being filled -/
def Filling (w wr : World) (T : TypeId) (g n : Nat) (tgt : List Value) (j : Nat) : Prop :=
  ∃ xs, wr.ownsRow g T 1 (.slice (some ⟨g, 0, none⟩) n n) n xs ∧ xs.take j = tgt.take j ∧ Below w.heap.size w wr ∧ w.heap.size ≤ g ∧ tgt.length = n
theorem Filling.cell {w wr : World} {T : TypeId} {g n : Nat} {tgt : List Value} {j : Nat} (h : Filling w wr T g n tgt j) (hj : j < n) : ∃ v, wr.cell? ⟨g, j, none⟩ = some v := by
  obtain ⟨xs, ho, ht, hb, hg, hl⟩ := h
  have := ho.cellAt j (by omega)
  have h1 := ho.1
  exact ⟨xs[j]'(by omega), by rw [this, List.getElem?_eq_getElem]⟩
theorem Filling.frozen {w wr : World} {T : TypeId} {g n : Nat} {tgt : List Value} {j : Nat} (h : Filling w wr T g n tgt j) (i : Nat) : wr.frozen? ⟨g, i, none⟩ = false := by
  obtain ⟨xs, ho, ht, hb, hg, hl⟩ := h
  exact ho.frozenAt i
theorem Filling.store {w wr : World} {T : TypeId} {g n : Nat} {tgt : List Value} {j : Nat} (h : Filling w wr T g n tgt j) (hj : j < n) {u : Value} (hu : tgt[j]? = some u) : Filling w (wr.setCell ⟨g, j, none⟩ u) T g n tgt (j + 1) := by
  obtain ⟨xs, ho, ht, hb, hg, hl⟩ := h
  have h1 := ho.1
  have hu' : tgt[j]'(by omega) = u := by rw [List.getElem?_eq_getElem (by omega)] at hu; simpa using hu
  refine ⟨xs.set j u, (ho.stored j u).1, ?_, hb.setCell hg u, hg, hl⟩
  rw [← hu']
  exact fill_step (by omega) ht (by omega)
theorem Filling.done {w wr : World} {T : TypeId} {g n : Nat} {tgt : List Value} {j : Nat} (h : Filling w wr T g n tgt j) (hj : ¬ j < n) : RetSl T 1 n tgt w (.returned (.slice (some ⟨g, 0, none⟩) n n)) wr := by
  obtain ⟨xs, ho, ht, hb, hg, hl⟩ := h
  have h1 := ho.1
  have : xs = tgt := fill_done (by omega) ht (by omega)
  subst this
  exact ⟨_, _, rfl, owns_mono ho hg, hb⟩
theorem Filling.start (w : World) (T : TypeId) (cs : Array Value) (n : Nat) (tgt : List Value) (hs : cs.size = n) (hn : n ≤ maxLen) (hl : tgt.length = n) : Filling w (w.alloc (.cells cs T)) T w.heap.size n tgt 0 :=
  ⟨cs.toList, World.ownsRow_lit w cs n (Nat.le_refl _) hn (by omega), by simp, (Below.refl _ _).alloc (Nat.le_refl _) _, Nat.le_refl _, hl⟩
end Go.Proofs.YtklbehapbchnaaaDoor
