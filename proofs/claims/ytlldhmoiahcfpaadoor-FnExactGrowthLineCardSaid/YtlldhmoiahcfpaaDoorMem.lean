/-
  Memory: how slices read, worlds that have grown, regions whose callees make memory.
-/
import Derived.Test.YtlldhmoiahcfpaaDoorBase
import Derived.Deep.QuietTactic
namespace Go.Proofs.YtlldhmoiahcfpaaDoor
open Go.RowKit
set_option linter.unusedVariables false
theorem Below.next {B : Nat} {w W W' : World} (h : Below B w W) (h' : Below W.heap.size W W') (hB : B ≤ W.heap.size) : Below B w W' := h.trans (h'.mono hB)
theorem Below.now {w W W' : World} (h : Below w.heap.size w W) (h' : Below W.heap.size W W') : Below w.heap.size w W' := h.trans (h'.mono h.size)
/-- draws and new blocks -/
structure Ext where
  d : Nat
  h : Array Obj
instance : Inhabited Ext := ⟨⟨0, #[]⟩⟩
/-- w with other draws and with new blocks behind its own -/
def wide (w : World) (x : Ext) : World := { w with drawn := x.d, heap := w.heap ++ x.h }
theorem wide_of_below {w w' : World} (h : Below w.heap.size w w') : ∃ x, w' = wide w x := by
  refine ⟨⟨w'.drawn, w'.heap.extract w.heap.size w'.heap.size⟩, ?_⟩
  obtain ⟨heap, tape, drawn, os, output⟩ := w'
  obtain ⟨h1, h2, h3, h4, h5⟩ := h
  simp only [] at h1 h2 h3 h4 h5
  unfold wide
  simp only [World.mk.injEq, h1, h2, h3, and_true]
  apply Array.ext
  · simp; omega
  · intro i hi hi'
    by_cases hlt : i < w.heap.size
    · have h6 := h5 i hlt
      rw [Array.getElem?_eq_getElem hi, Array.getElem?_eq_getElem hlt] at h6
      rw [Array.getElem_append_left hlt]
      simpa using h6
    · rw [Array.getElem_append_right (by omega)]
      simp only [Array.getElem_extract]
      congr 1
      omega
theorem below_wide (w : World) (x : Ext) : Below w.heap.size w (wide w x) :=
  ⟨rfl, rfl, rfl, by simp [wide], fun k hk => by simp [wide, Array.getElem?_append_left hk]⟩
theorem wide_cell {w : World} {a : Addr} {v : Value} (h : w.cell? a = some v) (x : Ext) : (wide w x).cell? a = some v := by
  rw [(below_wide w x).cell (World.block_lt_of_cell? w a h), h]
/-- the cells behind an address -/
def CellsIn (w : World) (a : Option Addr) (vs : List Value) : Prop :=
  vs = [] ∨ ∃ b off, a = some ⟨b, off, none⟩ ∧ ∀ i (h : i < vs.length), w.cell? ⟨b, off + i, none⟩ = some vs[i]
theorem CellsIn.later {w w' : World} {a : Option Addr} {vs : List Value} (h : CellsIn w a vs) (hb : Below w.heap.size w w') : CellsIn w' a vs := by
  rcases h with h | ⟨b, off, ha, hc⟩
  · exact .inl h
  · refine .inr ⟨b, off, ha, fun i hi => ?_⟩
    rw [hb.cell (World.block_lt_of_cell? w _ (hc i hi)), hc i hi]
/-- a slice of integers -/
def IntsIn (w : World) (a : Option Addr) (l : List Int) : Prop := CellsIn w a (l.map (Value.int .i64))
theorem IntsIn.later {w w' : World} {a : Option Addr} {l : List Int} (h : IntsIn w a l) (hb : Below w.heap.size w w') : IntsIn w' a l := CellsIn.later h hb
theorem IntsIn.at {w : World} {a : Option Addr} {l : List Int} (h : IntsIn w a l) {i : Nat} (hi : i < l.length) :
    ∃ b off, a = some ⟨b, off, none⟩ ∧ ∀ j, j < l.length → w.cell? ⟨b, off + j, none⟩ = some (.int .i64 (l.getD j 0)) := by
  rcases h with h | ⟨b, off, ha, hc⟩
  · simp at h; simp [h] at hi
  · refine ⟨b, off, ha, fun j hj => ?_⟩
    have := hc j (by simpa using hj)
    simpa [List.getD_eq_getElem?_getD, hj] using this
theorem wide_next {w : World} {x : Ext} {w2 : World} (h : Below (wide w x).heap.size (wide w x) w2) : ∃ y, w2 = wide w y := by
  have hb := below_wide w x
  exact wide_of_below (hb.trans (h.mono hb.size))
/-- a region that draws its order, whose operations read and whose callees make memory of their own: one walk, in the order of the text -/
theorem region_wide {P : Program} {id : Nat} {Q : Exit → Act → World → Prop} {a : Act} {w : World} {l : List Oper} (hm : P.follows .mixedOrders = true) (hB : Region.lexB .any l.toArray = true)
    (h : wpQuiet P l.toArray (fun w' => ∃ x, w' = wide w x) (fun a' => ∀ w', (∃ x, w' = wide w x) → Q .normal a' w') l a) : (Code.region id l.toArray true).wp P Q a w :=
  wp_region_quiet (C := fun w' => ∃ x, w' = wide w x) hm hB ⟨⟨w.drawn + 1, #[]⟩, by simp [wide]⟩ (by simpa using h)
/-- a box that was laid, in every later world -/
theorem box_later {w w1 : World} {vs : Array Value} {T : TypeId} (hb : Below (w.alloc (.cells vs T)).heap.size (w.alloc (.cells vs T)) w1) {i : Nat} {v : Value} (h : vs[i]? = some v) :
    ∀ W, Below w1.heap.size w1 W → W.cell? ⟨w.heap.size, i, none⟩ = some v := fun W hW => by
  have hs := hb.size
  have h1 : w.heap.size < (w.alloc (.cells vs T)).heap.size := by simp
  rw [hW.cell (by show w.heap.size < _; omega), hb.cell h1, World.cell?_alloc_new, h]
theorem IntsIn.all_later {w : World} {a : Option Addr} {l : List Int} (h : IntsIn w a l) : ∀ W, Below w.heap.size w W → IntsIn W a l := fun _ hW => h.later hW
end Go.Proofs.YtlldhmoiahcfpaaDoor
