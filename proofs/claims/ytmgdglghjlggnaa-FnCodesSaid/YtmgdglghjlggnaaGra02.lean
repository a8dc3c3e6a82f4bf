/-
  Append of several elements, or of none.
-/
import Derived.Test.YtmgdglghjlggnaaGra01
import Derived.Deep.QuietTactic
import Derived.Deep.OwnRows
import Derived.Deep.AppendLies
import Derived.Maps.AppendAt
import Derived.Laws.OwnMore
namespace Go.Proofs.Ytmgdglghjlggnaa
open Go.RowKit
set_option linter.unusedVariables false
theorem Below.next {B : Nat} {w W W' : World} (h : Below B w W) (h' : Below W.heap.size W W') (hB : B ≤ W.heap.size) : Below B w W' := h.trans (h'.mono hB)
theorem Below.now {w W W' : World} (h : Below w.heap.size w W) (h' : Below W.heap.size W W') : Below w.heap.size w W' := h.trans (h'.mono h.size)
/-- draws and new blocks -/
structure Ext where
  d : Nat
  h : Array Obj
instance : Inhabited Ext := ⟨⟨0, #[]⟩⟩
/-- w with other draws and with new blocks behind its own -/
def wide (w : World) (x : Ext) : World := { w with drawn := x.d, heap := w.heap ++ x.h }
/-- the cells behind an address -/
def CellsIn (w : World) (a : Option Addr) (vs : List Value) : Prop :=
  vs = [] ∨ ∃ b off, a = some ⟨b, off, none⟩ ∧ ∀ i (h : i < vs.length), w.cell? ⟨b, off + i, none⟩ = some vs[i]
theorem CellsIn.later {w w' : World} {a : Option Addr} {vs : List Value} (h : CellsIn w a vs) (hb : Below w.heap.size w w') : CellsIn w' a vs := by
  rcases h with h | ⟨b, off, ha, hc⟩
  · exact .inl h
  · refine .inr ⟨b, off, ha, fun i hi => ?_⟩
    rw [hb.cell (World.block_lt_of_cell? w _ (hc i hi)), hc i hi]
/-- a slice of integers -/
def IntsIn (w : World) (a : Option Addr) (l : List Int) : Prop := CellsIn w a (l.map (Value.int .i64))
theorem IntsIn.later {w w' : World} {a : Option Addr} {l : List Int} (h : IntsIn w a l) (hb : Below w.heap.size w w') : IntsIn w' a l := CellsIn.later h hb
theorem IntsIn.at {w : World} {a : Option Addr} {l : List Int} (h : IntsIn w a l) {i : Nat} (hi : i < l.length) :
    ∃ b off, a = some ⟨b, off, none⟩ ∧ ∀ j, j < l.length → w.cell? ⟨b, off + j, none⟩ = some (.int .i64 (l.getD j 0)) := by
  rcases h with h | ⟨b, off, ha, hc⟩
  · simp at h; simp [h] at hi
  · refine ⟨b, off, ha, fun j hj => ?_⟩
    have := hc j (by simpa using hj)
    simpa [List.getD_eq_getElem?_getD, hj] using this
end Go.Proofs.Ytmgdglghjlggnaa
namespace Go.Proofs.Ytmgdglghjlggnaa
open Go.RowKit
set_option linter.unusedVariables false
/-- what a call hands back that makes a slice: n elements, the cells xs, in memory of its own -/
def RetSl (T : TypeId) (size : Nat) (n : Nat) (xs : List Value) (w : World) (e : Ending) (w' : World) : Prop :=
  ∃ a cap, e = .returned (.slice a n cap) ∧ w'.ownsRow w.heap.size T size (.slice a n cap) n xs ∧ Below w.heap.size w w'
theorem owns_cells {w : World} {base : Nat} {T : TypeId} {size : Nat} {a : Option Addr} {n m cap : Nat} {xs : List Value} (h : w.ownsRow base T size (.slice a m cap) n xs) : CellsIn w a xs := by
  rcases h.2 with ⟨hv, h0⟩ | ⟨g, cap', cur, hv, hb, hg, hn, hc, hs, ht⟩
  · left
    have := h.1
    rw [h0] at this
    simpa using this
  · right
    simp only [Value.slice.injEq] at hv
    refine ⟨g, 0, hv.1, fun i hi => ?_⟩
    have := cell_of_row w g i cur T (0, 0) hg
    rw [Nat.zero_add, this]
    have h2 : xs[i]? = some xs[i] := List.getElem?_eq_getElem hi
    rw [← h2, ← ht, List.getElem?_take]
    have h1 := h.1
    rw [if_pos (by omega)]
    simp
theorem owns_later {w w' : World} {base : Nat} {T : TypeId} {size : Nat} {v : Value} {n : Nat} {xs : List Value} (h : w.ownsRow base T size v n xs) (hb : Below w.heap.size w w') : w'.ownsRow base T size v n xs :=
  h.kept (row := none) ⟨hb.os, hb.tape, hb.output, hb.size, fun k hk _ => hb.block k hk⟩ (by cases h : v.ownBlock <;> simp)
theorem owns_mono {w : World} {base base' : Nat} {T : TypeId} {size : Nat} {v : Value} {n : Nat} {xs : List Value} (h : w.ownsRow base T size v n xs) (hb : base' ≤ base) : w.ownsRow base' T size v n xs := by
  refine ⟨h.1, ?_⟩
  rcases h.2 with h' | ⟨g, cap', cur, hv, hb', r⟩
  · exact .inl h'
  · exact .inr ⟨g, cap', cur, hv, by omega, r⟩
theorem fill_step {xs tgt : List Value} {j : Nat} (hl : xs.length = tgt.length) (h : xs.take j = tgt.take j) (hj : j < tgt.length) : (xs.set j tgt[j]).take (j + 1) = tgt.take (j + 1) := by
  rw [List.take_succ_eq_append_getElem (by simpa using by omega), List.take_succ_eq_append_getElem hj, List.take_set_of_le (Nat.le_refl _), h]
  simp
theorem fill_done {xs tgt : List Value} {j : Nat} (hl : xs.length = tgt.length) (h : xs.take j = tgt.take j) (hj : ¬ j < tgt.length) : xs = tgt := by
  rwa [List.take_of_length_le (by omega), List.take_of_length_le (by omega)] at h
/-- a row that is being filled -/
def Filling (w wr : World) (T : TypeId) (g n : Nat) (tgt : List Value) (j : Nat) : Prop :=
  ∃ xs, wr.ownsRow g T 1 (.slice (some ⟨g, 0, none⟩) n n) n xs ∧ xs.take j = tgt.take j ∧ Below w.heap.size w wr ∧ w.heap.size ≤ g ∧ tgt.length = n
theorem Filling.cell {w wr : World} {T : TypeId} {g n : Nat} {tgt : List Value} {j : Nat} (h : Filling w wr T g n tgt j) (hj : j < n) : ∃ v, wr.cell? ⟨g, j, none⟩ = some v := by
  obtain ⟨xs, ho, ht, hb, hg, hl⟩ := h
  have := ho.cellAt j (by omega)
  have h1 := ho.1
  exact ⟨xs[j]'(by omega), by rw [this, List.getElem?_eq_getElem]⟩
theorem Filling.frozen {w wr : World} {T : TypeId} {g n : Nat} {tgt : List Value} {j : Nat} (h : Filling w wr T g n tgt j) (i : Nat) : wr.frozen? ⟨g, i, none⟩ = false := by
  obtain ⟨xs, ho, ht, hb, hg, hl⟩ := h
  exact ho.frozenAt i
theorem Filling.store {w wr : World} {T : TypeId} {g n : Nat} {tgt : List Value} {j : Nat} (h : Filling w wr T g n tgt j) (hj : j < n) {u : Value} (hu : tgt[j]? = some u) : Filling w (wr.setCell ⟨g, j, none⟩ u) T g n tgt (j + 1) := by
  obtain ⟨xs, ho, ht, hb, hg, hl⟩ := h
  have h1 := ho.1
  have hu' : tgt[j]'(by omega) = u := by rw [List.getElem?_eq_getElem (by omega)] at hu; simpa using hu
  refine ⟨xs.set j u, (ho.stored j u).1, ?_, hb.setCell hg u, hg, hl⟩
  rw [← hu']
  exact fill_step (by omega) ht (by omega)
theorem Filling.done {w wr : World} {T : TypeId} {g n : Nat} {tgt : List Value} {j : Nat} (h : Filling w wr T g n tgt j) (hj : ¬ j < n) : RetSl T 1 n tgt w (.returned (.slice (some ⟨g, 0, none⟩) n n)) wr := by
  obtain ⟨xs, ho, ht, hb, hg, hl⟩ := h
  have h1 := ho.1
  have : xs = tgt := fill_done (by omega) ht (by omega)
  subst this
  exact ⟨_, _, rfl, owns_mono ho hg, hb⟩
theorem Filling.start (w : World) (T : TypeId) (cs : Array Value) (n : Nat) (tgt : List Value) (hs : cs.size = n) (hn : n ≤ maxLen) (hl : tgt.length = n) : Filling w (w.alloc (.cells cs T)) T w.heap.size n tgt 0 :=
  ⟨cs.toList, World.ownsRow_lit w cs n (Nat.le_refl _) hn (by omega), by simp, (Below.refl _ _).alloc (Nat.le_refl _) _, Nat.le_refl _, hl⟩
theorem Try.infoInt : (Try.prog.info? 3).map (fun i => (i.zero, i.size, i.bytes)) = some (some (.int .i64 0), 1, 8) := by kernel_rfl
end Go.Proofs.Ytmgdglghjlggnaa
namespace Go.Proofs.Ytmgdglghjlggnaa
open Go.RowKit
set_option linter.unusedVariables false
/-- a slice of n elements (size cells each) that is being built since w -/
def Bld (T : TypeId) (size : Nat) (w wr : World) (v : Value) (n : Nat) (xs : List Value) : Prop := wr.ownsRow w.heap.size T size v n xs ∧ Below w.heap.size w wr
/-- the slice that a variable holds, whatever it is made of -/
theorem owns_form {w : World} {base : Nat} {T : TypeId} {size : Nat} {v : Value} {n : Nat} {xs : List Value} (h : w.ownsRow base T size v n xs) : ∃ a cap, v = .slice a n cap := by
  rcases h.2 with ⟨hv, h0⟩ | ⟨g, cap, cur, hv, _⟩
  · exact ⟨none, 0, by rw [hv, h0]⟩
  · exact ⟨_, _, hv⟩
theorem owns_block {w : World} {base : Nat} {T : TypeId} {size : Nat} {v : Value} {n : Nat} {xs : List Value} (h : w.ownsRow base T size v n xs) : ∀ k, v.ownBlock = some k → base ≤ k := fun k hk => (h.lt k hk).1
theorem Bld.ret {T : TypeId} {size : Nat} {w wr : World} {v : Value} {n : Nat} {xs : List Value} (h : Bld T size w wr v n xs) : RetSl T size n xs w (.returned v) wr := by
  obtain ⟨a, cap, rfl⟩ := owns_form h.1
  exact ⟨a, cap, rfl, h.1, h.2⟩
theorem Bld.later {T : TypeId} {size : Nat} {w wr wr' : World} {v : Value} {n : Nat} {xs : List Value} (h : Bld T size w wr v n xs) (hb : Below wr.heap.size wr wr') : Bld T size w wr' v n xs := ⟨owns_later h.1 hb, Below.now h.2 hb⟩
theorem Bld.empty (T : TypeId) (size : Nat) (w : World) : Bld T size w (w.alloc (.cells #[] T)) (.slice (some ⟨w.heap.size, 0, none⟩) 0 0) 0 [] :=
  ⟨World.ownsRow_made w #[] 0 (Nat.le_refl _) (by unfold maxLen; omega) (by simp), (Below.refl _ _).alloc (Nat.le_refl _) _⟩
theorem Bld.nil (T : TypeId) (size : Nat) {w wr : World} (h : Below w.heap.size w wr) : Bld T size w wr (.slice none 0 0) 0 [] := ⟨World.ownsRow_nil _ _ _ _, h⟩
theorem Bld.since {T : TypeId} {size : Nat} {w w0 wr : World} {v : Value} {n : Nat} {xs : List Value} (h : Bld T size w wr v n xs) (hb : Below w0.heap.size w0 w) : Bld T size w0 wr v n xs :=
  ⟨owns_mono h.1 hb.size, hb.trans (h.2.mono hb.size)⟩
section
variable {P : Program}
theorem wpList_app1 {ops : Array Oper} {rest : List Oper} {o : Oper} {a : Act} {Q : Exit → Act → World → Prop} {T tsl : TypeId} {z : Value} {size bytes : Nat} (hg : o.guard = none) (s x : Operand)
    (ho : o.op = .call { callee := .builtin .append, args := #[s, x], argTypes := #[tsl, tsl] }) (ht : P.underlying tsl = some (.slice T)) (hinfo : (P.info? T).map (fun i => (i.zero, i.size, i.bytes)) = some (some z, size, bytes))
    (hzs : z.cells.size = size) (hpos : 0 < size) {w wr : World} {v : Value} {n : Nat} {xs news : List Value} (hs : a.eval s = v) (hb : Bld T size w wr v n xs) (hx : a.eval x = .slice (some ⟨wr.heap.size, 0, none⟩) 1 1)
    (hn : news.length = size) (h1 : ∀ u ∈ news, u.oneCell' = true) (h63 : n + 1 ≤ maxLen) (hbytes : (n + 1) * bytes ≤ 140737488355328)
    (hK : ∀ v' w', Bld T size w w' v' (n + 1) (xs ++ news) → wpList P ops Q rest (a.put o.dst v') w') : wpList P ops Q (o :: rest) a (wr.alloc (.cells news.toArray T)) := by
  obtain ⟨i0, hi, hz0, hz1, hz2⟩ := info_parts hinfo
  refine wpList_append_own _ hg s x tsl ho w.heap.size T i0 z size bytes ht hi hz0 hz1 hz2 hzs hpos v n xs hs (hb.1.alloc _) ⟨wr.heap.size, 0, none⟩ 1 1 news hx (by omega) ?_ h1 h63 hbytes ?_ ?_
  · intro j u hu
    have hadd : (⟨wr.heap.size, 0, none⟩ : Addr).add j = ⟨wr.heap.size, j, none⟩ := by unfold Addr.add; split <;> simp_all
    rw [hadd, World.cell?_alloc_new]
    simpa using hu
  · have := hb.2.size
    simp; omega
  · intro v' w' hown hgr _
    refine hK v' w' ⟨hown, ?_⟩
    have h2 : Below w.heap.size w (wr.alloc (.cells news.toArray T)) := hb.2.alloc hb.2.size _
    exact h2.grown hgr h2.size (owns_block hb.1)
end
end Go.Proofs.Ytmgdglghjlggnaa
namespace Go.Proofs.Ytmgdglghjlggnaa
open Go.RowKit
set_option linter.unusedVariables false
/-- a row of n elements of k cells that is being filled; c cells are done -/
def FillK (w wr : World) (T : TypeId) (k g n : Nat) (tgt : List Value) (c : Nat) : Prop :=
  ∃ xs, wr.ownsRow g T k (.slice (some ⟨g, 0, none⟩) n n) n xs ∧ xs.take c = tgt.take c ∧ Below w.heap.size w wr ∧ w.heap.size ≤ g ∧ tgt.length = n * k
theorem FillK.start (w : World) (T : TypeId) (cs : Array Value) (k n : Nat) (tgt : List Value) (hs : cs.size = n * k) (hn : n ≤ maxLen) (hl : tgt.length = n * k) : FillK w (w.alloc (.cells cs T)) T k w.heap.size n tgt 0 :=
  ⟨cs.toList, World.ownsRow_lit w cs n (Nat.le_refl _) hn hs, by simp, (Below.refl _ _).alloc (Nat.le_refl _) _, Nat.le_refl _, hl⟩
theorem FillK.cell {w wr : World} {T : TypeId} {k g n : Nat} {tgt : List Value} {c : Nat} (h : FillK w wr T k g n tgt c) {i : Nat} (hi : i < n * k) : ∃ v, wr.cell? ⟨g, i, none⟩ = some v := by
  obtain ⟨xs, ho, ht, hb, hg, hl⟩ := h
  have := ho.cellAt i hi
  have h1 := ho.1
  exact ⟨xs[i]'(by omega), by rw [this, List.getElem?_eq_getElem]⟩
theorem FillK.frozen {w wr : World} {T : TypeId} {k g n : Nat} {tgt : List Value} {c : Nat} (h : FillK w wr T k g n tgt c) (i : Nat) : wr.frozen? ⟨g, i, none⟩ = false := by
  obtain ⟨xs, ho, ht, hb, hg, hl⟩ := h
  exact ho.frozenAt i
theorem FillK.below {w wr : World} {T : TypeId} {k g n : Nat} {tgt : List Value} {c : Nat} (h : FillK w wr T k g n tgt c) : Below w.heap.size w wr := by
  obtain ⟨xs, ho, ht, hb, hg, hl⟩ := h
  exact hb
theorem FillK.later {w wr wr' : World} {T : TypeId} {k g n : Nat} {tgt : List Value} {c : Nat} (h : FillK w wr T k g n tgt c) (hb' : Below wr.heap.size wr wr') : FillK w wr' T k g n tgt c := by
  obtain ⟨xs, ho, ht, hb, hg, hl⟩ := h
  exact ⟨xs, owns_later ho hb', ht, Below.now hb hb', hg, hl⟩
theorem FillK.lt {w wr : World} {T : TypeId} {k g n : Nat} {tgt : List Value} {c : Nat} (h : FillK w wr T k g n tgt c) : g < wr.heap.size := by
  obtain ⟨xs, ho, ht, hb, hg, hl⟩ := h
  exact (ho.lt g rfl).2
theorem FillK.store {w wr : World} {T : TypeId} {k g n : Nat} {tgt : List Value} {c : Nat} (h : FillK w wr T k g n tgt c) (hc : c < n * k) {u : Value} (hu : tgt[c]? = some u) : FillK w (wr.setCell ⟨g, c, none⟩ u) T k g n tgt (c + 1) := by
  obtain ⟨xs, ho, ht, hb, hg, hl⟩ := h
  have h1 := ho.1
  have hu' : tgt[c]'(by omega) = u := by rw [List.getElem?_eq_getElem (by omega)] at hu; simpa using hu
  refine ⟨xs.set c u, (ho.stored c u).1, ?_, hb.setCell hg u, hg, hl⟩
  rw [← hu']
  exact fill_step (by omega) ht (by omega)
theorem FillK.done {w wr : World} {T : TypeId} {k g n : Nat} {tgt : List Value} {c : Nat} (h : FillK w wr T k g n tgt c) (hc : ¬ c < n * k) : RetSl T k n tgt w (.returned (.slice (some ⟨g, 0, none⟩) n n)) wr := by
  obtain ⟨xs, ho, ht, hb, hg, hl⟩ := h
  have h1 := ho.1
  have : xs = tgt := fill_done (by omega) ht (by omega)
  subst this
  exact ⟨_, _, rfl, owns_mono ho hg, hb⟩
section
variable {P : Program}
end
end Go.Proofs.Ytmgdglghjlggnaa
namespace Go.Proofs.Ytmgdglghjlggnaa
open Go.RowKit
set_option linter.unusedVariables false
/-- a slice from which elements are taken -/
def Src (w : World) (x : Value) (m : Nat) (news : List Value) : Prop :=
  (x = .slice none 0 0 ∧ m = 0 ∧ news = []) ∨ ∃ ad c, x = .slice (some ad) m c ∧ ∀ j u, news[j]? = some u → w.cell? (ad.add j) = some u
theorem add_off (b o j : Nat) : (⟨b, o, none⟩ : Addr).add j = ⟨b, o + j, none⟩ := by unfold Addr.add; split <;> simp_all
theorem Src.lit {w : World} {T : TypeId} {c m : Nat} (news : List Value) : Src (w.alloc (.cells news.toArray T)) (.slice (some ⟨w.heap.size, 0, none⟩) m c) m news := by
  refine .inr ⟨_, _, rfl, fun j u hu => ?_⟩
  rw [add_off, Nat.zero_add, World.cell?_alloc_new]
  simpa using hu
theorem Src.later {w w' : World} {x : Value} {m : Nat} {news : List Value} (h : Src w x m news) (hb : Below w.heap.size w w') : Src w' x m news := by
  rcases h with h | ⟨ad, c, hx, hc⟩
  · exact .inl h
  · refine .inr ⟨ad, c, hx, fun j u hu => ?_⟩
    have h1 := hc j u hu
    rw [hb.cell (World.block_lt_of_cell? w _ h1)]
    exact h1
section
variable {P : Program}
theorem run_appM {tsl ty T : TypeId} {z : Value} {size bytes : Nat} (ht : P.underlying tsl = some (.slice T)) (hinfo : (P.info? T).map (fun i => (i.zero, i.size, i.bytes)) = some (some z, size, bytes))
    (hzs : z.cells.size = size) (hpos : 0 < size) {w wr : World} {v x : Value} {n m : Nat} {xs news : List Value} (hb : Bld T size w wr v n xs) (hx : Src wr x m news)
    (hn : news.length = m * size) (h1 : ∀ u ∈ news, u.oneCell' = true) (h63 : n + m ≤ maxLen) (hbytes : (n + m) * bytes ≤ 140737488355328) :
    ∃ v' w', (Builtin.append_ #[tsl, tsl] ty #[v, x]).run P wr = .ok v' w' ∧ Bld T size w w' v' (n + m) (xs ++ news) ∧ wr.grownBy w' v.ownBlock ∧ (v'.ownBlock = v.ownBlock ∨ v'.ownBlock = some wr.heap.size) := by
  obtain ⟨i0, hi, hz0, hz1, hz2⟩ := info_parts hinfo
  rcases hx with ⟨rfl, rfl, rfl⟩ | ⟨ad, c, rfl, hc⟩
  · refine ⟨v, wr, run_append_owned_none wr w.heap.size tsl ty T i0 size ht hi v n xs hb.1, by simpa using hb, ⟨rfl, rfl, rfl, Nat.le_refl _, fun _ _ _ => rfl⟩, .inl rfl⟩
  · obtain ⟨v', w', hr, h2, h3, h4, h5⟩ := run_append_own_at (P := P) wr w.heap.size tsl ty T i0 z size bytes ht hi hz0 hz1 hz2 hzs hpos v n xs hb.1 ad m c news hn hc h1 h63 hbytes hb.2.size
    exact ⟨v', w', hr, ⟨h2, hb.2.grown h3 hb.2.size (owns_block hb.1)⟩, h3, h5⟩
/-- the same at a plain region's list -/
theorem wpList_appM {ops : Array Oper} {rest : List Oper} {o : Oper} {a : Act} {Q : Exit → Act → World → Prop} {T tsl : TypeId} {z : Value} {size bytes : Nat} (hg : o.guard = none) (s x : Operand)
    (ho : o.op = .call { callee := .builtin .append, args := #[s, x], argTypes := #[tsl, tsl] }) (ht : P.underlying tsl = some (.slice T)) (hinfo : (P.info? T).map (fun i => (i.zero, i.size, i.bytes)) = some (some z, size, bytes))
    (hzs : z.cells.size = size) (hpos : 0 < size) {w wr : World} {v u : Value} {n m : Nat} {xs news : List Value} (hs : a.eval s = v) (hb : Bld T size w wr v n xs) (hx : a.eval x = u) (hsrc : Src wr u m news)
    (hn : news.length = m * size) (h1 : ∀ u ∈ news, u.oneCell' = true) (h63 : n + m ≤ maxLen) (hbytes : (n + m) * bytes ≤ 140737488355328)
    (hK : ∀ v' w', Bld T size w w' v' (n + m) (xs ++ news) → wr.grownBy w' v.ownBlock → (v'.ownBlock = v.ownBlock ∨ v'.ownBlock = some wr.heap.size) → wpList P ops Q rest (a.put o.dst v') w') : wpList P ops Q (o :: rest) a wr := by
  refine wpList_plain hg fun K hK' => ?_
  obtain ⟨v', w', hr, h2, h3, h4⟩ := run_appM (ty := o.type) ht hinfo hzs hpos hb hsrc hn h1 h63 hbytes
  unfold Oper.wp execOp
  simp only [ho, resolve, invoke, builtin, Sem.run_bind, Sem.run_pure, Result.andThen_ok, List.map_toArray, List.map_cons, List.map_nil, hs, hx, hr]
  exact hK' _ _ (hK _ _ h2 h3 h4)
end
end Go.Proofs.Ytmgdglghjlggnaa
