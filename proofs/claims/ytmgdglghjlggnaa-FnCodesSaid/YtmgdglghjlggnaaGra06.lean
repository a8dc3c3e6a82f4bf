/-
  ListOk of the program.
-/
import Derived.Test.YtmgdglghjlggnaaGra02
import Derived.Deep.AppendSrc
import Derived.Test.YtmgdglghjlggnaaGra01
import Derived.Laws.OwnMore
import Derived.Test.YtmgdglghjlggnaaGra05
import Derived.Test.YtmgdglghjlggnaaGra04
import Derived.Test.YtmgdglghjlggnaaGra03
namespace Go.Proofs.Ytmgdglghjlggnaa
open Go.RowKit
set_option linter.unusedVariables false
/-- a slice of n elements somewhere in a block from base on -/
def ownsOff (w : World) (base : Nat) (T : TypeId) (size : Nat) (v : Value) (n : Nat) (xs : List Value) : Prop :=
  xs.length = n * size ∧ ((v = .slice none 0 0 ∧ n = 0) ∨ ∃ g o cap cur, v = .slice (some ⟨g, o, none⟩) n cap ∧ base ≤ g ∧ w.heap[g]? = some (.cells cur T (0, 0)) ∧ n ≤ cap ∧ cap ≤ maxLen ∧ o + cap * size ≤ cur.size ∧ (cur.toList.drop o).take (n * size) = xs)
section
variable {w : World} {base : Nat} {T : TypeId} {size : Nat} {v : Value} {n : Nat} {xs : List Value}
theorem ownsOff.of_row (h : w.ownsRow base T size v n xs) : ownsOff w base T size v n xs := by
  refine ⟨h.1, ?_⟩
  rcases h.2 with h' | ⟨g, cap, cur, hv, hb, hg, hn, hc, hs, ht⟩
  · exact .inl h'
  · exact .inr ⟨g, 0, cap, cur, hv, hb, hg, hn, hc, by omega, by rw [List.drop_zero]; exact ht⟩
theorem ownsOff.form (h : ownsOff w base T size v n xs) : ∃ a cap, v = .slice a n cap := by
  rcases h.2 with ⟨hv, h0⟩ | ⟨g, o, cap, cur, hv, _⟩
  · exact ⟨none, 0, by rw [hv, h0]⟩
  · exact ⟨_, _, hv⟩
theorem ownsOff.lt (h : ownsOff w base T size v n xs) : ∀ k, v.ownBlock = some k → base ≤ k ∧ k < w.heap.size := by
  intro k hk
  rcases h.2 with ⟨rfl, _⟩ | ⟨g, o, cap, cur, rfl, hb, hg, _⟩
  · simp [Value.ownBlock] at hk
  · simp [Value.ownBlock] at hk
    subst hk
    exact ⟨hb, (Array.getElem?_eq_some_iff.1 hg).1⟩
theorem ownsOff.kept {w' : World} {row : Option Nat} (h : ownsOff w base T size v n xs) (hg : w.grownBy w' row) (hne : v.ownBlock = none ∨ v.ownBlock ≠ row) : ownsOff w' base T size v n xs := by
  refine ⟨h.1, ?_⟩
  rcases h.2 with hn | ⟨g, o, cap, cur, rfl, hb, hgg, rest⟩
  · exact .inl hn
  · refine .inr ⟨g, o, cap, cur, rfl, hb, ?_, rest⟩
    rw [hg.block g (Array.getElem?_eq_some_iff.1 hgg).1 (by simpa [Value.ownBlock] using hne)]
    exact hgg
theorem ownsOff.later {w' : World} (h : ownsOff w base T size v n xs) (hb : Below w.heap.size w w') : ownsOff w' base T size v n xs :=
  h.kept (row := none) ⟨hb.os, hb.tape, hb.output, hb.size, fun k hk _ => hb.block k hk⟩ (by cases h : v.ownBlock <;> simp)
theorem ownsOff.cellAt {g o cap : Nat} (h : ownsOff w base T size (.slice (some ⟨g, o, none⟩) n cap) n xs) : ∀ j u, xs[j]? = some u → w.cell? ⟨g, o + j, none⟩ = some u := by
  intro j u hu
  rcases h.2 with ⟨hv, _⟩ | ⟨g', o', cap', cur, hv, _, hgg, _, _, _, ht⟩
  · simp at hv
  · simp only [Value.slice.injEq, Option.some.injEq, Addr.mk.injEq] at hv
    obtain ⟨⟨rfl, rfl, _⟩, _, rfl⟩ := hv
    rw [cell_of_row w g _ cur T (0, 0) hgg]
    rw [← ht, List.getElem?_take] at hu
    split at hu
    · rw [List.getElem?_drop] at hu
      simpa using hu
    · cases hu
theorem ownsOff.cells {a : Option Addr} {cap : Nat} (h : ownsOff w base T size (.slice a n cap) n xs) : CellsIn w a xs := by
  rcases h.2 with ⟨hv, h0⟩ | ⟨g, o, cap', cur, hv, _⟩
  · exact .inl (List.eq_nil_of_length_eq_zero (by rw [h.1, h0, Nat.zero_mul]))
  · simp only [Value.slice.injEq] at hv
    obtain ⟨rfl, _, rfl⟩ := hv
    refine .inr ⟨g, o, rfl, fun i hi => ?_⟩
    exact h.cellAt i _ (List.getElem?_eq_getElem hi)
/-- all but the first element -/
theorem ownsOff.tail {g o cap : Nat} {x : List Value} (h : ownsOff w base T size (.slice (some ⟨g, o, none⟩) (n + 1) cap) (n + 1) (x ++ xs)) (hx : x.length = size) : ownsOff w base T size (.slice (some ⟨g, o + size, none⟩) n (cap - 1)) n xs := by
  have h1 := h.1
  rw [List.length_append, hx, Nat.succ_mul] at h1
  refine ⟨by omega, ?_⟩
  rcases h.2 with ⟨hv, _⟩ | ⟨g', o', cap', cur, hv, hb, hgg, hn, hc, hs, ht⟩
  · simp at hv
  · simp only [Value.slice.injEq, Option.some.injEq, Addr.mk.injEq] at hv
    obtain ⟨⟨rfl, rfl, _⟩, _, rfl⟩ := hv
    obtain ⟨c, rfl⟩ : ∃ c, cap = c + 1 := ⟨cap - 1, by omega⟩
    rw [Nat.succ_mul] at hs
    refine .inr ⟨g, o + size, c, cur, by rw [Nat.add_sub_cancel], hb, hgg, by omega, by omega, by omega, ?_⟩
    rw [← List.drop_drop]
    have h2 : ((cur.toList.drop o).take ((n + 1) * size)).drop size = xs := by rw [ht, ← hx, List.drop_left]
    rw [List.drop_take] at h2
    rw [← h2]
    congr 1
    rw [Nat.succ_mul]
    omega
end
section
variable {P : Program}
theorem src_of {w : World} {x : Value} {m size : Nat} {news : List Value} {tx e' : TypeId} (hk : P.underlying tx = some (.slice e')) (h : Src w x m news) (hl : news.length = m * size) (h1 : ∀ u ∈ news, u.oneCell' = true) : Go.Src P size tx x m news w := by
  rcases h with ⟨rfl, rfl, rfl⟩ | ⟨ad, c, rfl, hc⟩
  · exact Go.Src.ofNil w hk 0
  · exact Go.Src.ofSlice w hk ad m c news hl hc h1
theorem run_append_off {tsl ty T : TypeId} {z : Value} {size bytes : Nat} (ht : P.underlying tsl = some (.slice T)) (hinfo : (P.info? T).map (fun i => (i.zero, i.size, i.bytes)) = some (some z, size, bytes))
    (hzs : z.cells.size = size) (hpos : 0 < size) {w : World} {base : Nat} {v x : Value} {n m : Nat} {xs news : List Value} (hb : ownsOff w base T size v n xs) (hbase : base ≤ w.heap.size) (hS : Go.Src P size tsl x m news w) (h63 : n + m ≤ maxLen) (hbytes : (n + m) * bytes ≤ 140737488355328) :
    ∃ v' w', (Builtin.append_ #[tsl, tsl] ty #[v, x]).run P w = .ok v' w' ∧ ownsOff w' base T size v' (n + m) (xs ++ news) ∧ w.grownBy w' v.ownBlock := by
  have hn := hS.newsLen
  have h1 := hS.one
  obtain ⟨i, hi, hz, hsize, hby⟩ := info_parts hinfo
  subst hsize
  subst hby
  have hlen : (xs ++ news).length = (n + m) * i.size := by rw [List.length_append, hb.1, hn, Nat.add_mul]
  have h63' : ((n + m : Nat) : Int) ≤ 9223372036854775807 := by simp only [maxLen] at h63; omega
  have grown : ∀ (base0 : Option Addr) (cap : Nat), cap < n + m → (Builtin.firstCells i.size n (.slice base0 n cap)).run P w.drew = .ok xs.toArray w.drew → ∀ row,
      ∃ v' w', (Builtin.append_ #[tsl, tsl] ty #[.slice base0 n cap, x]).run P w = .ok v' w' ∧ ownsOff w' base T i.size v' (n + m) (xs ++ news) ∧ w.grownBy w' row := by
    intro base0 cap hg hold row
    have hr := run_append_grow_src (P := P) w tsl tsl ty T i z ht hi hz base0 n cap xs hold x m news hS hg h63' (growslice_fits hg hbytes)
    have hge := grownCap_ge w (n + m) cap T
    have hcm : grownCap w (n + m) cap T ≤ maxLen := grownCap_le_maxLen w (n + m) cap T h63
    refine ⟨_, _, hr, ownsOff.of_row ⟨hlen, .inr ⟨w.heap.size, _, _, rfl, hbase, heap_alloc_new w.drew _, hge, hcm, ?_, ?_⟩⟩, ⟨rfl, rfl, rfl, by simp, fun k hk _ => heap_alloc_old w.drew _ hk⟩⟩
    · simp only [Array.size_append, List.size_toArray, size_zeroCells, hzs, hlen, ← Nat.add_mul]
      congr 1
      omega
    · simp only [Array.toList_append, List.append_assoc]
      rw [← List.append_assoc, ← hlen]
      exact List.take_left
  rcases hb.2 with ⟨rfl, rfl⟩ | ⟨g, o, cap, cur, rfl, hbg, hg, hnc, hcm, hcs, htake⟩
  · have hxs : xs = [] := List.eq_nil_of_length_eq_zero (by simpa using hb.1)
    subst hxs
    by_cases hm : m = 0
    · subst hm
      have hnn : news = [] := List.eq_nil_of_length_eq_zero (by simpa using hn)
      subst hnn
      refine ⟨.slice none 0 0, w, ?_, hb, ⟨rfl, rfl, rfl, Nat.le_refl _, fun _ _ _ => rfl⟩⟩
      simp [Builtin.append_, run_underlying ht, sizeOf, typeInfo, hi, hS.len, hS.cells]
    · refine grown none 0 (by omega) ?_ _
      simp [Builtin.firstCells]
  · by_cases hroom : n + m ≤ cap
    · have hfit : o + n * i.size + news.length ≤ cur.size := by
        rw [hn, Nat.add_assoc, ← Nat.add_mul]
        exact Nat.le_trans (Nat.add_le_add_left (Nat.mul_le_mul_right _ hroom) _) hcs
      have hst := run_storeCells_at P g (o + n * i.size) T news 0 cur w hg (by simpa using hfit) h1
      simp only [Nat.add_zero] at hst
      have hr : (Builtin.append_ #[tsl, tsl] ty #[.slice (some ⟨g, o, none⟩) n cap, x]).run P w = .ok (.slice (some ⟨g, o, none⟩) (n + m) cap) (w.setRow g (cur.toList.take (o + n * i.size) ++ news ++ cur.toList.drop (o + n * i.size + news.length)).toArray) := by
        simp [Builtin.append_, run_underlying ht, sizeOf, typeInfo, hi, hS.len, hroom, hS.cells, Addr.add_lit, hst]
      refine ⟨_, _, hr, ⟨hlen, .inr ⟨g, o, cap, _, rfl, hbg, setRow_heap w g cur _ T _ hg, hroom, hcm, ?_, ?_⟩⟩, ⟨rfl, rfl, rfl, by simp, fun k _ hk => setRow_other w g k _ (fun e => hk (by simp [Value.ownBlock, e]))⟩⟩
      · simp only [List.size_toArray, List.length_append, List.length_take, List.length_drop, Array.length_toList]
        omega
      · have e1 : (cur.toList.take (o + n * i.size)).drop o = xs := by rw [List.drop_take, Nat.add_sub_cancel_left, htake]
        have e2 : (cur.toList.take (o + n * i.size)).length = o + n * i.size := by rw [List.length_take, Array.length_toList]; omega
        have e3 : ((cur.toList.take (o + n * i.size) ++ news ++ cur.toList.drop (o + n * i.size + news.length)).toArray.toList).drop o = xs ++ news ++ cur.toList.drop (o + n * i.size + news.length) := by
          show (cur.toList.take (o + n * i.size) ++ news ++ cur.toList.drop (o + n * i.size + news.length)).drop o = _
          rw [List.append_assoc, List.drop_append_of_le_length (by omega), e1, List.append_assoc]
        rw [e3, ← hlen]
        exact List.take_left
    · refine grown (some ⟨g, o, none⟩) cap (by omega) ?_ _
      have hc := hb.cellAt
      have := run_firstCells_some (P := P) w.drew i.size n ⟨g, o, none⟩ n cap xs hb.1 (fun j u hu => by rw [add_off]; simpa using hc j u hu)
      exact this
theorem wpList_append_off {ops : Array Oper} {rest : List Oper} {o : Oper} {a : Act} {Q : Exit → Act → World → Prop} {T tsl : TypeId} {z : Value} {size bytes : Nat} (hgd : o.guard = none) (s x : Operand)
    (ho : o.op = .call { callee := .builtin .append, args := #[s, x], argTypes := #[tsl, tsl] }) (ht : P.underlying tsl = some (.slice T)) (hinfo : (P.info? T).map (fun i => (i.zero, i.size, i.bytes)) = some (some z, size, bytes))
    (hzs : z.cells.size = size) (hpos : 0 < size) {w : World} {base : Nat} {v u : Value} {n m : Nat} {xs news : List Value} (hs : a.eval s = v) (hb : ownsOff w base T size v n xs) (hbase : base ≤ w.heap.size) (hx : a.eval x = u) (hsrc : Go.Src P size tsl u m news w) (h63 : n + m ≤ maxLen) (hbytes : (n + m) * bytes ≤ 140737488355328)
    (hK : ∀ v' w', ownsOff w' base T size v' (n + m) (xs ++ news) → w.grownBy w' v.ownBlock → wpList P ops Q rest (a.put o.dst v') w') : wpList P ops Q (o :: rest) a w := by
  refine wpList_plain hgd fun K hK' => ?_
  obtain ⟨v', w', hr, h2, h3⟩ := run_append_off (P := P) (ty := o.type) ht hinfo hzs hpos hb hbase hsrc h63 hbytes
  unfold Oper.wp
  simp [execOp, ho, resolve, invoke, builtin, hs, hx, hr, Result.andThen]
  exact hK' _ _ (hK v' w' h2 h3)
end
end Go.Proofs.Ytmgdglghjlggnaa
namespace Go.Proofs.Ytmgdglghjlggnaa
open Go.RowKit
set_option linter.unusedVariables false
/-- the number at a place of a list -/
def nthZ (l : List Int) (i : Nat) : Int := l.getD i 0
/-- the product of two elements -/
def tm (m : Nat) (ln : List Nat) (i k : Nat) : Nat := ln.getD (i * m + k) 0
/-- a table whose numbers lie in range -/
structure Tb (m : Nat) (ln : List Nat) : Prop where
  lo : 1 ≤ m
  hi : m ≤ 40
  len : ln.length = m * m
  rng : ∀ x ∈ ln, x < m
/-- a valid table -/
structure TabOk (m : Nat) (ln : List Nat) : Prop extends Tb m ln where
  left : ∀ i, i < m → tm m ln 0 i = i
  right : ∀ i, i < m → tm m ln i 0 = i
  assoc : ∀ i j k, i < m → j < m → k < m → tm m ln (tm m ln i j) k = tm m ln i (tm m ln j k)
theorem ix_lt {m i k : Nat} (hi : i < m) (hk : k < m) : i * m + k < m * m := by
  have := Nat.mul_le_mul_right m (show i + 1 ≤ m from hi)
  rw [Nat.add_mul] at this
  omega
/-- a slice of natural numbers -/
def NatsIn (w : World) (a : Option Addr) (ln : List Nat) : Prop := IntsIn w a (ln.map Int.ofNat)
theorem NatsIn.later {w w' : World} {a : Option Addr} {l : List Nat} (h : NatsIn w a l) (hb : Below w.heap.size w w') : NatsIn w' a l := IntsIn.later h hb
/-- the cells of a table's products -/
theorem Tb.cell {m : Nat} {ln : List Nat} (h : Tb m ln) {w : World} {a : Option Addr} (hn : NatsIn w a ln) :
    ∃ b off, a = some ⟨b, off, none⟩ ∧ b < w.heap.size ∧ ∀ i k, i < m → k < m → w.cell? ⟨b, off + (i * m + k), none⟩ = some (.int .i64 (tm m ln i k : Nat)) := by
  have h0 : 0 * m + 0 < m * m := ix_lt h.lo h.lo
  obtain ⟨b, off, ha, hc⟩ := IntsIn.at hn (i := 0) (by simp [h.len]; omega)
  have key : ∀ i k, i < m → k < m → w.cell? ⟨b, off + (i * m + k), none⟩ = some (.int .i64 (tm m ln i k : Nat)) := by
    intro i k hi hk
    have hlt : i * m + k < ln.length := by rw [h.len]; exact ix_lt hi hk
    rw [hc _ (by simpa using hlt)]
    simp [tm, List.getD_eq_getElem?_getD, hlt]
  exact ⟨b, off, ha, World.block_lt_of_cell? w _ (key 0 0 h.lo h.lo), key⟩
theorem IntsIn.cell {w : World} {a : Option Addr} {l : List Int} (h : IntsIn w a l) {i : Nat} (hi : i < l.length) :
    ∃ b off, a = some ⟨b, off, none⟩ ∧ b < w.heap.size ∧ ∀ j, j < l.length → w.cell? ⟨b, off + j, none⟩ = some (.int .i64 (nthZ l j)) := by
  obtain ⟨b, off, ha, hc⟩ := h.at hi
  exact ⟨b, off, ha, World.block_lt_of_cell? w _ (hc i hi), hc⟩
end Go.Proofs.Ytmgdglghjlggnaa
namespace Go.Proofs.Ytmgdglghjlggnaa
open Go.RowKit
set_option linter.unusedVariables false
end Go.Proofs.Ytmgdglghjlggnaa
namespace Go.Proofs.Ytmgdglghjlggnaa
open Go.RowKit
set_option linter.unusedVariables false
def intVals (l : List Int) : List Value := l.map (Value.int .i64)
end Go.Proofs.Ytmgdglghjlggnaa
namespace Go.Proofs.Ytmgdglghjlggnaa
open Go.RowKit
set_option linter.unusedVariables false
theorem alloc_belowC (w : World) (o : Obj) : Below w.heap.size w (w.alloc o) := (Below.refl _ _).alloc (Nat.le_refl _) _
/-- counts as cells -/
def ctV (l : List Nat) : List Value := l.map fun n => Value.int .i64 (n : Nat)
theorem ctV_at {l : List Nat} {v : Nat} (h : v < l.length) : (ctV l)[v]? = some (.int .i64 ((l.getD v 0 : Nat) : Int)) := by
  simp [ctV, List.getD_eq_getElem?_getD, h]
theorem ctV_set (l : List Nat) (p x : Nat) : (ctV l).set p (.int .i64 (x : Nat)) = ctV (l.set p x) := by simp [ctV, List.map_set]
theorem ctV_zero (m : Nat) : (madeCells #[Value.int .i64 0] m).toList = ctV (List.replicate m 0) := by
  rw [toList_madeCells_one]; simp [ctV]
theorem ctV_ints (l : List Nat) : ctV l = intVals (l.map Int.ofNat) := by simp [ctV, intVals]
/-- a row of counts in memory -/
def CtRow (wr : World) (B g m : Nat) (l : List Nat) : Prop := l.length = m ∧ B ≤ g ∧ wr.ownsRow B 3 1 (.slice (some ⟨g, 0, none⟩) m m) m (ctV l)
theorem CtRow.start (w : World) {m : Nat} (hm : m ≤ maxLen) : CtRow (w.alloc (.cells (madeCells #[.int .i64 0] m) 3)) w.heap.size w.heap.size m (List.replicate m 0) := by
  refine ⟨by simp, Nat.le_refl _, ?_⟩
  have := World.ownsRow_lit w (madeCells #[.int .i64 0] m) m (e := 3) (size := 1) (Nat.le_refl _) hm (by rw [size_madeCells]; simp)
  rw [ctV_zero] at this
  exact this
theorem CtRow.cell {wr : World} {B g m : Nat} {l : List Nat} (h : CtRow wr B g m l) {v : Nat} (hv : v < m) : wr.cell? ⟨g, v, none⟩ = some (.int .i64 ((l.getD v 0 : Nat) : Int)) := by
  rw [h.2.2.cellAt v (by omega), ctV_at (by rw [h.1]; exact hv)]
theorem CtRow.frozen {wr : World} {B g m : Nat} {l : List Nat} (h : CtRow wr B g m l) (i : Nat) : wr.frozen? ⟨g, i, none⟩ = false := h.2.2.frozenAt i
theorem CtRow.later {wr w2 : World} {B g m : Nat} {l : List Nat} (h : CtRow wr B g m l) (hb : Below wr.heap.size wr w2) : CtRow w2 B g m l := ⟨h.1, h.2.1, owns_later h.2.2 hb⟩
theorem CtRow.store {wr : World} {B g m : Nat} {l : List Nat} (h : CtRow wr B g m l) (p x : Nat) : CtRow (wr.setCell ⟨g, p, none⟩ (.int .i64 (x : Nat))) B g m (l.set p x) := by
  refine ⟨by rw [List.length_set]; exact h.1, h.2.1, ?_⟩
  have := (h.2.2.stored p (.int .i64 (x : Nat))).1
  rw [ctV_set] at this
  exact this
theorem CtRow.mono {wr : World} {B B' g m : Nat} {l : List Nat} (h : CtRow wr B g m l) (hb : B' ≤ B) : CtRow wr B' g m l := ⟨h.1, by have := h.2.1; omega, owns_mono h.2.2 hb⟩
end Go.Proofs.Ytmgdglghjlggnaa
namespace Go.Proofs.Ytmgdglghjlggnaa
open Go.RowKit
set_option linter.unusedVariables false
theorem CurOk.grownL {w w' : World} {B : Nat} {a : Option Addr} {l : List UInt8} {cap : Nat} {own : Option Nat} (h : CurOk w B a l cap) (hg : w.grownBy w' own) (h1 : own ≠ some B) (h2 : l ≠ [] → ∀ x, a = some x → own ≠ some x.block) : CurOk w' B a l cap := by
  refine ⟨?_, ?_, h.ne, h.len⟩
  · obtain ⟨i, hh, hb, hi⟩ := h.at_
    exact ⟨i, hh, (hg.block B h.lt (fun e => h1 e.symm)).trans hb, hi⟩
  · rcases h.bytes with hb | ⟨b, off, ha, hc⟩
    · exact .inl hb
    · refine .inr ⟨b, off, ha, fun i hi => ?_⟩
      rw [World.cell?_of_block (w := w) (hg.block b (World.block_lt_of_cell? w _ (hc i hi)) (fun e => h2 (fun e2 => by subst e2; simp at hi) _ ha e.symm))]
      exact hc i hi
theorem stepL {wA W W' : World} {o p : Option Nat} (h : wA.grownBy W o) (h' : W.grownBy W' p) (hp : ∀ k, p = some k → o = some k ∨ wA.heap.size ≤ k) : wA.grownBy W' o :=
  ⟨h'.os.trans h.os, h'.tape.trans h.tape, h'.output.trans h.output, Nat.le_trans h.size h'.size, fun k hk hne => (h'.block k (Nat.lt_of_lt_of_le hk h.size) (fun e => by
    rcases hp k e.symm with h1 | h1
    · exact hne h1.symm
    · omega)).trans (h.block k hk hne)⟩
theorem strLit_atL (B : Nat) (a : Option Addr) (l : List UInt8) (cap : Nat) (ls : List ByteArray) (arr : Array Value) (n g : Nat) (w : World) (h : CurOk w B a l cap) (hg : w.heap.size = g) (h1 : 1 ≤ n) (h2 : n ≤ 256) (he : (strVals ls).toArray = arr) (hn : ls.length = n) :
    Calls Try.prog 36 #[.pointer (some ⟨B, 0, none⟩), .slice (some ⟨g, 0, none⟩) n n] (w.alloc (.cells arr 9)) fun e w' => ∃ i : Nat, i < n ∧ e = .returned (.string (nthS ls i)) ∧ CurOk w' B a l cap ∧ w.grownBy w' (some B) := by
  subst he hn hg
  exact strLit_any B a l cap ls w h h1 h2
theorem ownsOff.capL {w : World} {base : Nat} {T : TypeId} {size : Nat} {a : Option Addr} {n cap : Nat} {xs : List Value} (h : ownsOff w base T size (.slice a n cap) n xs) : n ≤ cap := by
  rcases h.2 with ⟨hv, h0⟩ | ⟨g, o, c, cur, hv, hb, hg, hc, _⟩
  · simp only [Value.slice.injEq] at hv; omega
  · simp only [Value.slice.injEq] at hv
    obtain ⟨_, _, rfl⟩ := hv
    exact hc
/-- a word of a and b, one to five letters -/
def abW (x : ByteArray) : Prop := allB (letB 2) x = true ∧ 1 ≤ x.size ∧ x.size ≤ 5
/-- words in memory, being made -/
structure LsSt (B : Nat) (a : Option Addr) (l : List UInt8) (cap : Nat) (w wr : World) (v : Value) (E : List ByteArray) : Prop where
  cur : CurOk wr B a l cap
  row : ownsOff wr w.heap.size 9 1 v E.length (strVals E)
  gr : w.grownBy wr (some B)
  nd : E.Nodup
  side : ∀ r ∈ E, abW r
section
variable {B : Nat} {a : Option Addr} {l : List UInt8} {cap : Nat} {w wr : World} {v : Value} {E : List ByteArray}
theorem LsSt.next {w' : World} (hB : B < w.heap.size) (h : LsSt B a l cap w wr v E) (hc : CurOk w' B a l cap) (hg : wr.grownBy w' (some B)) : LsSt B a l cap w w' v E :=
  ⟨hc, h.row.kept hg (by
    cases e : v.ownBlock with
    | none => exact .inl rfl
    | some k =>
      refine .inr (fun e2 => ?_)
      have := (h.row.lt k e).1
      have := Option.some.inj e2
      omega), grown_tr h.gr hg, h.nd, h.side⟩
theorem LsSt.later {w' : World} (h : LsSt B a l cap w wr v E) (hb : Below wr.heap.size wr w') : LsSt B a l cap w w' v E :=
  ⟨h.cur.later hb, h.row.later hb, stepL h.gr (p := none) ⟨hb.os, hb.tape, hb.output, hb.size, fun k hk _ => hb.block k hk⟩ (fun k e => by cases e), h.nd, h.side⟩
theorem LsSt.start (h : CurOk w B a l cap) : LsSt B a l cap w (w.alloc (.cells #[] 9)) (.slice (some ⟨w.heap.size, 0, none⟩) 0 0) [] :=
  ⟨h.alloc _, ownsOff.of_row (Bld.empty 9 1 w).1, grown_alloc ⟨rfl, rfl, rfl, Nat.le_refl _, fun _ _ _ => rfl⟩ _, List.nodup_nil, fun r hr => by cases hr⟩
theorem LsSt.put {w4 : World} {v' : Value} {r : ByteArray} {o : Obj} (hB : B < w.heap.size) (hA : l ≠ [] → ∀ x, a = some x → x.block < w.heap.size) (h : LsSt B a l cap w wr v E) (hr : abW r) (hn : r ∉ E) (ho : ownsOff w4 w.heap.size 9 1 v' (E.length + 1) (strVals E ++ [.string r])) (hg : (wr.alloc o).grownBy w4 v.ownBlock) : LsSt B a l cap w w4 v' (E ++ [r]) := by
  have hown : ∀ k, v.ownBlock = some k → w.heap.size ≤ k := fun k hk => (h.row.lt k hk).1
  refine ⟨(h.cur.alloc o).grownL hg (fun e => ?_) (fun hl x hx e => ?_), ?_, ?_, ?_, fun x hx => ?_⟩
  · have := hown B e; omega
  · have := hown _ e; have := hA hl x hx; omega
  · rw [List.length_append, show strVals (E ++ [r]) = strVals E ++ [.string r] by simp [strVals]]
    exact ho
  · exact stepL (grown_alloc h.gr o) hg (fun k hk => .inr (hown k hk))
  · rw [List.nodup_append]
    exact ⟨h.nd, by simp, fun a ha b hb => by rw [List.mem_singleton.1 hb]; exact fun e => hn (e ▸ ha)⟩
  · rcases List.mem_append.1 hx with h1 | h1
    · exact h.side x h1
    · rw [List.mem_singleton.1 h1]; exact hr
end
theorem ab_list {E : List ByteArray} (h1 : 1 ≤ E.length) (h2 : E.length ≤ 4) (hn : E.Nodup) (h : ∀ r ∈ E, abW r) : listP E := by
  refine ⟨⟨h1, by omega⟩, fun i hi => ?_⟩
  obtain ⟨h3, h4, h5⟩ := h _ (nthS_mem hi)
  refine ⟨?_, ⟨h4, by omega⟩, fun hm => ?_⟩
  · unfold wordOkB
    have h6 : allB (letB 4) (nthS E i) = true := by
      unfold allB at *
      rw [List.all_eq_true] at *
      intro c hc
      have := h3 c hc
      simp only [letB, inB] at this ⊢
      simp at this ⊢
      omega
    rw [h6]
    simp [inB]
    omega
  · obtain ⟨j, hj, e⟩ := List.getElem_of_mem hm
    rw [List.length_take] at hj
    rw [List.getElem_take, nthS_lt hi] at e
    have := (List.getElem_inj hn).1 e
    omega
def RetLs (B : Nat) (a : Option Addr) (l : List UInt8) (cap : Nat) (w : World) (e : Ending) (w' : World) : Prop := ∃ (E : List ByteArray) (aE : Option Addr) (cE : Nat), listP E ∧ (∀ r ∈ E, abW r) ∧ E.Nodup ∧ E.length ≤ cE ∧ e = .returned (.slice aE E.length cE) ∧ StrsIn w' aE E ∧ w.grownBy w' (some B)
set_option maxRecDepth 20000 in
set_option maxHeartbeats 4000000 in
theorem l22Draw_any (B : Nat) (a : Option Addr) (l : List UInt8) (cap : Nat) (w : World) (h : CurOk w B a l cap) :
    Calls Try.prog 16 #[.pointer (some ⟨B, 0, none⟩)] w (RetLs B a l cap w) := by
  have HLT := Lib.hid h.at_.lt
  have HA : Hid (l ≠ [] → ∀ x, a = some x → x.block < w.heap.size) := Lib.hid (fun hl => curNe h.bytes hl)
  have HS0 := Lib.hid (LsSt.start h)
  clear h
  go_enter Try.func16, Try.ntmps16
  go_upto_region 2 with fail
  generalize w.alloc (.cells #[] 9) = w1 at *
  go_wp2_with fail
  refine (l01Below_any B 4 a l cap _ HS0.out.cur (by omega) (by omega)).mono ?_
  rintro e w2 ⟨x, hx, rfl, hc2, hg2⟩
  have HS2 := Lib.hid (HS0.out.next HLT.out hc2 hg2)
  clear hc2 hg2 HS0
  have hx1 : (1 : Int) + (x : Int) = ((1 + x : Nat) : Int) := by omega
  obtain ⟨n0, hn0⟩ : ∃ n0, 1 + x = n0 := ⟨_, rfl⟩
  rw [hn0] at hx1
  have hn2 : n0 ≤ 4 := by omega
  have hn1 : 1 ≤ n0 := by omega
  go_wp2_with fail
  go_loopw [3, 4] (fun v n wr => ∃ (i : Nat) (E : List ByteArray), (i + E.length ≤ 4 ∧ 1 ≤ i + E.length) ∧ n = .int .i64 (i : Nat) ∧ Hid (LsSt B a l cap w wr v E)) (fun _ n _ => (intOf n).toNat)
  case atStart => exact ⟨n0, [], ⟨by simpa using hn2, by simpa using hn1⟩, by first | rw [hx1] | rfl | simp [hx1], HS2⟩
  case round =>
    clear HS2 hx1 hn0 hn2 hn1
    obtain ⟨i, E, hE, rfl, HS⟩ := hrel
    obtain ⟨aE, cE, rfl⟩ := HS.out.row.form
    by_cases hi : 0 < i
    · have hi2 : (0 : Int) < (i : Int) := by omega
      have HD : Hid (∀ W, CurOk W B a l cap → Calls Try.prog 35 #[.pointer (some ⟨B, 0, none⟩), .int .i64 2, .int .i64 4] W fun e w' => ∃ s : ByteArray, (allB (letB 2) s = true ∧ s.size ≤ 4) ∧ e = .returned (.string s) ∧ CurOk w' B a l cap ∧ W.grownBy w' (some B)) := Lib.hid (fun W hW => l02Draw_any B 2 4 a l cap W hW (by omega) (by omega) (by omega))
      go_wp2_with fail
      refine (HD.out _ HS.out.cur).mono ?_
      rintro e w4 ⟨s, ⟨hs1, hs2⟩, rfl, hc4, hg4⟩
      have HS4 := Lib.hid (HS.out.next HLT.out hc4 hg4)
      clear hc4 hg4 HS HD
      go_wp2_with fail
      refine (strLit_atL B a l cap [⟨#[97]⟩, ⟨#[98]⟩] _ 2 _ _ HS4.out.cur rfl (by decide) (by decide) (by kernel_rfl) rfl).mono ?_
      rintro e w5 ⟨t, ht, rfl, hc5, hg5⟩
      have HS5 := Lib.hid (HS4.out.next HLT.out hc5 hg5)
      have hab : allB (letB 2) (nthS [⟨#[97]⟩, ⟨#[98]⟩] t) = true ∧ (nthS [⟨#[97]⟩, ⟨#[98]⟩] t).size = 1 := by
        rcases t with _ | _ | t
        · exact ⟨by decide, rfl⟩
        · exact ⟨by decide, rfl⟩
        · omega
      generalize nthS [⟨#[97]⟩, ⟨#[98]⟩] t = u at *
      have HAB : Hid (abW (s ++ u)) := Lib.hid ⟨by rw [allB_app, hs1, hab.1]; rfl, by rw [ByteArray.size_append]; omega, by rw [ByteArray.size_append]; omega⟩
      have hsu : ¬ 9223372036854775807 < s.size + u.size := by omega
      clear hc5 hg5 HS4 hs1 hab
      have HHA := Lib.hid (fun W (hW : StrsIn W aE E) => l04Has_any E (s ++ u) aE cE W hW (by omega))
      have HIE := Lib.hid HS5.out.row.cells
      go_wp2_with fail
      refine (HHA.out _ HIE.out).mono ?_
      rintro e w6 ⟨bb, hbb, rfl, hb6⟩
      have HS6 := Lib.hid (HS5.out.later hb6)
      have HBB := Lib.hid hbb
      clear hbb hb6 HHA HIE HS5
      cases bb
      · have HNI : Hid (s ++ u ∉ E) := Lib.hid (fun h => by have := HBB.out.2 h; cases this)
        go_wp2_with (at_builtin; refine wpList_append_off rfl (.tmp 24) (.tmp 26) rfl Try.underlying23 Try.infoStr rfl (by decide) rfl (HS6.out.row.later (alloc_belowC _ (.cells #[.string (s ++ u)] 9))) (by have := HS6.out.gr.size; simp; omega) rfl (src_of Try.underlying23 (Src.lit (w := w6) (T := 9) (c := 1) (m := 1) [.string (s ++ u)]) rfl (fun u hu => by simp at hu; rcases hu with rfl; rfl)) (by unfold maxLen; omega) (by omega) ?_)
        intro v7 w7 ho7 hg7
        have HS7 := Lib.hid (HS6.out.put HLT.out HA.out HAB.out HNI.out ho7 hg7)
        clear ho7 hg7 HS6 HAB
        go_wp2_with fail
        go_roundw
        case rel => exact ⟨i - 1, E ++ [s ++ u], by simp; omega, by go_num, HS7⟩
        case measure => simp [intOf]; omega
      · have hmem := HBB.out.1 rfl
        have hE1 : 1 ≤ E.length := List.length_pos_of_mem hmem
        go_wp2_with fail
        go_roundw
        case rel => exact ⟨i - 1, E, by omega, by go_num, HS6⟩
        case measure => simp [intOf]; omega
    · obtain rfl : i = 0 := by omega
      have F : Hid (RetLs B a l cap w (.returned (.slice aE E.length cE)) wr) := Lib.hid ⟨E, aE, cE, ab_list (by omega) (by omega) HS.out.nd HS.out.side, HS.out.side, HS.out.nd, ownsOff.capL HS.out.row, rfl, HS.out.row.cells, HS.out.gr⟩
      go_wp2_with fail
      go_ret
      exact F.out
def RetMk (w : World) (e : Ending) (w' : World) : Prop := ∃ (E : List ByteArray) (aE : Option Addr) (cE : Nat), listP E ∧ (∀ r ∈ E, abW r) ∧ E.Nodup ∧ E.length ≤ cE ∧ e = .returned (.slice aE E.length cE) ∧ StrsIn w' aE E ∧ Below w.heap.size w w'
set_option maxHeartbeats 1000000 in
theorem makeList_any (a : Option Addr) (l : List UInt8) (cap k : Nat) (w : World) (hl : BytesIn w a l) (hlen : l.length ≤ 2 ^ 40) (hk : k ≤ 1000) :
    Calls Try.prog 4 #[.slice a l.length cap, .int .i64 (k : Nat)] w (RetMk w) := by
  have HN := Lib.hid (l31New_any a l cap k w hl hlen hk)
  clear hl
  go_enter Try.func4, Try.ntmps4
  go_wp2_with fail
  refine HN.out.mono ?_
  rintro e w2 ⟨rfl, hc2, hb2⟩
  have HD := Lib.hid (l22Draw_any w.heap.size a l cap w2 hc2)
  have HB2 := Lib.hid hb2
  clear hc2 hb2 HN
  go_wp2_with fail
  refine HD.out.mono ?_
  rintro e w3 ⟨E, aE, cE, h1, h2, h3, h4, rfl, h5, hg⟩
  have F : Hid (RetMk w (.returned (.slice aE E.length cE)) w3) := Lib.hid ⟨E, aE, cE, h1, h2, h3, h4, rfl, h5, below_curs HB2.out hg (Nat.le_refl _)⟩
  clear h1 h2 h3 h4 h5 hg
  go_wp2_with fail
  go_ret
  exact F.out
end Go.Proofs.Ytmgdglghjlggnaa
namespace Go.Proofs.Ytmgdglghjlggnaa
open Go.RowKit
set_option linter.unusedVariables false
set_option maxHeartbeats 400000 in
theorem implWordOk_any (k : Int) (s : ByteArray) (w : World) (hs : s.size ≤ maxLen) :
    Calls Try.prog 24 #[.int .i64 k, .string s] w fun e w' => e = .returned (.bool (wordOkB k s)) ∧ w = w' := by
  cases hk : inB k 1 4
  · have F := Lib.hid (wordOk_notk (s := s) hk)
    unfold maxLen at hs
    go_enter Try.func24, Try.ntmps24
    go_wp2_with (go_at_call 23; refine (within_any _ _ _ _).mono ?_; rintro e w' ⟨h2, rfl⟩; rw [hk] at h2; subst h2)
    go_ret
    exact ⟨ret_bool F.out.symm, rfl⟩
  have ⟨hk1, hk2⟩ := inB_bounds hk
  by_cases hl : 16 < s.size
  · have F := Lib.hid (wordOk_long (k := k) hl)
    unfold maxLen at hs
    go_enter Try.func24, Try.ntmps24
    go_wp2_with (go_at_call 23; refine (within_any _ _ _ _).mono ?_; rintro e w' ⟨h2, rfl⟩; rw [hk] at h2; subst h2)
    go_ret
    exact ⟨ret_bool F.out.symm, rfl⟩
  · have G := Lib.hid (wordOk_all (s := s) hk (by omega))
    have HS := Lib.hid hs
    unfold maxLen at hs
    go_enter Try.func24, Try.ntmps24
    go_wp2_with (first | (go_at_call 23; refine (within_any _ _ _ _).mono ?_; rintro e w' ⟨h2, rfl⟩; rw [hk] at h2; subst h2) | (go_at_call 45; refine (hasLetters_any _ _ _ HS.out (by omega) (by omega)).mono ?_; rintro e w' ⟨rfl, rfl⟩))
    go_ret
    exact ⟨ret_bool G.out.symm, rfl⟩
theorem containsS_any (l : List ByteArray) (v : ByteArray) (b off cap : Nat) (w : World) (hl : StrsIn w (some ⟨b, off, none⟩) l) (hlen : l.length ≤ 2 ^ 40) :
    Calls Try.prog 22 #[.slice (some ⟨b, off, none⟩) l.length cap, .string v] w (RetP (v ∈ l) w) := by
  rcases Nat.eq_zero_or_pos l.length with h0 | h0
  · have he : l = [] := List.eq_nil_of_length_eq_zero h0
    subst he
    exact (Try.slices_Contains_string_empty (some ⟨b, off, none⟩) cap v w).mono fun e w' ⟨h1, h2⟩ => by
      subst h1 h2
      exact RetP.no (by simp) (Below.refl _ _)
  · obtain ⟨b2, o2, hbo, hb, hc⟩ := hl.cell h0
    have hab := Option.some.inj hbo
    simp only [Addr.mk.injEq, and_true] at hab
    obtain ⟨rfl, rfl⟩ := hab
    refine (Try.slices_Contains_string b off l.length cap l v w (Nat.le_refl _) (by omega) (fun j hj => hc j hj)).mono fun e w' ⟨h1, h2⟩ => ?_
    subst h1 h2
    rw [List.take_length]
    exact ⟨_, Lib.containsS_iff l v, rfl, Below.refl _ _⟩
set_option maxRecDepth 20000 in
set_option maxHeartbeats 1000000 in
theorem implListOk_any (l : List ByteArray) (a : Option Addr) (cap : Nat) (w : World) (hl : StrsIn w a l) (hlen : l.length ≤ 2 ^ 40) (hcap : l.length ≤ cap) (hsz : ∀ j, j < l.length → (nthS l j).size ≤ maxLen) :
    Calls Try.prog 7 #[.slice a l.length cap] w (RetP (listP l) w) := by
  have HL := Lib.hid hl
  have HZ := Lib.hid hsz
  have P1 := Lib.hid (fun W => within_any (l.length : Int) 1 8 W)
  clear hl hsz
  cases hb : inB (l.length : Int) 1 8
  · have F : Hid (¬ listP l) := Lib.hid (fun h => by have := h.1; simp [inB] at hb; omega)
    rw [hb] at P1
    clear hb
    go_enter Try.func7, Try.ntmps7
    go_wp2_with (go_at_call 23; refine (P1.out _).mono ?_; rintro e w' ⟨rfl, rfl⟩)
    go_ret
    exact RetP.no F.out (Below.refl _ _)
  · have hb2 := inB_bounds hb
    rw [hb] at P1
    clear hb
    have hl1 : 1 ≤ l.length := by omega
    have hl8 : l.length ≤ 8 := by omega
    go_enter Try.func7, Try.ntmps7
    go_wp2_with (go_at_call 23; refine (P1.out _).mono ?_; rintro e w' ⟨rfl, rfl⟩)
    clear P1
    go_loopw [11] (fun i wr => ∃ j : Nat, j ≤ l.length ∧ i = .int .i64 (j : Nat) ∧ Hid (∀ j', j' < j → wordP l j') ∧ Below w.heap.size w wr) (fun i _ => l.length - (intOf i).toNat)
    case atStart => exact ⟨0, Nat.zero_le _, rfl, Lib.hid (fun j' h => absurd h (Nat.not_lt_zero _)), Below.refl _ _⟩
    case round =>
      obtain ⟨j, hj, rfl, hall, hbw⟩ := hrel
      by_cases hlt : j < l.length
      · obtain ⟨b, off, rfl, hb, hc⟩ := (HL.out.later hbw).cell hlt
        have c1 := hc j hlt
        have HS := Lib.hid (StrsIn.take hc j (by omega))
        have htl : (l.take j).length = j := by rw [List.length_take]; omega
        have HH := Lib.hid (fun v => containsS_any (l.take j) v b off cap wr HS.out (by omega))
        rw [htl] at HH
        have hz := HZ.out j hlt
        have HNO : Hid (¬ wordP l j → ¬ listP l) := Lib.hid (fun h h2 => h (h2.2 j hlt))
        have HYE : Hid (wordP l j → ∀ j', j' < j + 1 → wordP l j') := Lib.hid (fun h j' hj' => by
          by_cases e : j' = j
          · rw [e]; exact h
          · exact hall.out j' (by omega))
        have HWP : Hid (wordP l j ↔ (wordOkB 4 (nthS l j) = true ∧ (1 ≤ (nthS l j).size ∧ (nthS l j).size ≤ 6) ∧ ¬ nthS l j ∈ l.take j)) := Lib.hid Iff.rfl
        have hji : (j : Int) ≤ (cap : Int) := by omega
        have hji2 : j ≤ cap := by omega
        clear hc htl
        generalize nthS l j = u at *
        have HW := Lib.hid (fun W => implWordOk_any 4 u W hz)
        have HI := Lib.hid (fun W => within_any (u.size : Int) 1 6 W)
        cases hw : wordOkB 4 u
        · have F := Lib.hid (HNO.out (fun h => by have := (HWP.out.1 h).1; rw [hw] at this; cases this))
          rw [hw] at HW
          clear hw
          cases hi : inB (u.size : Int) 1 6
          all_goals
            rw [hi] at HI
            clear hi
            go_wp2_with (first
              | (go_at_call 24; refine (HW.out _).mono ?_; rintro e w' ⟨rfl, rfl⟩)
              | (go_at_call 23; refine (HI.out _).mono ?_; rintro e w' ⟨rfl, rfl⟩))
            go_ret
            exact RetP.no F.out hbw
        · have HWT := Lib.hid hw
          rw [hw] at HW
          clear hw
          cases hi : inB (u.size : Int) 1 6
          · have F := Lib.hid (HNO.out (fun h => by have := (HWP.out.1 h).2.1; simp [inB] at hi; omega))
            rw [hi] at HI
            clear hi
            go_wp2_with (first
              | (go_at_call 24; refine (HW.out _).mono ?_; rintro e w' ⟨rfl, rfl⟩)
              | (go_at_call 23; refine (HI.out _).mono ?_; rintro e w' ⟨rfl, rfl⟩))
            go_ret
            exact RetP.no F.out hbw
          · have hi2 := inB_bounds hi
            have HI2 : Hid (1 ≤ u.size ∧ u.size ≤ 6) := Lib.hid (by omega)
            rw [hi] at HI
            clear hi hi2
            go_wp2_with (first
              | (go_at_call 24; refine (HW.out _).mono ?_; rintro e w' ⟨rfl, rfl⟩)
              | (go_at_call 23; refine (HI.out _).mono ?_; rintro e w' ⟨rfl, rfl⟩))
            refine (HH.out _).mono ?_
            rintro e w2 ⟨bb, hbb, rfl, hb2⟩
            have B2 := Lib.hid (Below.now hbw hb2)
            have HBB := Lib.hid hbb
            clear hb2 hbb HH
            cases bb
            · have F := Lib.hid (HYE.out (HWP.out.2 ⟨HWT.out, HI2.out, fun h => by have := HBB.out.2 h; cases this⟩))
              go_wp2_with fail
              go_roundw
              case rel => exact ⟨j + 1, by omega, by go_num, F, B2.out⟩
              case measure => simp [intOf]; omega
            · have F := Lib.hid (HNO.out (fun h => (HWP.out.1 h).2.2 (HBB.out.1 rfl)))
              go_wp2_with fail
              go_ret
              exact RetP.no F.out B2.out
      · obtain rfl : j = l.length := by omega
        have F : Hid (listP l) := Lib.hid ⟨⟨hl1, hl8⟩, hall.out⟩
        go_wp2_with fail
        go_ret
        exact RetP.yes F.out hbw
end Go.Proofs.Ytmgdglghjlggnaa
