/-
  Rules: slices of pairs of strings, as they lie in memory.
-/
import Derived.Test.YtdhaebbfiaddnaaGrp01
import Derived.Deep.AppendLies
import Derived.Maps.AppendAt
import Derived.Laws.OwnMore
import Derived.Shelf.Small.Bits
import Derived.Shelf.Small.Wraps
import Derived.Shelf.Strconv.Itoa0
import Derived.Shelf.Sort.Plain
import Derived.Shelf.Slices.Turned
import Derived.Shelf.Slices.Equal
import Derived.Ground.Names2Prog
import Derived.Shelf.Slices.Clone
import Derived.Shelf.Slices.CompactI
import Derived.Shelf.Slices.SearchI
import Derived.Shelf.Slices.Cells
import Derived.Shelf.Slices.Empties2
import Derived.Test.YtdhaebbfiaddnaaProg
import Derived.Laws.BytesArg
namespace Go.Proofs.Ytdhaebbfiaddnaa
open Go.RowKit
set_option linter.unusedVariables false
theorem run_make_k {P : Program} (t e : TypeId) (z : Value) (size bytes : Nat) (ht : P.underlying t = some (.slice e)) (hinfo : (P.info? e).map (fun i => (i.zero, i.size, i.bytes)) = some (some z, size, bytes))
    (kl kc : IntKind) (n : Nat) (hbytes : bytes * n ≤ 281474976710656) (h63 : n ≤ 9223372036854775807) (w : World) :
    (Instr.makeSlice t (.int kl (n : Int)) (.int kc (n : Int))).run P w = .ok (.slice (some ⟨w.heap.size, 0, none⟩) n n) (w.alloc (.cells (madeCells z.cells (n * size)) e)) := by
  obtain ⟨i, hi, hzz⟩ := Option.map_eq_some_iff.1 hinfo
  simp only [Prod.mk.injEq] at hzz
  obtain ⟨hz, hs, hb⟩ := hzz
  have hb' : (i.bytes : Int) * (n : Int) ≤ 281474976710656 := by
    have h : ((i.bytes * n : Nat) : Int) ≤ 281474976710656 := by rw [hb]; omega
    rwa [Int.natCast_mul] at h
  have hr := run_make (P := P) w t e i z ht hi hz kl kc n n (by omega) (Int.le_refl _) hb' (by omega)
  simp only [Int.toNat_natCast, hs] at hr
  exact hr
/-- a row of n elements of k cells that is being filled; c cells are done -/
def FillK (w wr : World) (T : TypeId) (k g n : Nat) (tgt : List Value) (c : Nat) : Prop :=
  ∃ xs, wr.ownsRow g T k (.slice (some ⟨g, 0, none⟩) n n) n xs ∧ xs.take c = tgt.take c ∧ Below w.heap.size w wr ∧ w.heap.size ≤ g ∧ tgt.length = n * k
theorem FillK.start (w : World) (T : TypeId) (cs : Array Value) (k n : Nat) (tgt : List Value) (hs : cs.size = n * k) (hn : n ≤ maxLen) (hl : tgt.length = n * k) : FillK w (w.alloc (.cells cs T)) T k w.heap.size n tgt 0 :=
  ⟨cs.toList, World.ownsRow_lit w cs n (Nat.le_refl _) hn hs, by simp, (Below.refl _ _).alloc (Nat.le_refl _) _, Nat.le_refl _, hl⟩
theorem FillK.cell {w wr : World} {T : TypeId} {k g n : Nat} {tgt : List Value} {c : Nat} (h : FillK w wr T k g n tgt c) {i : Nat} (hi : i < n * k) : ∃ v, wr.cell? ⟨g, i, none⟩ = some v := by
  obtain ⟨xs, ho, ht, hb, hg, hl⟩ := h
  have := ho.cellAt i hi
  have h1 := ho.1
  exact ⟨xs[i]'(by omega), by rw [this, List.getElem?_eq_getElem]⟩
theorem FillK.frozen {w wr : World} {T : TypeId} {k g n : Nat} {tgt : List Value} {c : Nat} (h : FillK w wr T k g n tgt c) (i : Nat) : wr.frozen? ⟨g, i, none⟩ = false := by
  obtain ⟨xs, ho, ht, hb, hg, hl⟩ := h
  exact ho.frozenAt i
theorem FillK.below {w wr : World} {T : TypeId} {k g n : Nat} {tgt : List Value} {c : Nat} (h : FillK w wr T k g n tgt c) : Below w.heap.size w wr := by
  obtain ⟨xs, ho, ht, hb, hg, hl⟩ := h
  exact hb
theorem FillK.later {w wr wr' : World} {T : TypeId} {k g n : Nat} {tgt : List Value} {c : Nat} (h : FillK w wr T k g n tgt c) (hb' : Below wr.heap.size wr wr') : FillK w wr' T k g n tgt c := by
  obtain ⟨xs, ho, ht, hb, hg, hl⟩ := h
  exact ⟨xs, owns_later ho hb', ht, Below.now hb hb', hg, hl⟩
theorem FillK.lt {w wr : World} {T : TypeId} {k g n : Nat} {tgt : List Value} {c : Nat} (h : FillK w wr T k g n tgt c) : g < wr.heap.size := by
  obtain ⟨xs, ho, ht, hb, hg, hl⟩ := h
  exact (ho.lt g rfl).2
theorem FillK.store {w wr : World} {T : TypeId} {k g n : Nat} {tgt : List Value} {c : Nat} (h : FillK w wr T k g n tgt c) (hc : c < n * k) {u : Value} (hu : tgt[c]? = some u) : FillK w (wr.setCell ⟨g, c, none⟩ u) T k g n tgt (c + 1) := by
  obtain ⟨xs, ho, ht, hb, hg, hl⟩ := h
  have h1 := ho.1
  have hu' : tgt[c]'(by omega) = u := by rw [List.getElem?_eq_getElem (by omega)] at hu; simpa using hu
  refine ⟨xs.set c u, (ho.stored c u).1, ?_, hb.setCell hg u, hg, hl⟩
  rw [← hu']
  exact fill_step (by omega) ht (by omega)
theorem FillK.done {w wr : World} {T : TypeId} {k g n : Nat} {tgt : List Value} {c : Nat} (h : FillK w wr T k g n tgt c) (hc : ¬ c < n * k) : RetSl T k n tgt w (.returned (.slice (some ⟨g, 0, none⟩) n n)) wr := by
  obtain ⟨xs, ho, ht, hb, hg, hl⟩ := h
  have h1 := ho.1
  have : xs = tgt := fill_done (by omega) ht (by omega)
  subst this
  exact ⟨_, _, rfl, owns_mono ho hg, hb⟩
section
variable {P : Program}
/-- append of one element, at a step of a region that draws its order -/
theorem step_app1 {ops : Array Oper} {o : Oper} {a : Act} {K : Act → World → Prop} {Q : Exit → Act → World → Prop} {E : Prop} {T tsl : TypeId} {z : Value} {size bytes : Nat} (hg : o.guard = none) (s x : Operand)
    (ho : o.op = .call { callee := .builtin .append, args := #[s, x], argTypes := #[tsl, tsl] }) (ht : P.underlying tsl = some (.slice T)) (hinfo : (P.info? T).map (fun i => (i.zero, i.size, i.bytes)) = some (some z, size, bytes))
    (hzs : z.cells.size = size) (hpos : 0 < size) {w wr : World} {v : Value} {n : Nat} {xs news : List Value} (hs : a.eval s = v) (hb : Bld T size w wr v n xs) (hx : a.eval x = .slice (some ⟨wr.heap.size, 0, none⟩) 1 1)
    (hn : news.length = size) (h1 : ∀ u ∈ news, u.oneCell' = true) (h63 : n + 1 ≤ maxLen) (hbytes : (n + 1) * bytes ≤ 140737488355328)
    (hK : ∀ v' w', Bld T size w w' v' (n + 1) (xs ++ news) → K (a.put o.dst v') w') : if Region.wanted o (yielded ops a.tmps) = true then Oper.wp P o a (wr.alloc (.cells news.toArray T)) K Q else E := by
  obtain ⟨i0, hi, hz0, hz1, hz2⟩ := info_parts hinfo
  refine step_append_lies (w := wr.alloc (.cells news.toArray T)) hg s x tsl ho w.heap.size T i0 z size bytes ht hi hz0 hz1 hz2 hzs hpos v n xs hs (hb.1.alloc _) ⟨wr.heap.size, 0, none⟩ 1 1 news hx (by omega) ?_ h1 (by omega) h63 hbytes ?_ _ rfl ?_
  · intro j u hu
    have hadd : (⟨wr.heap.size, 0, none⟩ : Addr).add j = ⟨wr.heap.size, j, none⟩ := by unfold Addr.add; split <;> simp_all
    rw [hadd, World.cell?_alloc_new]
    simpa using hu
  · have := hb.2.size
    simp; omega
  · intro g cap w' hown hgr _ _
    refine hK _ w' ⟨hown, ?_⟩
    have h2 : Below w.heap.size w (wr.alloc (.cells news.toArray T)) := hb.2.alloc hb.2.size _
    exact h2.grown hgr h2.size (owns_block hb.1)
/-- the same, and what else there was is as it was -/
theorem step_app1g {ops : Array Oper} {o : Oper} {a : Act} {K : Act → World → Prop} {Q : Exit → Act → World → Prop} {E : Prop} {T tsl : TypeId} {z : Value} {size bytes : Nat} (hg : o.guard = none) (s x : Operand)
    (ho : o.op = .call { callee := .builtin .append, args := #[s, x], argTypes := #[tsl, tsl] }) (ht : P.underlying tsl = some (.slice T)) (hinfo : (P.info? T).map (fun i => (i.zero, i.size, i.bytes)) = some (some z, size, bytes))
    (hzs : z.cells.size = size) (hpos : 0 < size) {w wr : World} {v : Value} {n : Nat} {xs news : List Value} (hs : a.eval s = v) (hb : Bld T size w wr v n xs) (hx : a.eval x = .slice (some ⟨wr.heap.size, 0, none⟩) 1 1)
    (hn : news.length = size) (h1 : ∀ u ∈ news, u.oneCell' = true) (h63 : n + 1 ≤ maxLen) (hbytes : (n + 1) * bytes ≤ 140737488355328)
    (hK : ∀ v' w', Bld T size w w' v' (n + 1) (xs ++ news) → (wr.alloc (.cells news.toArray T)).grownBy w' v.ownBlock → K (a.put o.dst v') w') : if Region.wanted o (yielded ops a.tmps) = true then Oper.wp P o a (wr.alloc (.cells news.toArray T)) K Q else E := by
  obtain ⟨i0, hi, hz0, hz1, hz2⟩ := info_parts hinfo
  refine step_append_lies (w := wr.alloc (.cells news.toArray T)) hg s x tsl ho w.heap.size T i0 z size bytes ht hi hz0 hz1 hz2 hzs hpos v n xs hs (hb.1.alloc _) ⟨wr.heap.size, 0, none⟩ 1 1 news hx (by omega) ?_ h1 (by omega) h63 hbytes ?_ _ rfl ?_
  · intro j u hu
    have hadd : (⟨wr.heap.size, 0, none⟩ : Addr).add j = ⟨wr.heap.size, j, none⟩ := by unfold Addr.add; split <;> simp_all
    rw [hadd, World.cell?_alloc_new]
    simpa using hu
  · have := hb.2.size
    simp; omega
  · intro g cap w' hown hgr _ _
    refine hK _ w' ⟨hown, ?_⟩ hgr
    have h2 : Below w.heap.size w (wr.alloc (.cells news.toArray T)) := hb.2.alloc hb.2.size _
    exact h2.grown hgr h2.size (owns_block hb.1)
/-- a cell of an elder block that is not the row appended to -/
theorem far_cell {wr w' : World} {o : Obj} {v : Value} {a : Addr} {u : Value} (hgr : (wr.alloc o).grownBy w' v.ownBlock) (hc : wr.cell? a = some u) (hne : v.ownBlock ≠ some a.block) : w'.cell? a = some u := by
  have hlt := World.block_lt_of_cell? wr _ hc
  have h1 : (wr.alloc o).cell? a = some u := by rw [((Below.refl wr.heap.size wr).alloc (Nat.le_refl _) o).cell hlt]; exact hc
  unfold World.cell? at h1 ⊢
  rw [hgr.block a.block (by simp; omega) (fun e => hne e.symm)]
  exact h1
end
end Go.Proofs.Ytdhaebbfiaddnaa
namespace Go.Proofs.Ytdhaebbfiaddnaa
open Go.RowKit
set_option linter.unusedVariables false
/-- a slice from which elements are taken -/
def Src (w : World) (x : Value) (m : Nat) (news : List Value) : Prop :=
  (x = .slice none 0 0 ∧ m = 0 ∧ news = []) ∨ ∃ ad c, x = .slice (some ad) m c ∧ ∀ j u, news[j]? = some u → w.cell? (ad.add j) = some u
theorem add_off (b o j : Nat) : (⟨b, o, none⟩ : Addr).add j = ⟨b, o + j, none⟩ := by unfold Addr.add; split <;> simp_all
theorem Src.of_cells {w : World} {ad : Addr} {m c : Nat} {news : List Value} (h : CellsIn w (some ad) news) : Src w (.slice (some ad) m c) m news := by
  refine .inr ⟨ad, c, rfl, fun j u hu => ?_⟩
  rcases h with h | ⟨b, off, ha, hc⟩
  · subst h; simp at hu
  · obtain rfl := Option.some.inj ha
    obtain ⟨hj, rfl⟩ := List.getElem?_eq_some_iff.1 hu
    rw [add_off]
    exact hc j hj
theorem Src.of_owns {w : World} {base : Nat} {T : TypeId} {size : Nat} {x : Value} {m : Nat} {news : List Value} (h : w.ownsRow base T size x m news) : Src w x m news := by
  rcases h.2 with ⟨hv, h0⟩ | ⟨g, cap, cur, hv, hb, hg, hn, hc, hs, ht⟩
  · refine .inl ⟨hv, h0, List.eq_nil_of_length_eq_zero (by rw [h.1, h0, Nat.zero_mul])⟩
  · subst hv
    refine .inr ⟨_, _, rfl, fun j u hu => ?_⟩
    obtain ⟨hj, rfl⟩ := List.getElem?_eq_some_iff.1 hu
    rw [add_off, Nat.zero_add, h.cellAt j (by have := h.1; omega)]
    exact hu
theorem Src.lit {w : World} {T : TypeId} {c m : Nat} (news : List Value) : Src (w.alloc (.cells news.toArray T)) (.slice (some ⟨w.heap.size, 0, none⟩) m c) m news := by
  refine .inr ⟨_, _, rfl, fun j u hu => ?_⟩
  rw [add_off, Nat.zero_add, World.cell?_alloc_new]
  simpa using hu
theorem Src.later {w w' : World} {x : Value} {m : Nat} {news : List Value} (h : Src w x m news) (hb : Below w.heap.size w w') : Src w' x m news := by
  rcases h with h | ⟨ad, c, hx, hc⟩
  · exact .inl h
  · refine .inr ⟨ad, c, hx, fun j u hu => ?_⟩
    have h1 := hc j u hu
    rw [hb.cell (World.block_lt_of_cell? w _ h1)]
    exact h1
section
variable {P : Program}
theorem run_appM {tsl ty T : TypeId} {z : Value} {size bytes : Nat} (ht : P.underlying tsl = some (.slice T)) (hinfo : (P.info? T).map (fun i => (i.zero, i.size, i.bytes)) = some (some z, size, bytes))
    (hzs : z.cells.size = size) (hpos : 0 < size) {w wr : World} {v x : Value} {n m : Nat} {xs news : List Value} (hb : Bld T size w wr v n xs) (hx : Src wr x m news)
    (hn : news.length = m * size) (h1 : ∀ u ∈ news, u.oneCell' = true) (h63 : n + m ≤ maxLen) (hbytes : (n + m) * bytes ≤ 140737488355328) :
    ∃ v' w', (Builtin.append_ #[tsl, tsl] ty #[v, x]).run P wr = .ok v' w' ∧ Bld T size w w' v' (n + m) (xs ++ news) ∧ wr.grownBy w' v.ownBlock ∧ (v'.ownBlock = v.ownBlock ∨ v'.ownBlock = some wr.heap.size) := by
  obtain ⟨i0, hi, hz0, hz1, hz2⟩ := info_parts hinfo
  rcases hx with ⟨rfl, rfl, rfl⟩ | ⟨ad, c, rfl, hc⟩
  · refine ⟨v, wr, run_append_owned_none wr w.heap.size tsl ty T i0 size ht hi v n xs hb.1, by simpa using hb, ⟨rfl, rfl, rfl, Nat.le_refl _, fun _ _ _ => rfl⟩, .inl rfl⟩
  · obtain ⟨v', w', hr, h2, h3, h4, h5⟩ := run_append_own_at (P := P) wr w.heap.size tsl ty T i0 z size bytes ht hi hz0 hz1 hz2 hzs hpos v n xs hb.1 ad m c news hn hc h1 h63 hbytes hb.2.size
    exact ⟨v', w', hr, ⟨h2, hb.2.grown h3 hb.2.size (owns_block hb.1)⟩, h3, h5⟩
/-- append of m elements, at a step of a region that draws its order -/
theorem step_appM {ops : Array Oper} {o : Oper} {a : Act} {K : Act → World → Prop} {Q : Exit → Act → World → Prop} {E : Prop} {T tsl : TypeId} {z : Value} {size bytes : Nat} (hg : o.guard = none) (s x : Operand)
    (ho : o.op = .call { callee := .builtin .append, args := #[s, x], argTypes := #[tsl, tsl] }) (ht : P.underlying tsl = some (.slice T)) (hinfo : (P.info? T).map (fun i => (i.zero, i.size, i.bytes)) = some (some z, size, bytes))
    (hzs : z.cells.size = size) (hpos : 0 < size) {w wr : World} {v u : Value} {n m : Nat} {xs news : List Value} (hs : a.eval s = v) (hb : Bld T size w wr v n xs) (hx : a.eval x = u) (hsrc : Src wr u m news)
    (hn : news.length = m * size) (h1 : ∀ u ∈ news, u.oneCell' = true) (h63 : n + m ≤ maxLen) (hbytes : (n + m) * bytes ≤ 140737488355328)
    (hK : ∀ v' w', Bld T size w w' v' (n + m) (xs ++ news) → wr.grownBy w' v.ownBlock → (v'.ownBlock = v.ownBlock ∨ v'.ownBlock = some wr.heap.size) → K (a.put o.dst v') w') : if Region.wanted o (yielded ops a.tmps) = true then Oper.wp P o a wr K Q else E := by
  have hw : Region.wanted o (yielded ops a.tmps) = true := by simp [Region.wanted, hg]
  rw [if_pos hw]
  obtain ⟨v', w', hr, h2, h3, h4⟩ := run_appM (ty := o.type) ht hinfo hzs hpos hb hsrc hn h1 h63 hbytes
  unfold Oper.wp execOp
  simp only [ho, resolve, invoke, builtin, Sem.run_bind, Sem.run_pure, Result.andThen_ok, List.map_toArray, List.map_cons, List.map_nil, hs, hx, hr]
  exact hK _ _ h2 h3 h4
/-- the same at a plain region's list -/
theorem wpList_appM {ops : Array Oper} {rest : List Oper} {o : Oper} {a : Act} {Q : Exit → Act → World → Prop} {T tsl : TypeId} {z : Value} {size bytes : Nat} (hg : o.guard = none) (s x : Operand)
    (ho : o.op = .call { callee := .builtin .append, args := #[s, x], argTypes := #[tsl, tsl] }) (ht : P.underlying tsl = some (.slice T)) (hinfo : (P.info? T).map (fun i => (i.zero, i.size, i.bytes)) = some (some z, size, bytes))
    (hzs : z.cells.size = size) (hpos : 0 < size) {w wr : World} {v u : Value} {n m : Nat} {xs news : List Value} (hs : a.eval s = v) (hb : Bld T size w wr v n xs) (hx : a.eval x = u) (hsrc : Src wr u m news)
    (hn : news.length = m * size) (h1 : ∀ u ∈ news, u.oneCell' = true) (h63 : n + m ≤ maxLen) (hbytes : (n + m) * bytes ≤ 140737488355328)
    (hK : ∀ v' w', Bld T size w w' v' (n + m) (xs ++ news) → wr.grownBy w' v.ownBlock → (v'.ownBlock = v.ownBlock ∨ v'.ownBlock = some wr.heap.size) → wpList P ops Q rest (a.put o.dst v') w') : wpList P ops Q (o :: rest) a wr := by
  refine wpList_plain hg fun K hK' => ?_
  obtain ⟨v', w', hr, h2, h3, h4⟩ := run_appM (ty := o.type) ht hinfo hzs hpos hb hsrc hn h1 h63 hbytes
  unfold Oper.wp execOp
  simp only [ho, resolve, invoke, builtin, Sem.run_bind, Sem.run_pure, Result.andThen_ok, List.map_toArray, List.map_cons, List.map_nil, hs, hx, hr]
  exact hK' _ _ (hK _ _ h2 h3 h4)
end
end Go.Proofs.Ytdhaebbfiaddnaa

namespace Go.Proofs.Ytdhaebbfiaddnaa
open Go.RowKit
set_option linter.unusedVariables false
/-- a slice of strings -/
def StrsIn (w : World) (a : Option Addr) (l : List ByteArray) : Prop := CellsIn w a (l.map Value.string)
theorem StrsIn.later {w w' : World} {a : Option Addr} {l : List ByteArray} (h : StrsIn w a l) (hb : Below w.heap.size w w') : StrsIn w' a l := CellsIn.later h hb
/-- the string at a place -/
def nthS (l : List ByteArray) (i : Nat) : ByteArray := l.getD i ⟨#[]⟩
theorem nthS_lt {l : List ByteArray} {i : Nat} (h : i < l.length) : nthS l i = l[i] := by simp [nthS, List.getD_eq_getElem?_getD, h]
theorem StrsIn.cell {w : World} {a : Option Addr} {l : List ByteArray} (h : StrsIn w a l) {i : Nat} (hi : i < l.length) :
    ∃ b off, a = some ⟨b, off, none⟩ ∧ b < w.heap.size ∧ ∀ j, j < l.length → w.cell? ⟨b, off + j, none⟩ = some (.string (nthS l j)) := by
  rcases h with h | ⟨b, off, ha, hc⟩
  · simp at h; simp [h] at hi
  · have key : ∀ j, j < l.length → w.cell? ⟨b, off + j, none⟩ = some (.string (nthS l j)) := fun j hj => by
      have := hc j (by simpa using hj)
      rw [nthS_lt hj]
      simpa using this
    exact ⟨b, off, ha, World.block_lt_of_cell? w _ (key i hi), key⟩
/-- the first j strings, joined -/
def joinTo (l : List ByteArray) (sep : ByteArray) : Nat → ByteArray
  | 0 => ⟨#[]⟩
  | j + 1 => if j = 0 then nthS l 0 else joinTo l sep j ++ sep ++ nthS l j
def joinF (l : List ByteArray) (sep : ByteArray) : ByteArray := joinTo l sep l.length
theorem joinTo_one (l : List ByteArray) (sep : ByteArray) : joinTo l sep 1 = nthS l 0 := rfl
theorem joinTo_succ (l : List ByteArray) (sep : ByteArray) {j : Nat} (h : 0 < j) : joinTo l sep (j + 1) = joinTo l sep j ++ sep ++ nthS l j := by
  simp only [joinTo, if_neg (show ¬ j = 0 by omega)]
/-- the sizes of the first j -/
def sumTo (l : List ByteArray) : Nat → Nat
  | 0 => 0
  | j + 1 => sumTo l j + (nthS l j).size
theorem joinTo_size (l : List ByteArray) (sep : ByteArray) : ∀ j, (joinTo l sep (j + 1)).size = sumTo l (j + 1) + sep.size * j
  | 0 => by simp [joinTo, sumTo]
  | j + 1 => by
    rw [joinTo_succ l sep (by omega), ByteArray.size_append, ByteArray.size_append, joinTo_size l sep j, sumTo, Nat.mul_add, sumTo]
    simp only [sumTo]
    omega
theorem joinTo_mono (l : List ByteArray) (sep : ByteArray) {i j : Nat} (h : i ≤ j) : (joinTo l sep i).size ≤ (joinTo l sep j).size := by
  induction h with
  | refl => exact Nat.le_refl _
  | step h ih =>
    rename_i m
    refine Nat.le_trans ih ?_
    cases m with
    | zero => exact Nat.zero_le _
    | succ m => rw [joinTo_succ l sep (j := m + 1) (by omega), ByteArray.size_append, ByteArray.size_append]; omega
theorem sumTo_mono (l : List ByteArray) {i j : Nat} (h : i ≤ j) : sumTo l i ≤ sumTo l j := by
  induction h with
  | refl => exact Nat.le_refl _
  | step h ih => exact Nat.le_trans ih (by simp [sumTo])
theorem ret_str {a b : ByteArray} (h : a = b) : Ending.returned (.string a) = .returned (.string b) := by rw [h]
theorem cells_append (a b : ByteArray) : Lib.byteCells a.data.toList ++ Lib.strCells b = Lib.byteCells (a ++ b).data.toList := by
  rw [Lib.strCells_eq, ← Lib.byteCells_append]; simp
theorem alloc_at (w : World) (o : Obj) : (w.alloc o).heap[w.heap.size]? = some o := by unfold World.alloc; simp
end Go.Proofs.Ytdhaebbfiaddnaa
namespace Go.Proofs.Ytdhaebbfiaddnaa
open Go.RowKit
set_option linter.unusedVariables false
/-- a text of one byte -/
def oneC (x : Int) : ByteArray := ⟨#[UInt8.ofNat x.toNat]⟩
theorem convC (w : World) (x : Int) :
    (convert 22 9 (.slice (some ⟨w.heap.size, 0, none⟩) 1 1)).run Try.prog (w.alloc (.cells #[.int .u8 x] 5)) = .ok (.string (oneC x)) (w.alloc (.cells #[.int .u8 x] 5)) :=
  run_convert_bytes_arg (P := Try.prog) (w.alloc (.cells #[.int .u8 x] 5)) 22 5 Try.underlying22 Try.underlying5 w.heap.size 0 1 1 [x] rfl (fun i hi => by
    obtain rfl : i = 0 := by omega
    simp) 9 Try.underlying9
/-- the letter of a number -/
def letterN (x : Nat) : ByteArray := oneC (97 + (x : Int))
theorem letterN_size (x : Nat) : (letterN x).size = 1 := rfl
end Go.Proofs.Ytdhaebbfiaddnaa
namespace Go.Proofs.Ytdhaebbfiaddnaa
open Go.RowKit
set_option linter.unusedVariables false
/-- WordOk as a function of plain data -/
def wordOkB (k : Int) (s : ByteArray) : Bool := inB k 1 4 && (decide (s.size ≤ 16) && allB (letB k) s)
theorem letB_low {k : Int} {c : UInt8} (h : (c.toNat : Int) < 97) : letB k c = false := by
  simp [letB, inB]; omega
theorem letB_high {k : Int} {c : UInt8} (h : 97 ≤ (c.toNat : Int)) (h2 : k ≤ (c.toNat : Int) - 97) : letB k c = false := by
  simp [letB, inB]; omega
theorem letB_true {k : Int} {c : UInt8} (h : letB k c = true) : 97 ≤ (c.toNat : Int) ∧ (c.toNat : Int) - 97 < k := by
  simp [letB, inB] at h; omega
theorem wordOk_notk {k : Int} {s : ByteArray} (h : inB k 1 4 = false) : wordOkB k s = false := by simp [wordOkB, h]
theorem wordOk_long {k : Int} {s : ByteArray} (h : 16 < s.size) : wordOkB k s = false := by
  simp [wordOkB, show ¬ s.size ≤ 16 by omega]
theorem wordOk_all {k : Int} {s : ByteArray} (h : inB k 1 4 = true) (h2 : s.size ≤ 16) : wordOkB k s = allB (letB k) s := by simp [wordOkB, h, h2]
set_option maxHeartbeats 400000 in
theorem specWordOk_any (k : Int) (s : ByteArray) (w : World) (hs : s.size ≤ maxLen) :
    Calls Try.prog 54 #[.int .i64 k, .string s] w fun e w' => e = .returned (.bool (wordOkB k s)) ∧ w = w' := by
  unfold maxLen at hs
  cases hk : inB k 1 4
  · have F := Lib.hid (wordOk_notk (s := s) hk)
    go_enter Try.func54, Try.ntmps54
    go_wp2_with (go_at_call 45; refine (l01In_any _ _ _ _).mono ?_; rintro e w' ⟨rfl, rfl⟩)
    go_ret
    exact ⟨ret_bool F.out.symm, rfl⟩
  by_cases hl : 16 < s.size
  · have F := Lib.hid (wordOk_long (k := k) hl)
    go_enter Try.func54, Try.ntmps54
    go_wp2_with (go_at_call 45; refine (l01In_any _ _ _ _).mono ?_; rintro e w' ⟨rfl, rfl⟩)
    go_ret
    exact ⟨ret_bool F.out.symm, rfl⟩
  have hl' : s.size ≤ 16 := by omega
  have G := Lib.hid (wordOk_all (s := s) hk hl')
  have ⟨hk1, hk2⟩ := inB_bounds hk
  go_enter Try.func54, Try.ntmps54
  go_wp2_with (go_at_call 45; refine (l01In_any _ _ _ _).mono ?_; rintro e w' ⟨rfl, rfl⟩)
  go_loop [5] (fun i => ∃ j : Nat, j ≤ s.size ∧ i = .int .i64 j ∧ allTo (letB k) s j = true) (fun i => s.size - (intOf i).toNat)
  case atStart => exact ⟨0, Nat.zero_le _, rfl, allTo_zero _ _⟩
  case round =>
    obtain ⟨j, hj, rfl, hall⟩ := hrel
    have H := Lib.hid hall
    clear hall
    by_cases hlt : j < s.size
    · have hb := byte_lt s[j]
      by_cases h1 : (s[j].toNat : Int) < 97
      · have F := Lib.hid (allB_at s (letB k) j hlt (letB_low h1))
        go_wp2
        go_ret
        exact ⟨ret_bool (by rw [G.out, F.out]), rfl⟩
      · by_cases h2 : k ≤ (s[j].toNat : Int) - 97
        · have F := Lib.hid (allB_at s (letB k) j hlt (letB_high (by omega) h2))
          go_wp2
          go_ret
          exact ⟨ret_bool (by rw [G.out, F.out]), rfl⟩
        · have F := Lib.hid (allTo_succ s (letB k) j hlt H.out (by simp [letB, inB]; omega))
          go_wp2
          go_round
          case rel => exact ⟨j + 1, by omega, by go_num, F.out⟩
          case measure => simp [intOf]; omega
    · have F := Lib.hid (allTo_full s (letB k) j hlt H.out)
      go_wp2
      go_ret
      exact ⟨ret_bool (by rw [G.out, F.out]), rfl⟩
/-- a byte of a pattern -/
def patB (c : UInt8) : Bool := isVarB c || letB 4 c
/-- PatternOk as a function of plain data -/
def patternOkB (s : ByteArray) : Bool := allB patB s && decide (s.size ≤ 8)
theorem one_list (s : ByteArray) (j : Nat) (h : j < s.size) : (s.extract j (j + 1)).data.toList = [s[j]] := by
  have : (s.extract j (j + 1)).data = s.data.extract j (j + 1) := by simp
  rw [this, Array.toList_extract, List.extract_eq_take_drop, show j + 1 - j = 1 by omega, List.take_one, List.head?_drop]
  rw [List.getElem?_eq_getElem (by simpa using h)]
  simp [ByteArray.getElem_eq_getElem_data]
theorem one_all (s : ByteArray) (p : UInt8 → Bool) (j : Nat) (h : j < s.size) : allB p (s.extract j (j + 1)) = p s[j] := by
  unfold allB; rw [one_list s j h]; simp
theorem one_size (s : ByteArray) (j : Nat) (h : j < s.size) : (s.extract j (j + 1)).size = 1 := by
  rw [← ByteArray.size_data, ← Array.length_toList, one_list s j h]; rfl
theorem one_wordOk (s : ByteArray) (j : Nat) (h : j < s.size) : wordOkB 4 (s.extract j (j + 1)) = letB 4 s[j] := by
  rw [wordOk_all (by decide) (by rw [one_size s j h]; omega), one_all s _ j h]
theorem patB_var {c : UInt8} (h : isVarB c = true) : patB c = true := by simp [patB, h]
theorem patB_let {c : UInt8} {b : Bool} (h : isVarB c = false) (h2 : letB 4 c = b) : patB c = b := by simp [patB, h, h2]
theorem patOk_all {s : ByteArray} (h : allB patB s = true) : decide ((s.size : Int) ≤ 8) = patternOkB s := by simp [patternOkB, h]; omega
theorem patOk_not {s : ByteArray} (h : allB patB s = false) : patternOkB s = false := by simp [patternOkB, h]
end Go.Proofs.Ytdhaebbfiaddnaa
namespace Go.Proofs.Ytdhaebbfiaddnaa
open Go.RowKit
set_option linter.unusedVariables false
theorem Try.infoStr : (Try.prog.info? 9).map (fun i => (i.zero, i.size, i.bytes)) = some (some (.string ⟨#[]⟩), 1, 16) := by kernel_rfl
theorem nil_app (x : ByteArray) : (⟨#[]⟩ : ByteArray) ++ x = x := by ext1; simp
def strVals (l : List ByteArray) : List Value := l.map Value.string
theorem strVals_len (l : List ByteArray) : (strVals l).length = l.length := by simp [strVals]
theorem owns_strs {w : World} {base : Nat} {T : TypeId} {size : Nat} {a : Option Addr} {n m cap : Nat} {l : List ByteArray} (h : w.ownsRow base T size (.slice a m cap) n (strVals l)) : StrsIn w a l := owns_cells h
theorem owns_capS {w : World} {base : Nat} {T : TypeId} {size : Nat} {a : Option Addr} {n m cap : Nat} {xs : List Value} (h : w.ownsRow base T size (.slice a n cap) m xs) : n ≤ cap ∧ cap ≤ maxLen := by
  rcases h.2 with ⟨hv, h0⟩ | ⟨g, cap', cur, hv, hb, hg, hn, hc, r⟩
  · simp only [Value.slice.injEq] at hv
    obtain ⟨_, rfl, rfl⟩ := hv
    exact ⟨Nat.le_refl _, Nat.zero_le _⟩
  · simp only [Value.slice.injEq] at hv
    obtain ⟨_, rfl, rfl⟩ := hv
    exact ⟨hn, hc⟩
/-- a full stop for the empty word -/
def dotB (s : ByteArray) : ByteArray := if s.toList.isEmpty = true then ⟨#[46]⟩ else s
theorem dotB_size (s : ByteArray) : (dotB s).size ≤ s.size + 1 := by
  unfold dotB
  split
  · show 1 ≤ _; omega
  · omega
set_option maxHeartbeats 400000 in
theorem l03Side_any (s : ByteArray) (w : World) :
    Calls Try.prog 64 #[.string s] w fun e w' => e = .returned (.string (dotB s)) ∧ w = w' := by
  cases h : s.toList.isEmpty
  · have F : Hid (dotB s = s) := Lib.hid (by simp [dotB, h])
    go_enter Try.func64, Try.ntmps64
    go_wp2_with fail
    go_ret
    exact ⟨ret_str F.out.symm, rfl⟩
  · have F : Hid (dotB s = ⟨#[46]⟩) := Lib.hid (by simp [dotB, h])
    go_enter Try.func64, Try.ntmps64
    go_wp2_with fail
    go_ret
    exact ⟨ret_str F.out.symm, rfl⟩
end Go.Proofs.Ytdhaebbfiaddnaa
namespace Go.Proofs.Ytdhaebbfiaddnaa
open Go.RowKit
set_option linter.unusedVariables false
theorem grown_alloc {w w1 : World} {r : Option Nat} (h : w.grownBy w1 r) (o : Obj) : w.grownBy (w1.alloc o) r := by
  have e := Below.heap_alloc w1 o
  exact ⟨h.os, h.tape, h.output, Nat.le_trans h.size (by simp), fun k hk hne => (e k (Nat.lt_of_lt_of_le hk h.size)).trans (h.block k hk hne)⟩
theorem CurOk.alloc {w : World} {B : Nat} {a : Option Addr} {l : List UInt8} {cap : Nat} (h : CurOk w B a l cap) (o : Obj) : CurOk (w.alloc o) B a l cap := h.later ((Below.refl _ _).alloc (Nat.le_refl _) _)
theorem CurOk.lt {w : World} {B : Nat} {a : Option Addr} {l : List UInt8} {cap : Nat} (h : CurOk w B a l cap) : B < w.heap.size := h.at_.lt
set_option maxHeartbeats 1000000 in
theorem l01Below_any (B n : Nat) (a : Option Addr) (l : List UInt8) (cap : Nat) (w : World) (h : CurOk w B a l cap) (hn : 1 ≤ n) (hn2 : n ≤ 256) :
    Calls Try.prog 43 #[.pointer (some ⟨B, 0, none⟩), .int .i64 (n : Nat)] w fun e w' => ∃ x : Nat, x < n ∧ e = .returned (.int .i64 ((x : Nat) : Int)) ∧ CurOk w' B a l cap ∧ w.grownBy w' (some B) := by
  have HB := Lib.hid (byte_cur h)
  clear h
  have h0 : ¬ (n : Int) ≤ 0 := by omega
  have h2 : (n : Int) ≤ 256 := by omega
  have hnz : ((n : Int) == 0) = false := by rw [beq_eq_false_iff_ne]; omega
  have hnz2 : ¬ (n : Int) = 0 := by omega
  go_enter Try.func43, Try.ntmps43
  go_wp2_with fail
  refine HB.out.mono ?_
  rintro e w2 ⟨x, hx, rfl, hc2, hg2⟩
  have HC := Lib.hid hc2
  have HG := Lib.hid hg2
  clear hc2 hg2 HB
  go_wp2_with fail
  go_ret
  exact ⟨x % n, Nat.mod_lt _ (by omega), ret_int (by first | rfl | simp), HC.out, HG.out⟩
theorem StrsIn.grownB {w w' : World} {B : Nat} {a : Option Addr} {l : List ByteArray} (h : StrsIn w a l) (hg : w.grownBy w' (some B)) (hne : ∀ x, a = some x → x.block ≠ B) : StrsIn w' a l := by
  rcases h with h | ⟨b, off, ha, hc⟩
  · exact .inl h
  · refine .inr ⟨b, off, ha, fun i hi => ?_⟩
    rw [World.cell?_of_block (w := w) (hg.block b (World.block_lt_of_cell? w _ (hc i hi)) (fun e => hne _ ha (Option.some.inj e)))]
    exact hc i hi
set_option maxHeartbeats 1000000 in
theorem l01Str_any (B : Nat) (a : Option Addr) (l : List UInt8) (cap : Nat) (ls : List ByteArray) (a2 : Option Addr) (cap2 : Nat) (w : World) (h : CurOk w B a l cap) (hl : StrsIn w a2 ls) (hne : ∀ x, a2 = some x → x.block ≠ B) (h1 : 1 ≤ ls.length) (h2 : ls.length ≤ 256) :
    Calls Try.prog 29 #[.pointer (some ⟨B, 0, none⟩), .slice a2 ls.length cap2] w fun e w' => ∃ i : Nat, i < ls.length ∧ e = .returned (.string (nthS ls i)) ∧ CurOk w' B a l cap ∧ w.grownBy w' (some B) := by
  have HB := Lib.hid (l01Below_any B ls.length a l cap w h h1 h2)
  have HL := Lib.hid hl
  have HN := Lib.hid hne
  clear h hl hne
  go_enter Try.func29, Try.ntmps29
  go_wp2_with fail
  refine HB.out.mono ?_
  rintro e w2 ⟨x, hx, rfl, hc2, hg2⟩
  obtain ⟨b, off, rfl, hb, hcell⟩ := (HL.out.grownB hg2 HN.out).cell hx
  have c1 := hcell x hx
  have HC := Lib.hid hc2
  have HG := Lib.hid hg2
  clear hc2 hg2 HB hcell
  go_wp2_with fail
  go_ret
  exact ⟨x, hx, rfl, HC.out, HG.out⟩
theorem StrsIn.lit (w : World) (ls : List ByteArray) : StrsIn (w.alloc (.cells (strVals ls).toArray 9)) (some ⟨w.heap.size, 0, none⟩) ls := by
  refine .inr ⟨_, _, rfl, fun i hi => ?_⟩
  rw [Nat.zero_add, World.cell?_alloc_new]
  have h2 : i < (strVals ls).length := by simpa [strVals] using hi
  show (strVals ls).toArray[i]? = some _
  rw [List.getElem?_toArray, List.getElem?_eq_getElem h2]
  rfl
/-- a literal row of strings is drawn from -/
theorem strLit_any (B : Nat) (a : Option Addr) (l : List UInt8) (cap : Nat) (ls : List ByteArray) (w : World) (h : CurOk w B a l cap) (h1 : 1 ≤ ls.length) (h2 : ls.length ≤ 256) :
    Calls Try.prog 29 #[.pointer (some ⟨B, 0, none⟩), .slice (some ⟨w.heap.size, 0, none⟩) ls.length ls.length] (w.alloc (.cells (strVals ls).toArray 9)) fun e w' => ∃ i : Nat, i < ls.length ∧ e = .returned (.string (nthS ls i)) ∧ CurOk w' B a l cap ∧ w.grownBy w' (some B) :=
  (l01Str_any B a l cap ls (some ⟨w.heap.size, 0, none⟩) ls.length _ (h.alloc _) (StrsIn.lit w ls) (fun x hx => by
    obtain rfl := Option.some.inj hx
    have := h.lt
    show w.heap.size ≠ B; omega) h1 h2).mono fun _ _ ⟨i, hi, he, hc, hg⟩ => ⟨i, hi, he, hc, grown_tr (grown_alloc ⟨rfl, rfl, rfl, Nat.le_refl _, fun _ _ _ => rfl⟩ _) hg⟩
theorem allB_app (p : UInt8 → Bool) (u v : ByteArray) : allB p (u ++ v) = (allB p u && allB p v) := by simp [allB]
end Go.Proofs.Ytdhaebbfiaddnaa
namespace Go.Proofs.Ytdhaebbfiaddnaa
open Go.RowKit
set_option linter.unusedVariables false
/-- a rule: its two sides -/
abbrev RulD := ByteArray × ByteArray
/-- the cells of rules -/
def ruleCells : List RulD → List Value
  | [] => []
  | p :: l => .string p.1 :: .string p.2 :: ruleCells l
theorem ruleCells_len : ∀ l : List RulD, (ruleCells l).length = l.length * 2
  | [] => rfl
  | p :: l => by simp only [ruleCells, List.length_cons, ruleCells_len l]; omega
theorem ruleCells_app : ∀ l m : List RulD, ruleCells (l ++ m) = ruleCells l ++ ruleCells m
  | [], m => rfl
  | p :: l, m => by simp only [List.cons_append, ruleCells, ruleCells_app l m]
/-- the rule at a place -/
def nthR (l : List RulD) (j : Nat) : RulD := l.getD j (⟨#[]⟩, ⟨#[]⟩)
theorem nthR_lt {l : List RulD} {j : Nat} (h : j < l.length) : nthR l j = l[j] := by simp [nthR, List.getD_eq_getElem?_getD, h]
theorem nthR_mem {l : List RulD} {j : Nat} (h : j < l.length) : nthR l j ∈ l := by rw [nthR_lt h]; exact List.getElem_mem h
theorem mem_nthR {l : List RulD} {r : RulD} (h : r ∈ l) : ∃ i, i < l.length ∧ nthR l i = r := by
  obtain ⟨i, hi, he⟩ := List.getElem_of_mem h
  exact ⟨i, hi, by rw [nthR_lt hi, he]⟩
theorem ruleCells_at : ∀ (l : List RulD) (j : Nat), j < l.length → (ruleCells l)[j * 2]? = some (.string (nthR l j).1) ∧ (ruleCells l)[j * 2 + 1]? = some (.string (nthR l j).2)
  | [], j, h => by simp at h
  | p :: l, 0, _ => by simp [ruleCells, nthR]
  | p :: l, j + 1, h => by
    have := ruleCells_at l j (by simpa using h)
    rw [show (j + 1) * 2 = j * 2 + 2 by omega, show j * 2 + 2 + 1 = (j * 2 + 1) + 2 by omega]
    have e1 : ∀ n, (ruleCells (p :: l))[n + 2]? = (ruleCells l)[n]? := fun n => rfl
    have e2 : nthR (p :: l) (j + 1) = nthR l j := rfl
    rw [e1, e1, e2]
    exact this
/-- a slice of rules -/
def RulesIn (w : World) (a : Option Addr) (l : List RulD) : Prop := CellsIn w a (ruleCells l)
theorem RulesIn.later {w w' : World} {a : Option Addr} {l : List RulD} (h : RulesIn w a l) (hb : Below w.heap.size w w') : RulesIn w' a l := CellsIn.later h hb
theorem RulesIn.cell {w : World} {a : Option Addr} {l : List RulD} (h : RulesIn w a l) {i : Nat} (hi : i < l.length) :
    ∃ b off, a = some ⟨b, off, none⟩ ∧ b < w.heap.size ∧ ∀ j, j < l.length → w.cell? ⟨b, off + j * 2, none⟩ = some (.string (nthR l j).1) ∧ w.cell? ⟨b, off + j * 2 + 1, none⟩ = some (.string (nthR l j).2) := by
  rcases h with h | ⟨b, off, ha, hc⟩
  · have := ruleCells_len l
    rw [h, List.length_nil] at this
    omega
  · have key : ∀ j, j < l.length → w.cell? ⟨b, off + j * 2, none⟩ = some (.string (nthR l j).1) ∧ w.cell? ⟨b, off + j * 2 + 1, none⟩ = some (.string (nthR l j).2) := fun j hj => by
      obtain ⟨h1, h2⟩ := ruleCells_at l j hj
      have hlen := ruleCells_len l
      have c1 := hc (j * 2) (by omega)
      have c2 := hc (j * 2 + 1) (by omega)
      rw [List.getElem?_eq_getElem (by omega)] at h1 h2
      rw [Option.some.inj h1] at c1
      rw [Option.some.inj h2] at c2
      exact ⟨c1, by rw [← Nat.add_assoc] at c2; exact c2⟩
    exact ⟨b, off, ha, World.block_lt_of_cell? w _ (key i hi).1, key⟩
theorem owns_rules {w : World} {base : Nat} {T : TypeId} {size : Nat} {a : Option Addr} {n m cap : Nat} {l : List RulD} (h : w.ownsRow base T size (.slice a m cap) n (ruleCells l)) : RulesIn w a l := owns_cells h
/-- the sizes of the sides -/
def ruleSum (l : List RulD) : Nat := (l.map fun r => r.1.size + r.2.size).sum
def ruleSumTo (l : List RulD) : Nat → Nat
  | 0 => 0
  | j + 1 => ruleSumTo l j + ((nthR l j).1.size + (nthR l j).2.size)
theorem ruleSumTo_eq (l : List RulD) : ∀ j, j ≤ l.length → ruleSumTo l j = ((l.take j).map fun r => r.1.size + r.2.size).sum
  | 0, _ => by simp [ruleSumTo]
  | j + 1, h => by
    rw [ruleSumTo, ruleSumTo_eq l j (by omega), List.take_succ_eq_append_getElem (by omega), nthR_lt (by omega), List.map_append, List.sum_append]
    simp only [List.map_cons, List.map_nil, List.sum_cons, List.sum_nil, Nat.add_zero]
theorem ruleSumTo_all (l : List RulD) : ruleSumTo l l.length = ruleSum l := by rw [ruleSumTo_eq l _ (Nat.le_refl _), List.take_length]; rfl
theorem ruleSumTo_mono (l : List RulD) {i j : Nat} (h : i ≤ j) : ruleSumTo l i ≤ ruleSumTo l j := by
  induction h with
  | refl => exact Nat.le_refl _
  | step h ih => exact Nat.le_trans ih (by simp [ruleSumTo])
theorem ruleSum_at {l : List RulD} {j : Nat} (h : j < l.length) : (nthR l j).1.size + (nthR l j).2.size ≤ ruleSum l := by
  have h1 := ruleSumTo_mono l (show j + 1 ≤ l.length from h)
  rw [ruleSumTo_all] at h1
  have : ruleSumTo l (j + 1) = ruleSumTo l j + ((nthR l j).1.size + (nthR l j).2.size) := rfl
  omega
end Go.Proofs.Ytdhaebbfiaddnaa
