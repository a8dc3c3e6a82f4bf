/-
  One row appended to a copy of another, in a region that draws its order.
-/
import Derived.Test.YtmgdglghjlggnaaGreatGway03
import Derived.Deep.AppendSrc
import Derived.Test.YtmgdglghjlggnaaGreatGway15
import Derived.IntWalk
namespace Go.Proofs.YtmgdglghjlggnaaGreat
open Go.RowKit
set_option linter.unusedVariables false
/-- a slice of n elements somewhere in a block from base on -/
def ownsOff (w : World) (base : Nat) (T : TypeId) (size : Nat) (v : Value) (n : Nat) (xs : List Value) : Prop :=
  xs.length = n * size ∧ ((v = .slice none 0 0 ∧ n = 0) ∨ ∃ g o cap cur, v = .slice (some ⟨g, o, none⟩) n cap ∧ base ≤ g ∧ w.heap[g]? = some (.cells cur T (0, 0)) ∧ n ≤ cap ∧ cap ≤ maxLen ∧ o + cap * size ≤ cur.size ∧ (cur.toList.drop o).take (n * size) = xs)
section
variable {w : World} {base : Nat} {T : TypeId} {size : Nat} {v : Value} {n : Nat} {xs : List Value}
theorem ownsOff.of_row (h : w.ownsRow base T size v n xs) : ownsOff w base T size v n xs := by
  refine ⟨h.1, ?_⟩
  rcases h.2 with h' | ⟨g, cap, cur, hv, hb, hg, hn, hc, hs, ht⟩
  · exact .inl h'
  · exact .inr ⟨g, 0, cap, cur, hv, hb, hg, hn, hc, by omega, by rw [List.drop_zero]; exact ht⟩
theorem ownsOff.form (h : ownsOff w base T size v n xs) : ∃ a cap, v = .slice a n cap := by
  rcases h.2 with ⟨hv, h0⟩ | ⟨g, o, cap, cur, hv, _⟩
  · exact ⟨none, 0, by rw [hv, h0]⟩
  · exact ⟨_, _, hv⟩
theorem ownsOff.lt (h : ownsOff w base T size v n xs) : ∀ k, v.ownBlock = some k → base ≤ k ∧ k < w.heap.size := by
  intro k hk
  rcases h.2 with ⟨rfl, _⟩ | ⟨g, o, cap, cur, rfl, hb, hg, _⟩
  · simp [Value.ownBlock] at hk
  · simp [Value.ownBlock] at hk
    subst hk
    exact ⟨hb, (Array.getElem?_eq_some_iff.1 hg).1⟩
theorem ownsOff.kept {w' : World} {row : Option Nat} (h : ownsOff w base T size v n xs) (hg : w.grownBy w' row) (hne : v.ownBlock = none ∨ v.ownBlock ≠ row) : ownsOff w' base T size v n xs := by
  refine ⟨h.1, ?_⟩
  rcases h.2 with hn | ⟨g, o, cap, cur, rfl, hb, hgg, rest⟩
  · exact .inl hn
  · refine .inr ⟨g, o, cap, cur, rfl, hb, ?_, rest⟩
    rw [hg.block g (Array.getElem?_eq_some_iff.1 hgg).1 (by simpa [Value.ownBlock] using hne)]
    exact hgg
theorem ownsOff.later {w' : World} (h : ownsOff w base T size v n xs) (hb : Below w.heap.size w w') : ownsOff w' base T size v n xs :=
  h.kept (row := none) ⟨hb.os, hb.tape, hb.output, hb.size, fun k hk _ => hb.block k hk⟩ (by cases h : v.ownBlock <;> simp)
theorem ownsOff.cellAt {g o cap : Nat} (h : ownsOff w base T size (.slice (some ⟨g, o, none⟩) n cap) n xs) : ∀ j u, xs[j]? = some u → w.cell? ⟨g, o + j, none⟩ = some u := by
  intro j u hu
  rcases h.2 with ⟨hv, _⟩ | ⟨g', o', cap', cur, hv, _, hgg, _, _, _, ht⟩
  · simp at hv
  · simp only [Value.slice.injEq, Option.some.injEq, Addr.mk.injEq] at hv
    obtain ⟨⟨rfl, rfl, _⟩, _, rfl⟩ := hv
    rw [cell_of_row w g _ cur T (0, 0) hgg]
    rw [← ht, List.getElem?_take] at hu
    split at hu
    · rw [List.getElem?_drop] at hu
      simpa using hu
    · cases hu
theorem ownsOff.cells {a : Option Addr} {cap : Nat} (h : ownsOff w base T size (.slice a n cap) n xs) : CellsIn w a xs := by
  rcases h.2 with ⟨hv, h0⟩ | ⟨g, o, cap', cur, hv, _⟩
  · exact .inl (List.eq_nil_of_length_eq_zero (by rw [h.1, h0, Nat.zero_mul]))
  · simp only [Value.slice.injEq] at hv
    obtain ⟨rfl, _, rfl⟩ := hv
    refine .inr ⟨g, o, rfl, fun i hi => ?_⟩
    exact h.cellAt i _ (List.getElem?_eq_getElem hi)
/-- all but the first element -/
theorem ownsOff.tail {g o cap : Nat} {x : List Value} (h : ownsOff w base T size (.slice (some ⟨g, o, none⟩) (n + 1) cap) (n + 1) (x ++ xs)) (hx : x.length = size) : ownsOff w base T size (.slice (some ⟨g, o + size, none⟩) n (cap - 1)) n xs := by
  have h1 := h.1
  rw [List.length_append, hx, Nat.succ_mul] at h1
  refine ⟨by omega, ?_⟩
  rcases h.2 with ⟨hv, _⟩ | ⟨g', o', cap', cur, hv, hb, hgg, hn, hc, hs, ht⟩
  · simp at hv
  · simp only [Value.slice.injEq, Option.some.injEq, Addr.mk.injEq] at hv
    obtain ⟨⟨rfl, rfl, _⟩, _, rfl⟩ := hv
    obtain ⟨c, rfl⟩ : ∃ c, cap = c + 1 := ⟨cap - 1, by omega⟩
    rw [Nat.succ_mul] at hs
    refine .inr ⟨g, o + size, c, cur, by rw [Nat.add_sub_cancel], hb, hgg, by omega, by omega, by omega, ?_⟩
    rw [← List.drop_drop]
    have h2 : ((cur.toList.drop o).take ((n + 1) * size)).drop size = xs := by rw [ht, ← hx, List.drop_left]
    rw [List.drop_take] at h2
    rw [← h2]
    congr 1
    rw [Nat.succ_mul]
    omega
/-- nothing of a slice of one element -/
theorem ownsOff.none_left {g o cap : Nat} {x : List Value} (h : ownsOff w base T size (.slice (some ⟨g, o, none⟩) 1 cap) 1 x) : ownsOff w base T size (.slice (some ⟨g, o, none⟩) 0 0) 0 [] := by
  refine ⟨by simp, ?_⟩
  rcases h.2 with ⟨hv, _⟩ | ⟨g', o', cap', cur, hv, hb, hgg, hn, hc, hs, ht⟩
  · simp at hv
  · simp only [Value.slice.injEq, Option.some.injEq, Addr.mk.injEq] at hv
    obtain ⟨⟨rfl, rfl, _⟩, _, rfl⟩ := hv
    exact .inr ⟨g, o, 0, cur, rfl, hb, hgg, Nat.le_refl _, Nat.zero_le _, by omega, by simp⟩
end
section
variable {P : Program}
theorem src_of {w : World} {x : Value} {m size : Nat} {news : List Value} {tx e' : TypeId} (hk : P.underlying tx = some (.slice e')) (h : Src w x m news) (hl : news.length = m * size) (h1 : ∀ u ∈ news, u.oneCell' = true) : Go.Src P size tx x m news w := by
  rcases h with ⟨rfl, rfl, rfl⟩ | ⟨ad, c, rfl, hc⟩
  · exact Go.Src.ofNil w hk 0
  · exact Go.Src.ofSlice w hk ad m c news hl hc h1
theorem run_append_off {tsl ty T : TypeId} {z : Value} {size bytes : Nat} (ht : P.underlying tsl = some (.slice T)) (hinfo : (P.info? T).map (fun i => (i.zero, i.size, i.bytes)) = some (some z, size, bytes))
    (hzs : z.cells.size = size) (hpos : 0 < size) {w : World} {base : Nat} {v x : Value} {n m : Nat} {xs news : List Value} (hb : ownsOff w base T size v n xs) (hbase : base ≤ w.heap.size) (hS : Go.Src P size tsl x m news w) (h63 : n + m ≤ maxLen) (hbytes : (n + m) * bytes ≤ 140737488355328) :
    ∃ v' w', (Builtin.append_ #[tsl, tsl] ty #[v, x]).run P w = .ok v' w' ∧ ownsOff w' base T size v' (n + m) (xs ++ news) ∧ w.grownBy w' v.ownBlock := by
  have hn := hS.newsLen
  have h1 := hS.one
  obtain ⟨i, hi, hz, hsize, hby⟩ := info_parts hinfo
  subst hsize
  subst hby
  have hlen : (xs ++ news).length = (n + m) * i.size := by rw [List.length_append, hb.1, hn, Nat.add_mul]
  have h63' : ((n + m : Nat) : Int) ≤ 9223372036854775807 := by simp only [maxLen] at h63; omega
  have grown : ∀ (base0 : Option Addr) (cap : Nat), cap < n + m → (Builtin.firstCells i.size n (.slice base0 n cap)).run P w.drew = .ok xs.toArray w.drew → ∀ row,
      ∃ v' w', (Builtin.append_ #[tsl, tsl] ty #[.slice base0 n cap, x]).run P w = .ok v' w' ∧ ownsOff w' base T i.size v' (n + m) (xs ++ news) ∧ w.grownBy w' row := by
    intro base0 cap hg hold row
    have hr := run_append_grow_src (P := P) w tsl tsl ty T i z ht hi hz base0 n cap xs hold x m news hS hg h63' (growslice_fits hg hbytes)
    have hge := grownCap_ge w (n + m) cap T
    have hcm : grownCap w (n + m) cap T ≤ maxLen := grownCap_le_maxLen w (n + m) cap T h63
    refine ⟨_, _, hr, ownsOff.of_row ⟨hlen, .inr ⟨w.heap.size, _, _, rfl, hbase, heap_alloc_new w.drew _, hge, hcm, ?_, ?_⟩⟩, ⟨rfl, rfl, rfl, by simp, fun k hk _ => heap_alloc_old w.drew _ hk⟩⟩
    · simp only [Array.size_append, List.size_toArray, size_zeroCells, hzs, hlen, ← Nat.add_mul]
      congr 1
      omega
    · simp only [Array.toList_append, List.append_assoc]
      rw [← List.append_assoc, ← hlen]
      exact List.take_left
  rcases hb.2 with ⟨rfl, rfl⟩ | ⟨g, o, cap, cur, rfl, hbg, hg, hnc, hcm, hcs, htake⟩
  · have hxs : xs = [] := List.eq_nil_of_length_eq_zero (by simpa using hb.1)
    subst hxs
    by_cases hm : m = 0
    · subst hm
      have hnn : news = [] := List.eq_nil_of_length_eq_zero (by simpa using hn)
      subst hnn
      refine ⟨.slice none 0 0, w, ?_, hb, ⟨rfl, rfl, rfl, Nat.le_refl _, fun _ _ _ => rfl⟩⟩
      simp [Builtin.append_, run_underlying ht, sizeOf, typeInfo, hi, hS.len, hS.cells]
    · refine grown none 0 (by omega) ?_ _
      simp [Builtin.firstCells]
  · by_cases hroom : n + m ≤ cap
    · have hfit : o + n * i.size + news.length ≤ cur.size := by
        rw [hn, Nat.add_assoc, ← Nat.add_mul]
        exact Nat.le_trans (Nat.add_le_add_left (Nat.mul_le_mul_right _ hroom) _) hcs
      have hst := run_storeCells_at P g (o + n * i.size) T news 0 cur w hg (by simpa using hfit) h1
      simp only [Nat.add_zero] at hst
      have hr : (Builtin.append_ #[tsl, tsl] ty #[.slice (some ⟨g, o, none⟩) n cap, x]).run P w = .ok (.slice (some ⟨g, o, none⟩) (n + m) cap) (w.setRow g (cur.toList.take (o + n * i.size) ++ news ++ cur.toList.drop (o + n * i.size + news.length)).toArray) := by
        simp [Builtin.append_, run_underlying ht, sizeOf, typeInfo, hi, hS.len, hroom, hS.cells, Addr.add_lit, hst]
      refine ⟨_, _, hr, ⟨hlen, .inr ⟨g, o, cap, _, rfl, hbg, setRow_heap w g cur _ T _ hg, hroom, hcm, ?_, ?_⟩⟩, ⟨rfl, rfl, rfl, by simp, fun k _ hk => setRow_other w g k _ (fun e => hk (by simp [Value.ownBlock, e]))⟩⟩
      · simp only [List.size_toArray, List.length_append, List.length_take, List.length_drop, Array.length_toList]
        omega
      · have e1 : (cur.toList.take (o + n * i.size)).drop o = xs := by rw [List.drop_take, Nat.add_sub_cancel_left, htake]
        have e2 : (cur.toList.take (o + n * i.size)).length = o + n * i.size := by rw [List.length_take, Array.length_toList]; omega
        have e3 : ((cur.toList.take (o + n * i.size) ++ news ++ cur.toList.drop (o + n * i.size + news.length)).toArray.toList).drop o = xs ++ news ++ cur.toList.drop (o + n * i.size + news.length) := by
          show (cur.toList.take (o + n * i.size) ++ news ++ cur.toList.drop (o + n * i.size + news.length)).drop o = _
          rw [List.append_assoc, List.drop_append_of_le_length (by omega), e1, List.append_assoc]
        rw [e3, ← hlen]
        exact List.take_left
    · refine grown (some ⟨g, o, none⟩) cap (by omega) ?_ _
      have hc := hb.cellAt
      have := run_firstCells_some (P := P) w.drew i.size n ⟨g, o, none⟩ n cap xs hb.1 (fun j u hu => by rw [add_off]; simpa using hc j u hu)
      exact this
theorem wpList_append_off {ops : Array Oper} {rest : List Oper} {o : Oper} {a : Act} {Q : Exit → Act → World → Prop} {T tsl : TypeId} {z : Value} {size bytes : Nat} (hgd : o.guard = none) (s x : Operand)
    (ho : o.op = .call { callee := .builtin .append, args := #[s, x], argTypes := #[tsl, tsl] }) (ht : P.underlying tsl = some (.slice T)) (hinfo : (P.info? T).map (fun i => (i.zero, i.size, i.bytes)) = some (some z, size, bytes))
    (hzs : z.cells.size = size) (hpos : 0 < size) {w : World} {base : Nat} {v u : Value} {n m : Nat} {xs news : List Value} (hs : a.eval s = v) (hb : ownsOff w base T size v n xs) (hbase : base ≤ w.heap.size) (hx : a.eval x = u) (hsrc : Go.Src P size tsl u m news w) (h63 : n + m ≤ maxLen) (hbytes : (n + m) * bytes ≤ 140737488355328)
    (hK : ∀ v' w', ownsOff w' base T size v' (n + m) (xs ++ news) → w.grownBy w' v.ownBlock → wpList P ops Q rest (a.put o.dst v') w') : wpList P ops Q (o :: rest) a w := by
  refine wpList_plain hgd fun K hK' => ?_
  obtain ⟨v', w', hr, h2, h3⟩ := run_append_off (P := P) (ty := o.type) ht hinfo hzs hpos hb hbase hsrc h63 hbytes
  unfold Oper.wp
  simp [execOp, ho, resolve, invoke, builtin, hs, hx, hr, Result.andThen]
  exact hK' _ _ (hK v' w' h2 h3)
end
end Go.Proofs.YtmgdglghjlggnaaGreat
namespace Go.Proofs.YtmgdglghjlggnaaGreat
open Go.RowKit
set_option linter.unusedVariables false
/-- the record at block g since w: its first field x, its second one the slice v of n elements with the cells xs -/
structure Rec2 (TT T : TypeId) (size : Nat) (w wr : World) (g : Nat) (x v : Value) (n : Nat) (xs : List Value) : Prop where
  blk : wr.heap[g]? = some (.cells #[x, v] TT (0, 0))
  own : wr.ownsRow (g + 1) T size v n xs
  le : w.heap.size ≤ g
  below : Below w.heap.size w wr
section
variable {TT T : TypeId} {size : Nat} {w wr : World} {g : Nat} {x v : Value} {n : Nat} {xs : List Value}
theorem rec_cells {W : World} {b : Nat} {x y : Value} {T : TypeId} (h : W.heap[b]? = some (.cells #[x, y] T (0, 0))) : W.cell? ⟨b, 0, none⟩ = some x ∧ W.cell? ⟨b, 1, none⟩ = some y ∧ W.frozen? ⟨b, 0, none⟩ = false ∧ W.frozen? ⟨b, 1, none⟩ = false := by
  refine ⟨by simp [World.cell?, h], by simp [World.cell?, h], by simp [World.frozen?, h], by simp [World.frozen?, h]⟩
theorem Rec2.facts (h : Rec2 TT T size w wr g x v n xs) : wr.cell? ⟨g, 0, none⟩ = some x ∧ wr.cell? ⟨g, 1, none⟩ = some v ∧ wr.frozen? ⟨g, 0, none⟩ = false ∧ wr.frozen? ⟨g, 1, none⟩ = false := rec_cells h.blk
theorem Rec2.lt (h : Rec2 TT T size w wr g x v n xs) : g < wr.heap.size := (Array.getElem?_eq_some_iff.1 h.blk).1
theorem Rec2.later {wr' : World} (h : Rec2 TT T size w wr g x v n xs) (hb : Below wr.heap.size wr wr') : Rec2 TT T size w wr' g x v n xs :=
  ⟨(hb.block g h.lt).trans h.blk, owns_later h.own hb, h.le, Below.now h.below hb⟩
theorem Rec2.far (h : Rec2 TT T size w wr g x v n xs) : v.ownBlock ≠ some g := fun e => by have := (h.own.lt g e).1; omega
/-- what a new record is, its slice nil -/
theorem Rec2.start (TT T : TypeId) (size : Nat) {w w1 : World} (hb : Below w.heap.size w w1) (x : Value) : Rec2 TT T size w (w1.alloc (.cells #[x, .slice none 0 0] TT)) w1.heap.size x (.slice none 0 0) 0 [] :=
  ⟨alloc_at _ _, World.ownsRow_nil _ _ _ _, hb.size, hb.alloc hb.size _⟩
/-- the cells of the record once the slice has been appended to -/
theorem Rec2.grown {w2 w4 : World} {ob : Obj} (h : Rec2 TT T size w wr g x v n xs) (hb : Below wr.heap.size wr w2) (hg : (w2.alloc ob).grownBy w4 v.ownBlock) : w4.heap[g]? = some (.cells #[x, v] TT (0, 0)) := by
  have h2 := h.later (hb.alloc hb.size ob)
  exact (hg.block g h2.lt (fun e => h.far e.symm)).trans h2.blk
/-- the slice that was appended to is stored -/
theorem Rec2.put {w2 w4 : World} {ob : Obj} {v' : Value} {m : Nat} {ys : List Value} (h : Rec2 TT T size w wr g x v n xs) (hb : Below wr.heap.size wr w2) (hg : (w2.alloc ob).grownBy w4 v.ownBlock) (hn : w4.ownsRow (g + 1) T size v' m ys) :
    Rec2 TT T size w (w4.setCell ⟨g, 1, none⟩ v') g x v' m ys := by
  have h2 := h.later (hb.alloc hb.size ob)
  have h4 := h.grown hb hg
  have b4 : Below w.heap.size w w4 := h2.below.grown hg h2.below.size (fun k hk => by have := (h.own.lt k hk).1; have := h.le; omega)
  refine ⟨?_, ownsRow_setCell_below hn (by show g < g + 1; omega) _, h.le, b4.setCell h.le _⟩
  unfold World.setCell
  simp [Array.getElem?_modify, h4]
end
section
variable {P : Program}
/-- append of one element to a row that lies from H on, at a step of a region that draws its order -/
theorem step_appH {ops : Array Oper} {o : Oper} {a : Act} {K : Act → World → Prop} {Q : Exit → Act → World → Prop} {E : Prop} {T tsl : TypeId} {z : Value} {size bytes : Nat} (hg : o.guard = none) (s x : Operand)
    (ho : o.op = .call { callee := .builtin .append, args := #[s, x], argTypes := #[tsl, tsl] }) (ht : P.underlying tsl = some (.slice T)) (hinfo : (P.info? T).map (fun i => (i.zero, i.size, i.bytes)) = some (some z, size, bytes))
    (hzs : z.cells.size = size) (hpos : 0 < size) {H : Nat} {wr : World} {v : Value} {n : Nat} {xs news : List Value} (hs : a.eval s = v) (hb : wr.ownsRow H T size v n xs) (hH : H ≤ wr.heap.size) (hx : a.eval x = .slice (some ⟨wr.heap.size, 0, none⟩) 1 1)
    (hn : news.length = size) (h1 : ∀ u ∈ news, u.oneCell' = true) (h63 : n + 1 ≤ maxLen) (hbytes : (n + 1) * bytes ≤ 140737488355328)
    (hK : ∀ g cap w', w'.ownsRow H T size (.slice (some ⟨g, 0, none⟩) (n + 1) cap) (n + 1) (xs ++ news) → (wr.alloc (.cells news.toArray T)).grownBy w' v.ownBlock → K (a.put o.dst (.slice (some ⟨g, 0, none⟩) (n + 1) cap)) w') :
    if Region.wanted o (yielded ops a.tmps) = true then Oper.wp P o a (wr.alloc (.cells news.toArray T)) K Q else E := by
  obtain ⟨i0, hi, hz0, hz1, hz2⟩ := info_parts hinfo
  refine step_append_lies (w := wr.alloc (.cells news.toArray T)) hg s x tsl ho H T i0 z size bytes ht hi hz0 hz1 hz2 hzs hpos v n xs hs (hb.alloc _) ⟨wr.heap.size, 0, none⟩ 1 1 news hx (by omega) ?_ h1 (by omega) h63 hbytes ?_ _ rfl ?_
  · intro j u hu
    have hadd : (⟨wr.heap.size, 0, none⟩ : Addr).add j = ⟨wr.heap.size, j, none⟩ := by unfold Addr.add; split <;> simp_all
    rw [hadd, World.cell?_alloc_new]
    simpa using hu
  · simp; omega
  · intro g cap w' hown hgr ho _
    exact hK g cap w' hown hgr
end
end Go.Proofs.YtmgdglghjlggnaaGreat
namespace Go.Proofs.YtmgdglghjlggnaaGreat
open Go.RowKit
set_option linter.unusedVariables false
end Go.Proofs.YtmgdglghjlggnaaGreat
namespace Go.Proofs.YtmgdglghjlggnaaGreat
open Go.RowKit
set_option linter.unusedVariables false
theorem ownsOff.mono {w : World} {base base' : Nat} {T : TypeId} {size : Nat} {v : Value} {n : Nat} {xs : List Value} (h : ownsOff w base T size v n xs) (hb : base' ≤ base) : ownsOff w base' T size v n xs := by
  refine ⟨h.1, ?_⟩
  rcases h.2 with h' | ⟨g, o, cap, cur, hv, hb', r⟩
  · exact .inl h'
  · exact .inr ⟨g, o, cap, cur, hv, by omega, r⟩
theorem off_empty (T : TypeId) (size : Nat) (w1 : World) : ∀ W, Below (w1.alloc (.cells #[] T)).heap.size (w1.alloc (.cells #[] T)) W → ownsOff W w1.heap.size T size (.slice (some ⟨w1.heap.size, 0, none⟩) 0 0) 0 [] := fun W h => (ownsOff.of_row (Bld.empty T size w1).1).later h
theorem alloc_two (w1 : World) (o o2 : Obj) : ((w1.alloc o).alloc o2).heap[w1.heap.size]? = some o ∧ ((w1.alloc o).alloc o2).heap[w1.heap.size + 1]? = some o2 := by
  have h1 := alloc_at w1 o
  have h2 := alloc_at (w1.alloc o) o2
  have e : (w1.alloc o).heap.size = w1.heap.size + 1 := by simp
  rw [e] at h2
  exact ⟨by rw [(alloc_belowS (w1.alloc o) o2).block w1.heap.size (by rw [e]; omega)]; exact h1, h2⟩
/-- the two fields of a box are set -/
theorem set_two {W : World} {g : Nat} {x y : Value} {T : TypeId} (h : W.heap[g]? = some (.cells #[x, y] T (0, 0))) (u v : Value) : ((W.setCell ⟨g, 0, none⟩ u).setCell ⟨g, 1, none⟩ v).heap[g]? = some (.cells #[u, v] T (0, 0)) := by
  unfold World.setCell
  simp [Array.getElem?_modify, h]
end Go.Proofs.YtmgdglghjlggnaaGreat
namespace Go.Proofs.YtmgdglghjlggnaaGreat
open Go.RowKit
set_option linter.unusedVariables false
theorem alloc_new (w : World) (o : Obj) : (w.alloc o).heap[w.heap.size]? = some o := by
  unfold World.alloc; simp
theorem alloc_old (w : World) (o : Obj) {k : Nat} (h : k < w.heap.size) : (w.alloc o).heap[k]? = w.heap[k]? := by
  unfold World.alloc; rw [Array.getElem?_push_lt h, Array.getElem?_eq_getElem h]
theorem alloc_size (w : World) (o : Obj) : (w.alloc o).heap.size = w.heap.size + 1 := by simp
theorem two_lo (w : World) (o o' : Obj) : ((w.alloc o).alloc o').heap[w.heap.size]? = some o := by
  rw [alloc_old _ _ (by rw [alloc_size]; omega)]; exact alloc_new _ _
theorem two_hi (w : World) (o o' : Obj) : ((w.alloc o).alloc o').heap[w.heap.size + 1]? = some o' := by
  rw [← alloc_size w o]; exact alloc_new _ _
theorem bld_at {T : TypeId} {wr W : World} {H : Nat} (hb : Below wr.heap.size wr W) (hH : W.heap[H]? = some (.cells #[] T (0, 0))) (hge : wr.heap.size ≤ H) : Bld T 1 wr W (.slice (some ⟨H, 0, none⟩) 0 0) 0 [] :=
  ⟨⟨rfl, .inr ⟨H, 0, #[], rfl, hge, hH, Nat.le_refl _, Nat.zero_le _, rfl, rfl⟩⟩, hb⟩
theorem src_at {T : TypeId} {W : World} {H : Nat} {y : Value} (hH : W.heap[H]? = some (.cells #[y] T (0, 0))) : Src W (.slice (some ⟨H, 0, none⟩) 1 1) 1 [y] := by
  refine .inr ⟨_, _, rfl, fun j u hu => ?_⟩
  have hj : j = 0 := by have := (List.getElem?_eq_some_iff.1 hu).1; simp at this; omega
  subst hj
  rw [add_off]
  simp at hu
  simp [World.cell?, hH, hu]
theorem Src.grown {w w' : World} {H m c : Nat} {own : Option Nat} {news : List Value} (h : Src w (.slice (some ⟨H, 0, none⟩) m c) m news) (hg : w.grownBy w' own) (hH : H < w.heap.size) (hne : own ≠ some H) : Src w' (.slice (some ⟨H, 0, none⟩) m c) m news := by
  rcases h with ⟨h, _⟩ | ⟨ad, c', hx, hc⟩
  · cases h
  · simp only [Value.slice.injEq, Option.some.injEq, true_and] at hx
    obtain ⟨rfl, rfl⟩ := hx
    refine .inr ⟨_, _, rfl, fun j u hu => ?_⟩
    rw [add_off]
    have h1 := hc j u hu
    rw [add_off] at h1
    rw [World.cell?_of_block (w := w) (hg.block H hH (fun e => hne e.symm))]
    exact h1
section
variable {P : Program}
/-- the same where the operation is guarded -/
theorem step_appM_g {ops : Array Oper} {o : Oper} {a : Act} {K : Act → World → Prop} {Q : Exit → Act → World → Prop} {E : Prop} {T tsl : TypeId} {z : Value} {size bytes : Nat} (hw : Region.wanted o (yielded ops a.tmps) = true) (s x : Operand)
    (ho : o.op = .call { callee := .builtin .append, args := #[s, x], argTypes := #[tsl, tsl] }) (ht : P.underlying tsl = some (.slice T)) (hinfo : (P.info? T).map (fun i => (i.zero, i.size, i.bytes)) = some (some z, size, bytes))
    (hzs : z.cells.size = size) (hpos : 0 < size) {w wr : World} {v u : Value} {n m : Nat} {xs news : List Value} (hs : a.eval s = v) (hb : Bld T size w wr v n xs) (hx : a.eval x = u) (hsrc : Src wr u m news)
    (hn : news.length = m * size) (h1 : ∀ u ∈ news, u.oneCell' = true) (h63 : n + m ≤ maxLen) (hbytes : (n + m) * bytes ≤ 140737488355328)
    (hK : ∀ v' w', Bld T size w w' v' (n + m) (xs ++ news) → wr.grownBy w' v.ownBlock → (v'.ownBlock = v.ownBlock ∨ v'.ownBlock = some wr.heap.size) → K (a.put o.dst v') w') : if Region.wanted o (yielded ops a.tmps) = true then Oper.wp P o a wr K Q else E := by
  rw [if_pos hw]
  obtain ⟨v', w', hr, h2, h3, h4⟩ := run_appM (ty := o.type) ht hinfo hzs hpos hb hsrc hn h1 h63 hbytes
  unfold Oper.wp execOp
  simp only [ho, resolve, invoke, builtin, Sem.run_bind, Sem.run_pure, Result.andThen_ok, List.map_toArray, List.map_cons, List.map_nil, hs, hx, hr]
  exact hK _ _ h2 h3 h4
theorem step_appM_gby {ops : Array Oper} {o : Oper} {a : Act} {K : Act → World → Prop} {Q : Exit → Act → World → Prop} {E : Prop} {T tsl : TypeId} {z : Value} {bytes : Nat} (hg : Region.wanted o (yielded ops a.tmps) = true) (s x : Operand)
    (ho : o.op = .call { callee := .builtin .append, args := #[s, x], argTypes := #[tsl, tsl] }) (ht : P.underlying tsl = some (.slice T)) (hinfo : (P.info? T).map (fun i => (i.zero, i.size, i.bytes)) = some (some z, 1, bytes))
    (hzs : z.cells.size = 1) {w wr : World} {H H2 : Nat} {u y : Value} {m : Nat} {news : List Value} (hs : a.eval s = .slice (some ⟨H, 0, none⟩) 0 0) (hb : Bld T 1 w wr (.slice (some ⟨H, 0, none⟩) 0 0) 0 []) (hx : a.eval x = u) (hsrc : Src wr u m news)
    (hy : Src wr (.slice (some ⟨H2, 0, none⟩) 1 1) 1 [y]) (hH : H ≠ H2) (hH2 : H2 < wr.heap.size)
    (hn : news.length = m) (h1 : ∀ u ∈ news, u.oneCell' = true) (h63 : m ≤ maxLen) (hbytes : m * bytes ≤ 140737488355328)
    (hK : ∀ v' w', Bld T 1 w w' v' m news → Src w' (.slice (some ⟨H2, 0, none⟩) 1 1) 1 [y] → K (a.put o.dst v') w') : if Region.wanted o (yielded ops a.tmps) = true then Oper.wp P o a wr K Q else E := by
  refine step_appM_g hg s x ho ht hinfo hzs (by omega) hs hb hx hsrc (by omega) h1 (by omega) (by rw [Nat.zero_add]; exact hbytes) fun v' w' h2 hgr _ => ?_
  rw [Nat.zero_add, List.nil_append] at h2
  exact hK v' w' h2 (hy.grown hgr hH2 (fun e => hH (by simpa [Value.ownBlock] using e)))
end
theorem owns_strsIn2 {w : World} {base : Nat} {T : TypeId} {a : Option Addr} {n cap : Nat} {l : List ByteArray} (h : w.ownsRow base T 1 (.slice a n cap) n (strVals l)) : StrsIn w a l := owns_cells h
theorem strsIn_app {w : World} {base g n cap : Nat} {T : TypeId} {l : List ByteArray} {x : ByteArray} (h : w.ownsRow base T 1 (.slice (some ⟨g, 0, none⟩) n cap) n (strVals l ++ [.string x])) : StrsIn w (some ⟨g, 0, none⟩) (l ++ [x]) := by
  refine owns_strsIn2 (n := n) (cap := cap) (base := base) (T := T) ?_
  unfold strVals at *
  rw [List.map_append]; exact h
end Go.Proofs.YtmgdglghjlggnaaGreat
