/-
  l06Copy of the reference.
-/
import Derived.Test.YtgoeadgpbidgiaaGreatClp04
import Derived.Deep.AppendSrc
import Derived.Test.YtgoeadgpbidgiaaGreatClp14
import Derived.Test.YtgoeadgpbidgiaaGreatClp12
import Derived.IntWalk
namespace Go.Proofs.YtgoeadgpbidgiaaGreat
open Go.RowKit
set_option linter.unusedVariables false
/-- a slice of n elements somewhere in a block from base on -/
def ownsOff (w : World) (base : Nat) (T : TypeId) (size : Nat) (v : Value) (n : Nat) (xs : List Value) : Prop :=
  xs.length = n * size ∧ ((v = .slice none 0 0 ∧ n = 0) ∨ ∃ g o cap cur, v = .slice (some ⟨g, o, none⟩) n cap ∧ base ≤ g ∧ w.heap[g]? = some (.cells cur T (0, 0)) ∧ n ≤ cap ∧ cap ≤ maxLen ∧ o + cap * size ≤ cur.size ∧ (cur.toList.drop o).take (n * size) = xs)
section
variable {w : World} {base : Nat} {T : TypeId} {size : Nat} {v : Value} {n : Nat} {xs : List Value}
theorem ownsOff.of_row (h : w.ownsRow base T size v n xs) : ownsOff w base T size v n xs := by
  refine ⟨h.1, ?_⟩
  rcases h.2 with h' | ⟨g, cap, cur, hv, hb, hg, hn, hc, hs, ht⟩
  · exact .inl h'
  · exact .inr ⟨g, 0, cap, cur, hv, hb, hg, hn, hc, by omega, by rw [List.drop_zero]; exact ht⟩
theorem ownsOff.form (h : ownsOff w base T size v n xs) : ∃ a cap, v = .slice a n cap := by
  rcases h.2 with ⟨hv, h0⟩ | ⟨g, o, cap, cur, hv, _⟩
  · exact ⟨none, 0, by rw [hv, h0]⟩
  · exact ⟨_, _, hv⟩
theorem ownsOff.lt (h : ownsOff w base T size v n xs) : ∀ k, v.ownBlock = some k → base ≤ k ∧ k < w.heap.size := by
  intro k hk
  rcases h.2 with ⟨rfl, _⟩ | ⟨g, o, cap, cur, rfl, hb, hg, _⟩
  · simp [Value.ownBlock] at hk
  · simp [Value.ownBlock] at hk
    subst hk
    exact ⟨hb, (Array.getElem?_eq_some_iff.1 hg).1⟩
theorem ownsOff.kept {w' : World} {row : Option Nat} (h : ownsOff w base T size v n xs) (hg : w.grownBy w' row) (hne : v.ownBlock = none ∨ v.ownBlock ≠ row) : ownsOff w' base T size v n xs := by
  refine ⟨h.1, ?_⟩
  rcases h.2 with hn | ⟨g, o, cap, cur, rfl, hb, hgg, rest⟩
  · exact .inl hn
  · refine .inr ⟨g, o, cap, cur, rfl, hb, ?_, rest⟩
    rw [hg.block g (Array.getElem?_eq_some_iff.1 hgg).1 (by simpa [Value.ownBlock] using hne)]
    exact hgg
theorem ownsOff.later {w' : World} (h : ownsOff w base T size v n xs) (hb : Below w.heap.size w w') : ownsOff w' base T size v n xs :=
  h.kept (row := none) ⟨hb.os, hb.tape, hb.output, hb.size, fun k hk _ => hb.block k hk⟩ (by cases h : v.ownBlock <;> simp)
theorem ownsOff.cellAt {g o cap : Nat} (h : ownsOff w base T size (.slice (some ⟨g, o, none⟩) n cap) n xs) : ∀ j u, xs[j]? = some u → w.cell? ⟨g, o + j, none⟩ = some u := by
  intro j u hu
  rcases h.2 with ⟨hv, _⟩ | ⟨g', o', cap', cur, hv, _, hgg, _, _, _, ht⟩
  · simp at hv
  · simp only [Value.slice.injEq, Option.some.injEq, Addr.mk.injEq] at hv
    obtain ⟨⟨rfl, rfl, _⟩, _, rfl⟩ := hv
    rw [cell_of_row w g _ cur T (0, 0) hgg]
    rw [← ht, List.getElem?_take] at hu
    split at hu
    · rw [List.getElem?_drop] at hu
      simpa using hu
    · cases hu
theorem ownsOff.cells {a : Option Addr} {cap : Nat} (h : ownsOff w base T size (.slice a n cap) n xs) : CellsIn w a xs := by
  rcases h.2 with ⟨hv, h0⟩ | ⟨g, o, cap', cur, hv, _⟩
  · exact .inl (List.eq_nil_of_length_eq_zero (by rw [h.1, h0, Nat.zero_mul]))
  · simp only [Value.slice.injEq] at hv
    obtain ⟨rfl, _, rfl⟩ := hv
    refine .inr ⟨g, o, rfl, fun i hi => ?_⟩
    exact h.cellAt i _ (List.getElem?_eq_getElem hi)
/-- all but the first element -/
theorem ownsOff.tail {g o cap : Nat} {x : List Value} (h : ownsOff w base T size (.slice (some ⟨g, o, none⟩) (n + 1) cap) (n + 1) (x ++ xs)) (hx : x.length = size) : ownsOff w base T size (.slice (some ⟨g, o + size, none⟩) n (cap - 1)) n xs := by
  have h1 := h.1
  rw [List.length_append, hx, Nat.succ_mul] at h1
  refine ⟨by omega, ?_⟩
  rcases h.2 with ⟨hv, _⟩ | ⟨g', o', cap', cur, hv, hb, hgg, hn, hc, hs, ht⟩
  · simp at hv
  · simp only [Value.slice.injEq, Option.some.injEq, Addr.mk.injEq] at hv
    obtain ⟨⟨rfl, rfl, _⟩, _, rfl⟩ := hv
    obtain ⟨c, rfl⟩ : ∃ c, cap = c + 1 := ⟨cap - 1, by omega⟩
    rw [Nat.succ_mul] at hs
    refine .inr ⟨g, o + size, c, cur, by rw [Nat.add_sub_cancel], hb, hgg, by omega, by omega, by omega, ?_⟩
    rw [← List.drop_drop]
    have h2 : ((cur.toList.drop o).take ((n + 1) * size)).drop size = xs := by rw [ht, ← hx, List.drop_left]
    rw [List.drop_take] at h2
    rw [← h2]
    congr 1
    rw [Nat.succ_mul]
    omega
/-- nothing of a slice of one element -/
theorem ownsOff.none_left {g o cap : Nat} {x : List Value} (h : ownsOff w base T size (.slice (some ⟨g, o, none⟩) 1 cap) 1 x) : ownsOff w base T size (.slice (some ⟨g, o, none⟩) 0 0) 0 [] := by
  refine ⟨by simp, ?_⟩
  rcases h.2 with ⟨hv, _⟩ | ⟨g', o', cap', cur, hv, hb, hgg, hn, hc, hs, ht⟩
  · simp at hv
  · simp only [Value.slice.injEq, Option.some.injEq, Addr.mk.injEq] at hv
    obtain ⟨⟨rfl, rfl, _⟩, _, rfl⟩ := hv
    exact .inr ⟨g, o, 0, cur, rfl, hb, hgg, Nat.le_refl _, Nat.zero_le _, by omega, by simp⟩
end
section
variable {P : Program}
theorem run_append_off {tsl ty T : TypeId} {z : Value} {size bytes : Nat} (ht : P.underlying tsl = some (.slice T)) (hinfo : (P.info? T).map (fun i => (i.zero, i.size, i.bytes)) = some (some z, size, bytes))
    (hzs : z.cells.size = size) (hpos : 0 < size) {w : World} {base : Nat} {v x : Value} {n m : Nat} {xs news : List Value} (hb : ownsOff w base T size v n xs) (hbase : base ≤ w.heap.size) (hS : Go.Src P size tsl x m news w) (h63 : n + m ≤ maxLen) (hbytes : (n + m) * bytes ≤ 140737488355328) :
    ∃ v' w', (Builtin.append_ #[tsl, tsl] ty #[v, x]).run P w = .ok v' w' ∧ ownsOff w' base T size v' (n + m) (xs ++ news) ∧ w.grownBy w' v.ownBlock := by
  have hn := hS.newsLen
  have h1 := hS.one
  obtain ⟨i, hi, hz, hsize, hby⟩ := info_parts hinfo
  subst hsize
  subst hby
  have hlen : (xs ++ news).length = (n + m) * i.size := by rw [List.length_append, hb.1, hn, Nat.add_mul]
  have h63' : ((n + m : Nat) : Int) ≤ 9223372036854775807 := by simp only [maxLen] at h63; omega
  have grown : ∀ (base0 : Option Addr) (cap : Nat), cap < n + m → (Builtin.firstCells i.size n (.slice base0 n cap)).run P w.drew = .ok xs.toArray w.drew → ∀ row,
      ∃ v' w', (Builtin.append_ #[tsl, tsl] ty #[.slice base0 n cap, x]).run P w = .ok v' w' ∧ ownsOff w' base T i.size v' (n + m) (xs ++ news) ∧ w.grownBy w' row := by
    intro base0 cap hg hold row
    have hr := run_append_grow_src (P := P) w tsl tsl ty T i z ht hi hz base0 n cap xs hold x m news hS hg h63' (growslice_fits hg hbytes)
    have hge := grownCap_ge w (n + m) cap T
    have hcm : grownCap w (n + m) cap T ≤ maxLen := grownCap_le_maxLen w (n + m) cap T h63
    refine ⟨_, _, hr, ownsOff.of_row ⟨hlen, .inr ⟨w.heap.size, _, _, rfl, hbase, heap_alloc_new w.drew _, hge, hcm, ?_, ?_⟩⟩, ⟨rfl, rfl, rfl, by simp, fun k hk _ => heap_alloc_old w.drew _ hk⟩⟩
    · simp only [Array.size_append, List.size_toArray, size_zeroCells, hzs, hlen, ← Nat.add_mul]
      congr 1
      omega
    · simp only [Array.toList_append, List.append_assoc]
      rw [← List.append_assoc, ← hlen]
      exact List.take_left
  rcases hb.2 with ⟨rfl, rfl⟩ | ⟨g, o, cap, cur, rfl, hbg, hg, hnc, hcm, hcs, htake⟩
  · have hxs : xs = [] := List.eq_nil_of_length_eq_zero (by simpa using hb.1)
    subst hxs
    by_cases hm : m = 0
    · subst hm
      have hnn : news = [] := List.eq_nil_of_length_eq_zero (by simpa using hn)
      subst hnn
      refine ⟨.slice none 0 0, w, ?_, hb, ⟨rfl, rfl, rfl, Nat.le_refl _, fun _ _ _ => rfl⟩⟩
      simp [Builtin.append_, run_underlying ht, sizeOf, typeInfo, hi, hS.len, hS.cells]
    · refine grown none 0 (by omega) ?_ _
      simp [Builtin.firstCells]
  · by_cases hroom : n + m ≤ cap
    · have hfit : o + n * i.size + news.length ≤ cur.size := by
        rw [hn, Nat.add_assoc, ← Nat.add_mul]
        exact Nat.le_trans (Nat.add_le_add_left (Nat.mul_le_mul_right _ hroom) _) hcs
      have hst := run_storeCells_at P g (o + n * i.size) T news 0 cur w hg (by simpa using hfit) h1
      simp only [Nat.add_zero] at hst
      have hr : (Builtin.append_ #[tsl, tsl] ty #[.slice (some ⟨g, o, none⟩) n cap, x]).run P w = .ok (.slice (some ⟨g, o, none⟩) (n + m) cap) (w.setRow g (cur.toList.take (o + n * i.size) ++ news ++ cur.toList.drop (o + n * i.size + news.length)).toArray) := by
        simp [Builtin.append_, run_underlying ht, sizeOf, typeInfo, hi, hS.len, hroom, hS.cells, Addr.add_lit, hst]
      refine ⟨_, _, hr, ⟨hlen, .inr ⟨g, o, cap, _, rfl, hbg, setRow_heap w g cur _ T _ hg, hroom, hcm, ?_, ?_⟩⟩, ⟨rfl, rfl, rfl, by simp, fun k _ hk => setRow_other w g k _ (fun e => hk (by simp [Value.ownBlock, e]))⟩⟩
      · simp only [List.size_toArray, List.length_append, List.length_take, List.length_drop, Array.length_toList]
        omega
      · have e1 : (cur.toList.take (o + n * i.size)).drop o = xs := by rw [List.drop_take, Nat.add_sub_cancel_left, htake]
        have e2 : (cur.toList.take (o + n * i.size)).length = o + n * i.size := by rw [List.length_take, Array.length_toList]; omega
        have e3 : ((cur.toList.take (o + n * i.size) ++ news ++ cur.toList.drop (o + n * i.size + news.length)).toArray.toList).drop o = xs ++ news ++ cur.toList.drop (o + n * i.size + news.length) := by
          show (cur.toList.take (o + n * i.size) ++ news ++ cur.toList.drop (o + n * i.size + news.length)).drop o = _
          rw [List.append_assoc, List.drop_append_of_le_length (by omega), e1, List.append_assoc]
        rw [e3, ← hlen]
        exact List.take_left
    · refine grown (some ⟨g, o, none⟩) cap (by omega) ?_ _
      have hc := hb.cellAt
      have := run_firstCells_some (P := P) w.drew i.size n ⟨g, o, none⟩ n cap xs hb.1 (fun j u hu => by rw [add_off]; simpa using hc j u hu)
      exact this
theorem step_append_off {ops : Array Oper} {o : Oper} {a : Act} {K : Act → World → Prop} {Q : Exit → Act → World → Prop} {E : Prop} {T tsl : TypeId} {z : Value} {size bytes : Nat} (hgd : o.guard = none) (s x : Operand)
    (ho : o.op = .call { callee := .builtin .append, args := #[s, x], argTypes := #[tsl, tsl] }) (ht : P.underlying tsl = some (.slice T)) (hinfo : (P.info? T).map (fun i => (i.zero, i.size, i.bytes)) = some (some z, size, bytes))
    (hzs : z.cells.size = size) (hpos : 0 < size) {w : World} {base : Nat} {v u : Value} {n m : Nat} {xs news : List Value} (hs : a.eval s = v) (hb : ownsOff w base T size v n xs) (hbase : base ≤ w.heap.size) (hx : a.eval x = u) (hsrc : Go.Src P size tsl u m news w) (h63 : n + m ≤ maxLen) (hbytes : (n + m) * bytes ≤ 140737488355328)
    (hK : ∀ v' w', ownsOff w' base T size v' (n + m) (xs ++ news) → w.grownBy w' v.ownBlock → K (a.put o.dst v') w') : if Region.wanted o (yielded ops a.tmps) = true then Oper.wp P o a w K Q else E := by
  have hw : Region.wanted o (yielded ops a.tmps) = true := by simp [Region.wanted, hgd]
  rw [if_pos hw]
  obtain ⟨v', w', hr, h2, h3⟩ := run_append_off (P := P) (ty := o.type) ht hinfo hzs hpos hb hbase hsrc h63 hbytes
  unfold Oper.wp
  simp [execOp, ho, resolve, invoke, builtin, hs, hx, hr, Result.andThen]
  exact hK v' w' h2 h3
end
end Go.Proofs.YtgoeadgpbidgiaaGreat
namespace Go.Proofs.YtgoeadgpbidgiaaGreat
open Go.RowKit
set_option linter.unusedVariables false
/-- the record at block g since w: its first field x, its second one the slice v of n elements with the cells xs -/
structure Rec2 (TT T : TypeId) (size : Nat) (w wr : World) (g : Nat) (x v : Value) (n : Nat) (xs : List Value) : Prop where
  blk : wr.heap[g]? = some (.cells #[x, v] TT (0, 0))
  own : wr.ownsRow (g + 1) T size v n xs
  le : w.heap.size ≤ g
  below : Below w.heap.size w wr
section
variable {TT T : TypeId} {size : Nat} {w wr : World} {g : Nat} {x v : Value} {n : Nat} {xs : List Value}
theorem rec_cells {W : World} {b : Nat} {x y : Value} {T : TypeId} (h : W.heap[b]? = some (.cells #[x, y] T (0, 0))) : W.cell? ⟨b, 0, none⟩ = some x ∧ W.cell? ⟨b, 1, none⟩ = some y ∧ W.frozen? ⟨b, 0, none⟩ = false ∧ W.frozen? ⟨b, 1, none⟩ = false := by
  refine ⟨by simp [World.cell?, h], by simp [World.cell?, h], by simp [World.frozen?, h], by simp [World.frozen?, h]⟩
theorem Rec2.facts (h : Rec2 TT T size w wr g x v n xs) : wr.cell? ⟨g, 0, none⟩ = some x ∧ wr.cell? ⟨g, 1, none⟩ = some v ∧ wr.frozen? ⟨g, 0, none⟩ = false ∧ wr.frozen? ⟨g, 1, none⟩ = false := rec_cells h.blk
theorem Rec2.lt (h : Rec2 TT T size w wr g x v n xs) : g < wr.heap.size := (Array.getElem?_eq_some_iff.1 h.blk).1
theorem Rec2.later {wr' : World} (h : Rec2 TT T size w wr g x v n xs) (hb : Below wr.heap.size wr wr') : Rec2 TT T size w wr' g x v n xs :=
  ⟨(hb.block g h.lt).trans h.blk, owns_later h.own hb, h.le, Below.now h.below hb⟩
theorem Rec2.far (h : Rec2 TT T size w wr g x v n xs) : v.ownBlock ≠ some g := fun e => by have := (h.own.lt g e).1; omega
/-- what a new record is, its slice nil -/
theorem Rec2.start (TT T : TypeId) (size : Nat) {w w1 : World} (hb : Below w.heap.size w w1) (x : Value) : Rec2 TT T size w (w1.alloc (.cells #[x, .slice none 0 0] TT)) w1.heap.size x (.slice none 0 0) 0 [] :=
  ⟨alloc_at _ _, World.ownsRow_nil _ _ _ _, hb.size, hb.alloc hb.size _⟩
/-- the cells of the record once the slice has been appended to -/
theorem Rec2.grown {w2 w4 : World} {ob : Obj} (h : Rec2 TT T size w wr g x v n xs) (hb : Below wr.heap.size wr w2) (hg : (w2.alloc ob).grownBy w4 v.ownBlock) : w4.heap[g]? = some (.cells #[x, v] TT (0, 0)) := by
  have h2 := h.later (hb.alloc hb.size ob)
  exact (hg.block g h2.lt (fun e => h.far e.symm)).trans h2.blk
/-- the slice that was appended to is stored -/
theorem Rec2.put {w2 w4 : World} {ob : Obj} {v' : Value} {m : Nat} {ys : List Value} (h : Rec2 TT T size w wr g x v n xs) (hb : Below wr.heap.size wr w2) (hg : (w2.alloc ob).grownBy w4 v.ownBlock) (hn : w4.ownsRow (g + 1) T size v' m ys) :
    Rec2 TT T size w (w4.setCell ⟨g, 1, none⟩ v') g x v' m ys := by
  have h2 := h.later (hb.alloc hb.size ob)
  have h4 := h.grown hb hg
  have b4 : Below w.heap.size w w4 := h2.below.grown hg h2.below.size (fun k hk => by have := (h.own.lt k hk).1; have := h.le; omega)
  refine ⟨?_, ownsRow_setCell_below hn (by show g < g + 1; omega) _, h.le, b4.setCell h.le _⟩
  unfold World.setCell
  simp [Array.getElem?_modify, h4]
end
section
variable {P : Program}
end
end Go.Proofs.YtgoeadgpbidgiaaGreat
namespace Go.Proofs.YtgoeadgpbidgiaaGreat
open Go.RowKit
set_option linter.unusedVariables false
/-- the value of a work -/
def workVal (k : Int) (aR : Option Addr) (nR cR : Nat) (aQ : Option Addr) (nQ cQ : Nat) (T : Nat) : Value := .agg #[.int .i64 k, .slice aR nR cR, .slice aQ nQ cQ, .int .i64 (T : Nat)]
theorem box_four {W : World} {T : TypeId} {a b c d : Value} {W2 : World} (hb : Below (W.alloc (.cells #[a, b, c, d] T)).heap.size (W.alloc (.cells #[a, b, c, d] T)) W2) :
    (W2.cell? ⟨W.heap.size, 0, none⟩ = some a ∧ W2.cell? ⟨W.heap.size, 1, none⟩ = some b ∧ W2.cell? ⟨W.heap.size, 2, none⟩ = some c ∧ W2.cell? ⟨W.heap.size, 3, none⟩ = some d) ∧
    W2.frozen? ⟨W.heap.size, 0, none⟩ = false ∧ W2.frozen? ⟨W.heap.size, 1, none⟩ = false ∧ W2.frozen? ⟨W.heap.size, 2, none⟩ = false ∧ W2.frozen? ⟨W.heap.size, 3, none⟩ = false := by
  have h := (hb.block W.heap.size (by simp)).trans (alloc_at W _)
  refine ⟨⟨?_, ?_, ?_, ?_⟩, ?_, ?_, ?_, ?_⟩ <;> simp [World.cell?, World.frozen?, h]
theorem ruleCells_one : ∀ (l : List RulD), ∀ u ∈ ruleCells l, u.oneCell' = true
  | [], u, hu => by cases hu
  | p :: l, u, hu => by
    simp only [ruleCells, List.mem_cons] at hu
    rcases hu with rfl | rfl | hu
    · rfl
    · rfl
    · exact ruleCells_one l u hu
theorem src_rules {P : Program} {w : World} {a : Option Addr} {l : List RulD} {tx e' : TypeId} (hk : P.underlying tx = some (.slice e')) (h : RulesIn w a l) (cap : Nat) : Go.Src P 2 tx (.slice a l.length cap) l.length (ruleCells l) w := by
  cases a with
  | none =>
    rcases h with h | ⟨b, off, ha, hc⟩
    · have hl := ruleCells_len l
      rw [h] at hl
      obtain rfl : l = [] := List.eq_nil_of_length_eq_zero (by simp at hl; omega)
      exact Go.Src.ofNil w hk cap
    · cases ha
  | some ad =>
    refine Go.Src.ofSlice w hk ad l.length cap (ruleCells l) (ruleCells_len l) (fun j u hu => ?_) (ruleCells_one l)
    rcases h with h | ⟨b, off, ha, hc⟩
    · rw [h] at hu; cases hu
    · cases ha
      rw [add_off]
      obtain ⟨hj, rfl⟩ := List.getElem?_eq_some_iff.1 hu
      exact hc j hj
set_option maxRecDepth 100000 in
set_option maxHeartbeats 2000000 in
theorem specWorkOk_ok (k : Int) (R Q : List RulD) (T : Nat) (aR aQ : Option Addr) (cR cQ : Nat) (w : World) (hR : RulesIn w aR R) (hQ : RulesIn w aQ Q) (h : WorkP k R Q T) :
    Calls Tryz.prog 99 #[workVal k aR R.length cR aQ Q.length cQ T] w fun e w' => e = .returned (.bool true) ∧ Below w.heap.size w w' := by
  have hf := h.few
  have ht := h.turns
  have hz := szR_of h.sys
  have h12 : R.length ≤ 12 := h.sys.1.1.2
  have HSO := Lib.hid (fun W h => specSystemOk_any k R aR cR W h (by omega) hz)
  have HWK := Lib.hid h
  have HR := Lib.hid hR
  have HQ := Lib.hid hQ
  have HWO := Lib.hid (fun (q : ByteArray) (hq : wordOkB k q = true) W => specWordOk_any k q W (by have := (wdP_of hq).len; unfold maxLen; omega))
  have HB0 := Lib.hid (alloc_belowS w (.cells #[.int .i64 k, .slice aR R.length cR, .slice aQ Q.length cQ, .int .i64 (T : Nat)] 74))
  have HBX := Lib.hid (fun W2 (h : Below (w.alloc (.cells #[.int .i64 k, .slice aR R.length cR, .slice aQ Q.length cQ, .int .i64 (T : Nat)] 74)).heap.size (w.alloc (.cells #[.int .i64 k, .slice aR R.length cR, .slice aQ Q.length cQ, .int .i64 (T : Nat)] 74)) W2) => (box_four h).1)
  clear h hz hR hQ
  unfold workVal
  go_enter Tryz.func99, Tryz.ntmps99
  go_wp2_with fail
  generalize w.alloc (.cells #[.int .i64 k, .slice aR R.length cR, .slice aQ Q.length cQ, .int .i64 (T : Nat)] 74) = w1 at *
  refine (HSO.out _ (HR.out.later HB0.out)).mono ?_
  rintro e w2 ⟨bb, hbb, rfl, hb2⟩
  obtain rfl := hbb.2 HWK.out.sys
  obtain ⟨s0, s1, s2, s3⟩ := HBX.out _ hb2
  have HB2 := Lib.hid hb2
  have hin : inB (T : Int) 0 200 = true := by unfold inB; simp; omega
  have HIN := Lib.hid (fun W => (l01In_any (T : Int) 0 200 W).mono (fun e w' h => show e = .returned (.bool true) ∧ W = w' from ⟨by rw [h.1, hin], h.2⟩))
  clear hbb hb2 hin
  go_wp2_with (go_at_call 40; refine (HIN.out _).mono ?_; rintro e w' ⟨rfl, rfl⟩)
  go_loopw [24] (fun vi wr => ∃ i : Nat, i ≤ Q.length ∧ vi = .int .i64 (i : Nat) ∧ Below w1.heap.size w1 wr) (fun vi _ => Q.length - (intOf vi).toNat)
  case atStart => exact ⟨0, Nat.zero_le _, rfl, HB2.out⟩
  case round =>
    obtain ⟨i, hi, rfl, hbw⟩ := hrel
    have HB := Lib.hid hbw
    obtain ⟨s0, s1, s2, s3⟩ := HBX.out wr hbw
    clear hbw
    by_cases hlt : i < Q.length
    · obtain ⟨b, off, rfl, hb, k0, k1⟩ := rule_at HQ.out (Below.now HB0.out HB.out) hlt
      have hq := HWK.out.word _ (nthR_mem hlt)
      have HQ1 := Lib.hid (fun W => (HWO.out _ hq.1 W).mono (fun e w' h => show e = .returned (.bool true) ∧ Below W.heap.size W w' from ⟨by rw [h.1, hq.1], by have := h.2; subst this; exact Below.refl _ _⟩))
      have HQ2 := Lib.hid (fun W => (HWO.out _ hq.2 W).mono (fun e w' h => show e = .returned (.bool true) ∧ Below W.heap.size W w' from ⟨by rw [h.1, hq.2], by have := h.2; subst this; exact Below.refl _ _⟩))
      clear hq
      generalize (nthR Q i).1 = x at *
      generalize (nthR Q i).2 = y at *
      have HBR : Hid (∀ W2, Below (wr.alloc (.cells #[.string x, .string y] 67)).heap.size (wr.alloc (.cells #[.string x, .string y] 67)) W2 → W2.cell? ⟨wr.heap.size, 0, none⟩ = some (.string x) ∧ W2.cell? ⟨wr.heap.size, 1, none⟩ = some (.string y)) := Lib.hid (fun W2 h => box_two h)
      have HB5 := Lib.hid (Below.now HB.out (alloc_belowS wr (.cells #[.string x, .string y] 67)))
      have p0 := fun o => (HBX.out _ (Below.now HB.out (alloc_belowS wr o))).1
      go_wp2_with fail
      refine (HQ1.out _).mono ?_
      rintro e w6 ⟨rfl, hb6⟩
      clear p0
      obtain ⟨r0, r1⟩ := HBR.out _ hb6
      have HB6 := Lib.hid (Below.now HB5.out hb6)
      obtain ⟨t0, t1, t2, t3⟩ := HBX.out _ HB6.out
      clear hb6 k0 k1 s0 s1 s2 s3
      go_wp2_with fail
      refine (HQ2.out _).mono ?_
      rintro e w7 ⟨rfl, hb7⟩
      have HB7 := Lib.hid (Below.now HB6.out hb7)
      clear hb7 r0 r1 t0 t1 t2 t3
      go_wp2_with fail
      go_roundw
      case rel => exact ⟨i + 1, by omega, by go_num, HB7.out⟩
      case measure => simp [intOf]; omega
    · go_wp2_with fail
      go_ret
      exact ⟨rfl, Below.now HB0.out HB.out⟩
end Go.Proofs.YtgoeadgpbidgiaaGreat
namespace Go.Proofs.YtgoeadgpbidgiaaGreat
open Go.RowKit
set_option linter.unusedVariables false
/-- what a work is handed back as: its rules and its equations in memory of the call's own -/
def RetCp (k : Int) (R Q : List RulD) (T : Nat) (w : World) (e : Ending) (w' : World) : Prop :=
  ∃ aR cR aQ cQ, e = .returned (workVal k aR R.length cR aQ Q.length cQ T) ∧ ownsOff w' w.heap.size 67 2 (.slice aR R.length cR) R.length (ruleCells R) ∧ ownsOff w' w.heap.size 67 2 (.slice aQ Q.length cQ) Q.length (ruleCells Q) ∧ Below w.heap.size w w'
theorem ownsOff.mono {w : World} {base base' : Nat} {T : TypeId} {size : Nat} {v : Value} {n : Nat} {xs : List Value} (h : ownsOff w base T size v n xs) (hb : base' ≤ base) : ownsOff w base' T size v n xs := by
  refine ⟨h.1, ?_⟩
  rcases h.2 with h' | ⟨g, o, cap, cur, hv, hb', r⟩
  · exact .inl h'
  · exact .inr ⟨g, o, cap, cur, hv, by omega, r⟩
theorem ownsOff.setBelow {w : World} {base : Nat} {T : TypeId} {size : Nat} {v : Value} {n : Nat} {xs : List Value} (h : ownsOff w base T size v n xs) {p : Addr} (hp : p.block < base) (u : Value) : ownsOff (w.setCell p u) base T size v n xs := by
  refine ⟨h.1, ?_⟩
  rcases h.2 with h' | ⟨g, o, cap, cur, hv, hb', hg, r⟩
  · exact .inl h'
  · refine .inr ⟨g, o, cap, cur, hv, hb', ?_, r⟩
    unfold World.setCell
    rw [Array.getElem?_modify, if_neg (fun e => by omega)]
    exact hg
theorem off_empty (T : TypeId) (size : Nat) (w1 : World) : ∀ W, Below (w1.alloc (.cells #[] T)).heap.size (w1.alloc (.cells #[] T)) W → ownsOff W w1.heap.size T size (.slice (some ⟨w1.heap.size, 0, none⟩) 0 0) 0 [] := fun W h => (ownsOff.of_row (Bld.empty T size w1).1).later h
theorem off_empty2 (T : TypeId) (size : Nat) (w1 : World) (o : Obj) : ∀ W, Below ((w1.alloc o).alloc (.cells #[] T)).heap.size ((w1.alloc o).alloc (.cells #[] T)) W → ownsOff W w1.heap.size T size (.slice (some ⟨w1.heap.size + 1, 0, none⟩) 0 0) 0 [] := fun W h => by
  have h1 := (off_empty T size (w1.alloc o) W h).mono (show w1.heap.size ≤ (w1.alloc o).heap.size by simp)
  have e : (w1.alloc o).heap.size = w1.heap.size + 1 := by simp
  rw [e] at h1
  exact h1
theorem alloc_two (w1 : World) (o o2 : Obj) : ((w1.alloc o).alloc o2).heap[w1.heap.size]? = some o ∧ ((w1.alloc o).alloc o2).heap[w1.heap.size + 1]? = some o2 := by
  have h1 := alloc_at w1 o
  have h2 := alloc_at (w1.alloc o) o2
  have e : (w1.alloc o).heap.size = w1.heap.size + 1 := by simp
  rw [e] at h2
  exact ⟨by rw [(alloc_belowS (w1.alloc o) o2).block w1.heap.size (by rw [e]; omega)]; exact h1, h2⟩
/-- the two fields of a box are set -/
theorem set_two {W : World} {g : Nat} {x y : Value} {T : TypeId} (h : W.heap[g]? = some (.cells #[x, y] T (0, 0))) (u v : Value) : ((W.setCell ⟨g, 0, none⟩ u).setCell ⟨g, 1, none⟩ v).heap[g]? = some (.cells #[u, v] T (0, 0)) := by
  unfold World.setCell
  simp [Array.getElem?_modify, h]
/-- a box of another type is set -/
theorem ownsOff.set2 {w : World} {base : Nat} {T T' : TypeId} {size : Nat} {v : Value} {n : Nat} {xs : List Value} (h : ownsOff w base T size v n xs) {g : Nat} {cs : Array Value} {fr : Nat × Nat} (hg : w.heap[g]? = some (.cells cs T' fr)) (hne : T ≠ T') (o1 o2 : Nat) (u1 u2 : Value) :
    ownsOff ((w.setCell ⟨g, o1, none⟩ u1).setCell ⟨g, o2, none⟩ u2) base T size v n xs := by
  refine ⟨h.1, ?_⟩
  rcases h.2 with h' | ⟨g1, o, cap, cur, hv, hb', hg1, r⟩
  · exact .inl h'
  · refine .inr ⟨g1, o, cap, cur, hv, hb', ?_, r⟩
    have hn : g ≠ g1 := fun e => by
      subst e
      rw [hg] at hg1
      simp only [Option.some.injEq, Obj.cells.injEq] at hg1
      exact hne hg1.2.1.symm
    unfold World.setCell
    rw [Array.getElem?_modify, if_neg hn, Array.getElem?_modify, if_neg hn]
    exact hg1
set_option maxRecDepth 100000 in
set_option maxHeartbeats 4000000 in
theorem l06Copy_any (k : Int) (R Q : List RulD) (T : Nat) (aR aQ : Option Addr) (cR cQ : Nat) (w : World) (hR : RulesIn w aR R) (hQ : RulesIn w aQ Q) (h12 : R.length ≤ 12) (h400 : Q.length ≤ 400) :
    Calls Tryz.prog 100 #[workVal k aR R.length cR aQ Q.length cQ T] w (RetCp k R Q T w) := by
  have HR := Lib.hid hR
  have HQ := Lib.hid hQ
  have HB0 := Lib.hid (Below.now (alloc_belowS w (.cells #[.int .i64 k, .slice aR R.length cR, .slice aQ Q.length cQ, .int .i64 (T : Nat)] 74)) (alloc_belowS _ (.cells #[.int .i64 0, .slice none 0 0, .slice none 0 0, .int .i64 0] 74)))
  have e1 : (w.alloc (.cells #[.int .i64 k, .slice aR R.length cR, .slice aQ Q.length cQ, .int .i64 (T : Nat)] 74)).heap.size = w.heap.size + 1 := by simp
  have HBX := Lib.hid (fun W2 (h : Below ((w.alloc (.cells #[.int .i64 k, .slice aR R.length cR, .slice aQ Q.length cQ, .int .i64 (T : Nat)] 74)).alloc (.cells #[.int .i64 0, .slice none 0 0, .slice none 0 0, .int .i64 0] 74)).heap.size ((w.alloc (.cells #[.int .i64 k, .slice aR R.length cR, .slice aQ Q.length cQ, .int .i64 (T : Nat)] 74)).alloc (.cells #[.int .i64 0, .slice none 0 0, .slice none 0 0, .int .i64 0] 74)) W2) => And.intro (box_four (Below.now (alloc_belowS (w.alloc (.cells #[.int .i64 k, .slice aR R.length cR, .slice aQ Q.length cQ, .int .i64 (T : Nat)] 74)) _) h)).1 (box_four h))
  rw [e1] at HBX
  have HSZ : Hid (w.heap.size + 2 ≤ ((w.alloc (.cells #[.int .i64 k, .slice aR R.length cR, .slice aQ Q.length cQ, .int .i64 (T : Nat)] 74)).alloc (.cells #[.int .i64 0, .slice none 0 0, .slice none 0 0, .int .i64 0] 74)).heap.size) := Lib.hid (by simp)
  have N3 : Hid (0 + R.length ≤ maxLen) := Lib.hid (by unfold maxLen; omega)
  have N4 : Hid ((0 + R.length) * 32 ≤ 140737488355328) := Lib.hid (by omega)
  have M3 : Hid (0 + Q.length ≤ maxLen) := Lib.hid (by unfold maxLen; omega)
  have M4 : Hid ((0 + Q.length) * 32 ≤ 140737488355328) := Lib.hid (by omega)
  clear hR hQ e1
  unfold workVal
  go_enter Tryz.func100, Tryz.ntmps100
  go_wp2_with fail
  generalize (w.alloc (.cells #[.int .i64 k, .slice aR R.length cR, .slice aQ Q.length cQ, .int .i64 (T : Nat)] 74)).alloc (.cells #[.int .i64 0, .slice none 0 0, .slice none 0 0, .int .i64 0] 74) = w1 at *
  obtain ⟨⟨s0, s1, s2, s3⟩, _, _⟩ := HBX.out w1 (Below.refl _ _)
  have hpos1 : 0 < w1.heap.size := by have := HSZ.out; omega
  go_upto_region 1 with fail
  go_cut [3] (fun v wx => ∃ g vR, v = .pointer (some ⟨g, 0, none⟩) ∧ wx.heap[g]? = some (.cells #[.int .i64 k, vR] 25 (0, 0)) ∧ ownsOff wx w1.heap.size 67 2 vR R.length (ruleCells R) ∧ w1.heap.size ≤ g ∧ Below w1.heap.size w1 wx)
  case first =>
    have p0 := fun o => (HBX.out _ (alloc_belowS w1 o)).1.1
    have p1 := fun o => (HBX.out _ (alloc_belowS w1 o)).1.2.1
    have p2 := fun o o2 => (HBX.out _ (Below.now (alloc_belowS w1 o) (alloc_belowS (w1.alloc o) o2))).1.1
    have p3 := fun o o2 => (HBX.out _ (Below.now (alloc_belowS w1 o) (alloc_belowS (w1.alloc o) o2))).1.2.1
    have HE1 := Lib.hid (off_empty 67 2 w1)
    have HE2 := Lib.hid (off_empty2 67 2 w1 (.cells #[.int .i64 0, .slice none 0 0] 25))
    have HA1 := Lib.hid (alloc_two w1 (.cells #[] 67) (.cells #[.int .i64 0, .slice none 0 0] 25)).2
    have HA2 := Lib.hid (alloc_two w1 (.cells #[.int .i64 0, .slice none 0 0] 25) (.cells #[] 67)).1
    go_region_law (first
      | (refine step_append_off rfl (.tmp 7) (.tmp 10) (by rfl) Tryz.underlying23 Tryz.infoRule rfl (by decide) (by rfl) (HE1.out _ (by repeat (first | exact Below.refl _ _ | refine Below.drew ?_ | refine below_drewN ?_ _ | refine Below.alloc ?_ (by simp; try omega) _))) (by simp; try omega) (by rfl) (src_rules Tryz.underlying23 (HR.out.later (Below.now HB0.out (by repeat (first | exact Below.refl _ _ | refine Below.drew ?_ | refine below_drewN ?_ _ | refine Below.alloc ?_ (by simp; try omega) _)))) cR) N3.out N4.out ?_; intro v2 w2 ho2 hg2; rw [Nat.zero_add, List.nil_append] at ho2; obtain ⟨va, vc, rfl⟩ := ho2.form; have k2 : Below w1.heap.size w1 w2 := Below.grown (by repeat (first | exact Below.refl _ _ | refine Below.drew ?_ | refine below_drewN ?_ _ | refine Below.alloc ?_ (by simp; try omega) _)) hg2 (by simp; try omega) (fun k hk => by simp [Value.ownBlock] at hk; omega); have HO2 := Lib.hid ho2; have t0 := (HBX.out w2 k2).1.1; have t1 := (HBX.out w2 k2).1.2.1; have t2 := fun o => (HBX.out _ (Below.now k2 (alloc_belowS w2 o))).1.1; have t3 := fun o => (HBX.out _ (Below.now k2 (alloc_belowS w2 o))).1.2.1; have xS : w2.heap[w1.heap.size + 1]? = some (.cells #[.int .i64 0, .slice none 0 0] 25 (0, 0)) := (hg2.block (w1.heap.size + 1) (by simp; try omega) (by simp [Value.ownBlock])).trans HA1.out; obtain ⟨x0, x1, x2, x3⟩ := rec_cells xS; have XS := Lib.hid xS; clear xS ho2 hg2)
      | (refine step_append_off rfl (.tmp 7) (.tmp 10) (by rfl) Tryz.underlying23 Tryz.infoRule rfl (by decide) (by rfl) (HE2.out _ (by repeat (first | exact Below.refl _ _ | refine Below.drew ?_ | refine below_drewN ?_ _ | refine Below.alloc ?_ (by simp; try omega) _))) (by simp; try omega) (by rfl) (src_rules Tryz.underlying23 (HR.out.later (Below.now HB0.out (by repeat (first | exact Below.refl _ _ | refine Below.drew ?_ | refine below_drewN ?_ _ | refine Below.alloc ?_ (by simp; try omega) _)))) cR) N3.out N4.out ?_; intro v2 w2 ho2 hg2; rw [Nat.zero_add, List.nil_append] at ho2; obtain ⟨va, vc, rfl⟩ := ho2.form; have k2 : Below w1.heap.size w1 w2 := Below.grown (by repeat (first | exact Below.refl _ _ | refine Below.drew ?_ | refine below_drewN ?_ _ | refine Below.alloc ?_ (by simp; try omega) _)) hg2 (by simp; try omega) (fun k hk => by simp [Value.ownBlock] at hk; omega); have HO2 := Lib.hid ho2; have t0 := (HBX.out w2 k2).1.1; have t1 := (HBX.out w2 k2).1.2.1; have t2 := fun o => (HBX.out _ (Below.now k2 (alloc_belowS w2 o))).1.1; have t3 := fun o => (HBX.out _ (Below.now k2 (alloc_belowS w2 o))).1.2.1; have xS : w2.heap[w1.heap.size]? = some (.cells #[.int .i64 0, .slice none 0 0] 25 (0, 0)) := (hg2.block w1.heap.size (by simp; try omega) (by simp [Value.ownBlock])).trans HA2.out; obtain ⟨x0, x1, x2, x3⟩ := rec_cells xS; have XS := Lib.hid xS; clear xS ho2 hg2)
      | (refine step_append_off rfl (.tmp 7) (.tmp 10) (by rfl) Tryz.underlying23 Tryz.infoRule rfl (by decide) (by rfl) (HE1.out _ (by repeat (first | exact Below.refl _ _ | refine Below.drew ?_ | refine below_drewN ?_ _ | refine Below.alloc ?_ (by simp; try omega) _))) (by simp; try omega) (by rfl) (src_rules Tryz.underlying23 (HR.out.later (Below.now HB0.out (by repeat (first | exact Below.refl _ _ | refine Below.drew ?_ | refine below_drewN ?_ _ | refine Below.alloc ?_ (by simp; try omega) _)))) cR) N3.out N4.out ?_; intro v2 w2 ho2 hg2; rw [Nat.zero_add, List.nil_append] at ho2; obtain ⟨va, vc, rfl⟩ := ho2.form; have k2 : Below w1.heap.size w1 w2 := Below.grown (by repeat (first | exact Below.refl _ _ | refine Below.drew ?_ | refine below_drewN ?_ _ | refine Below.alloc ?_ (by simp; try omega) _)) hg2 (by simp; try omega) (fun k hk => by simp [Value.ownBlock] at hk; omega); have HO2 := Lib.hid ho2; have t0 := (HBX.out w2 k2).1.1; have t1 := (HBX.out w2 k2).1.2.1; have t2 := fun o => (HBX.out _ (Below.now k2 (alloc_belowS w2 o))).1.1; have t3 := fun o => (HBX.out _ (Below.now k2 (alloc_belowS w2 o))).1.2.1; clear ho2 hg2))
    all_goals
      clear t0 t1 t2 t3
      (try (clear x0 x1 x2 x3))
      go_wp2_with fail
      go_meet
      first
        | exact ⟨_, _, rfl, alloc_at w2 _, HO2.out.later (alloc_belowS w2 _), k2.size, Below.now k2 (alloc_belowS w2 _)⟩
        | exact ⟨_, _, rfl, set_two XS.out _ _, HO2.out.set2 XS.out (by decide) _ _ _ _, by omega, (k2.setCell (by simp) _).setCell (by simp) _⟩
  case rest =>
    obtain ⟨g, vR, rfl, hgb, hor, hg1, hbc⟩ := hcut
    obtain ⟨va, vc, rfl⟩ := hor.form
    have HOR := Lib.hid hor
    have HBC := Lib.hid hbc
    obtain ⟨g0, g1, _, _⟩ := rec_cells hgb
    have HG : Hid (∀ W, Below wc.heap.size wc W → W.cell? ⟨g, 0, none⟩ = some (.int .i64 k) ∧ W.cell? ⟨g, 1, none⟩ = some (.slice va R.length vc)) := Lib.hid (fun W hW => by
      have h := rec_cells ((hW.block g (Array.getElem?_eq_some_iff.1 hgb).1).trans hgb)
      exact ⟨h.1, h.2.1⟩)
    clear s0 s1 s2 s3 hgb hor hbc
    obtain ⟨⟨_, _, s2, s3⟩, _, _⟩ := HBX.out wc HBC.out
    have p0 := fun o => (HG.out _ (alloc_belowS wc o)).1
    have p1 := fun o => (HG.out _ (alloc_belowS wc o)).2
    have p2 := fun o => (HBX.out _ (Below.now HBC.out (alloc_belowS wc o))).1.2.2.1
    have p3 := fun o => (HBX.out _ (Below.now HBC.out (alloc_belowS wc o))).1.2.2.2
    have HE2 := Lib.hid (off_empty 67 2 wc)
    go_wp2_with fail
    go_region_law (first
      | (refine step_append_off rfl (.tmp 14) (.tmp 16) (by rfl) Tryz.underlying23 Tryz.infoRule rfl (by decide) (by rfl) (HE2.out _ (by repeat (first | exact Below.refl _ _ | refine Below.drew ?_ | refine below_drewN ?_ _))) (by simp) (by rfl) (src_rules Tryz.underlying23 (HQ.out.later (Below.now HB0.out (Below.now HBC.out (by repeat (first | exact Below.refl _ _ | refine Below.drew ?_ | refine below_drewN ?_ _ | refine Below.alloc ?_ (by simp; try omega) _))))) cQ) M3.out M4.out ?_; intro v2 w2 ho2 hg2; rw [Nat.zero_add, List.nil_append] at ho2; obtain ⟨vb, vd, rfl⟩ := ho2.form; have k2 : Below wc.heap.size wc w2 := Below.grown (by repeat (first | exact Below.refl _ _ | refine Below.drew ?_ | refine below_drewN ?_ _ | refine Below.alloc ?_ (by simp; try omega) _)) hg2 (by simp) (fun k hk => by simp [Value.ownBlock] at hk; omega); have HO2 := Lib.hid ho2; have t0 := (HG.out w2 k2).1; have t1 := (HG.out w2 k2).2; have t3 := (HBX.out w2 (Below.now HBC.out k2)).1.2.2.2; obtain ⟨⟨u0, u1, u2, u3⟩, f0, f1, f2, f3⟩ := (HBX.out w2 (Below.now HBC.out k2)).2; clear ho2 hg2))
    all_goals
      have hsz := HSZ.out
      have F : Hid (RetCp k R Q T w (.returned (workVal k va R.length vc vb Q.length vd T)) ((((w2.setCell ⟨w.heap.size + 1, 0, none⟩ (.int .i64 k)).setCell ⟨w.heap.size + 1, 1, none⟩ (.slice va R.length vc)).setCell ⟨w.heap.size + 1, 2, none⟩ (.slice vb Q.length vd)).setCell ⟨w.heap.size + 1, 3, none⟩ (.int .i64 (T : Nat)))) :=
        Lib.hid ⟨va, vc, vb, vd, rfl,
          (((((HOR.out.later k2).setBelow (by show w.heap.size + 1 < _; omega) _).setBelow (by show w.heap.size + 1 < _; omega) _).setBelow (by show w.heap.size + 1 < _; omega) _).setBelow (by show w.heap.size + 1 < _; omega) _).mono (by omega),
          (((((HO2.out).setBelow (by show w.heap.size + 1 < _; have := HBC.out.size; omega) _).setBelow (by show w.heap.size + 1 < _; have := HBC.out.size; omega) _).setBelow (by show w.heap.size + 1 < _; have := HBC.out.size; omega) _).setBelow (by show w.heap.size + 1 < _; have := HBC.out.size; omega) _).mono (by have := HBC.out.size; omega),
          ((((Below.now HB0.out (Below.now HBC.out k2)).setCell (by simp; try omega) _).setCell (by simp; try omega) _).setCell (by simp; try omega) _).setCell (by simp; try omega) _⟩
      clear t0 t1 t3 k2
      go_wp2_with fail
      refine bodyPost_ret (v := workVal k va R.length vc vb Q.length vd T) ?_ rfl F.out
      simp [results, Tryz.results100, go_sem, u0, u1, u2, u3, workVal]
end Go.Proofs.YtgoeadgpbidgiaaGreat
