/-
  Append of one element to a row of its own that is known by its base, at a plain region's list.
-/
import Derived.Test.YtdhaebbfiaddnaaGreatDoorGts04
import Derived.Deep.AppendSrc
import Derived.Test.YtdhaebbfiaddnaaGreatDoorGts29
import Derived.Test.YtdhaebbfiaddnaaGreatDoorGts19
import Derived.Test.YtdhaebbfiaddnaaGreatDoorGts26
import Derived.IntWalk
import Derived.Test.YtdhaebbfiaddnaaGreatDoorGts28
import Derived.Deep.RegionHeld3
import Derived.Deep.RegionLaw
namespace Go.Proofs.YtdhaebbfiaddnaaGreatDoor
open Go.RowKit
set_option linter.unusedVariables false
/-- a slice of n elements somewhere in a block from base on -/
def ownsOff (w : World) (base : Nat) (T : TypeId) (size : Nat) (v : Value) (n : Nat) (xs : List Value) : Prop :=
  xs.length = n * size ∧ ((v = .slice none 0 0 ∧ n = 0) ∨ ∃ g o cap cur, v = .slice (some ⟨g, o, none⟩) n cap ∧ base ≤ g ∧ w.heap[g]? = some (.cells cur T (0, 0)) ∧ n ≤ cap ∧ cap ≤ maxLen ∧ o + cap * size ≤ cur.size ∧ (cur.toList.drop o).take (n * size) = xs)
section
variable {w : World} {base : Nat} {T : TypeId} {size : Nat} {v : Value} {n : Nat} {xs : List Value}
theorem ownsOff.of_row (h : w.ownsRow base T size v n xs) : ownsOff w base T size v n xs := by
  refine ⟨h.1, ?_⟩
  rcases h.2 with h' | ⟨g, cap, cur, hv, hb, hg, hn, hc, hs, ht⟩
  · exact .inl h'
  · exact .inr ⟨g, 0, cap, cur, hv, hb, hg, hn, hc, by omega, by rw [List.drop_zero]; exact ht⟩
theorem ownsOff.form (h : ownsOff w base T size v n xs) : ∃ a cap, v = .slice a n cap := by
  rcases h.2 with ⟨hv, h0⟩ | ⟨g, o, cap, cur, hv, _⟩
  · exact ⟨none, 0, by rw [hv, h0]⟩
  · exact ⟨_, _, hv⟩
theorem ownsOff.lt (h : ownsOff w base T size v n xs) : ∀ k, v.ownBlock = some k → base ≤ k ∧ k < w.heap.size := by
  intro k hk
  rcases h.2 with ⟨rfl, _⟩ | ⟨g, o, cap, cur, rfl, hb, hg, _⟩
  · simp [Value.ownBlock] at hk
  · simp [Value.ownBlock] at hk
    subst hk
    exact ⟨hb, (Array.getElem?_eq_some_iff.1 hg).1⟩
theorem ownsOff.kept {w' : World} {row : Option Nat} (h : ownsOff w base T size v n xs) (hg : w.grownBy w' row) (hne : v.ownBlock = none ∨ v.ownBlock ≠ row) : ownsOff w' base T size v n xs := by
  refine ⟨h.1, ?_⟩
  rcases h.2 with hn | ⟨g, o, cap, cur, rfl, hb, hgg, rest⟩
  · exact .inl hn
  · refine .inr ⟨g, o, cap, cur, rfl, hb, ?_, rest⟩
    rw [hg.block g (Array.getElem?_eq_some_iff.1 hgg).1 (by simpa [Value.ownBlock] using hne)]
    exact hgg
theorem ownsOff.later {w' : World} (h : ownsOff w base T size v n xs) (hb : Below w.heap.size w w') : ownsOff w' base T size v n xs :=
  h.kept (row := none) ⟨hb.os, hb.tape, hb.output, hb.size, fun k hk _ => hb.block k hk⟩ (by cases h : v.ownBlock <;> simp)
theorem ownsOff.cellAt {g o cap : Nat} (h : ownsOff w base T size (.slice (some ⟨g, o, none⟩) n cap) n xs) : ∀ j u, xs[j]? = some u → w.cell? ⟨g, o + j, none⟩ = some u := by
  intro j u hu
  rcases h.2 with ⟨hv, _⟩ | ⟨g', o', cap', cur, hv, _, hgg, _, _, _, ht⟩
  · simp at hv
  · simp only [Value.slice.injEq, Option.some.injEq, Addr.mk.injEq] at hv
    obtain ⟨⟨rfl, rfl, _⟩, _, rfl⟩ := hv
    rw [cell_of_row w g _ cur T (0, 0) hgg]
    rw [← ht, List.getElem?_take] at hu
    split at hu
    · rw [List.getElem?_drop] at hu
      simpa using hu
    · cases hu
theorem ownsOff.cells {a : Option Addr} {cap : Nat} (h : ownsOff w base T size (.slice a n cap) n xs) : CellsIn w a xs := by
  rcases h.2 with ⟨hv, h0⟩ | ⟨g, o, cap', cur, hv, _⟩
  · exact .inl (List.eq_nil_of_length_eq_zero (by rw [h.1, h0, Nat.zero_mul]))
  · simp only [Value.slice.injEq] at hv
    obtain ⟨rfl, _, rfl⟩ := hv
    refine .inr ⟨g, o, rfl, fun i hi => ?_⟩
    exact h.cellAt i _ (List.getElem?_eq_getElem hi)
/-- all but the first element -/
theorem ownsOff.tail {g o cap : Nat} {x : List Value} (h : ownsOff w base T size (.slice (some ⟨g, o, none⟩) (n + 1) cap) (n + 1) (x ++ xs)) (hx : x.length = size) : ownsOff w base T size (.slice (some ⟨g, o + size, none⟩) n (cap - 1)) n xs := by
  have h1 := h.1
  rw [List.length_append, hx, Nat.succ_mul] at h1
  refine ⟨by omega, ?_⟩
  rcases h.2 with ⟨hv, _⟩ | ⟨g', o', cap', cur, hv, hb, hgg, hn, hc, hs, ht⟩
  · simp at hv
  · simp only [Value.slice.injEq, Option.some.injEq, Addr.mk.injEq] at hv
    obtain ⟨⟨rfl, rfl, _⟩, _, rfl⟩ := hv
    obtain ⟨c, rfl⟩ : ∃ c, cap = c + 1 := ⟨cap - 1, by omega⟩
    rw [Nat.succ_mul] at hs
    refine .inr ⟨g, o + size, c, cur, by rw [Nat.add_sub_cancel], hb, hgg, by omega, by omega, by omega, ?_⟩
    rw [← List.drop_drop]
    have h2 : ((cur.toList.drop o).take ((n + 1) * size)).drop size = xs := by rw [ht, ← hx, List.drop_left]
    rw [List.drop_take] at h2
    rw [← h2]
    congr 1
    rw [Nat.succ_mul]
    omega
/-- nothing of a slice of one element -/
theorem ownsOff.none_left {g o cap : Nat} {x : List Value} (h : ownsOff w base T size (.slice (some ⟨g, o, none⟩) 1 cap) 1 x) : ownsOff w base T size (.slice (some ⟨g, o, none⟩) 0 0) 0 [] := by
  refine ⟨by simp, ?_⟩
  rcases h.2 with ⟨hv, _⟩ | ⟨g', o', cap', cur, hv, hb, hgg, hn, hc, hs, ht⟩
  · simp at hv
  · simp only [Value.slice.injEq, Option.some.injEq, Addr.mk.injEq] at hv
    obtain ⟨⟨rfl, rfl, _⟩, _, rfl⟩ := hv
    exact .inr ⟨g, o, 0, cur, rfl, hb, hgg, Nat.le_refl _, Nat.zero_le _, by omega, by simp⟩
end
section
variable {P : Program}
theorem src_of {w : World} {x : Value} {m size : Nat} {news : List Value} {tx e' : TypeId} (hk : P.underlying tx = some (.slice e')) (h : Src w x m news) (hl : news.length = m * size) (h1 : ∀ u ∈ news, u.oneCell' = true) : Go.Src P size tx x m news w := by
  rcases h with ⟨rfl, rfl, rfl⟩ | ⟨ad, c, rfl, hc⟩
  · exact Go.Src.ofNil w hk 0
  · exact Go.Src.ofSlice w hk ad m c news hl hc h1
theorem run_append_off {tsl ty T : TypeId} {z : Value} {size bytes : Nat} (ht : P.underlying tsl = some (.slice T)) (hinfo : (P.info? T).map (fun i => (i.zero, i.size, i.bytes)) = some (some z, size, bytes))
    (hzs : z.cells.size = size) (hpos : 0 < size) {w : World} {base : Nat} {v x : Value} {n m : Nat} {xs news : List Value} (hb : ownsOff w base T size v n xs) (hbase : base ≤ w.heap.size) (hS : Go.Src P size tsl x m news w) (h63 : n + m ≤ maxLen) (hbytes : (n + m) * bytes ≤ 140737488355328) :
    ∃ v' w', (Builtin.append_ #[tsl, tsl] ty #[v, x]).run P w = .ok v' w' ∧ ownsOff w' base T size v' (n + m) (xs ++ news) ∧ w.grownBy w' v.ownBlock := by
  have hn := hS.newsLen
  have h1 := hS.one
  obtain ⟨i, hi, hz, hsize, hby⟩ := info_parts hinfo
  subst hsize
  subst hby
  have hlen : (xs ++ news).length = (n + m) * i.size := by rw [List.length_append, hb.1, hn, Nat.add_mul]
  have h63' : ((n + m : Nat) : Int) ≤ 9223372036854775807 := by simp only [maxLen] at h63; omega
  have grown : ∀ (base0 : Option Addr) (cap : Nat), cap < n + m → (Builtin.firstCells i.size n (.slice base0 n cap)).run P w.drew = .ok xs.toArray w.drew → ∀ row,
      ∃ v' w', (Builtin.append_ #[tsl, tsl] ty #[.slice base0 n cap, x]).run P w = .ok v' w' ∧ ownsOff w' base T i.size v' (n + m) (xs ++ news) ∧ w.grownBy w' row := by
    intro base0 cap hg hold row
    have hr := run_append_grow_src (P := P) w tsl tsl ty T i z ht hi hz base0 n cap xs hold x m news hS hg h63' (growslice_fits hg hbytes)
    have hge := grownCap_ge w (n + m) cap T
    have hcm : grownCap w (n + m) cap T ≤ maxLen := grownCap_le_maxLen w (n + m) cap T h63
    refine ⟨_, _, hr, ownsOff.of_row ⟨hlen, .inr ⟨w.heap.size, _, _, rfl, hbase, heap_alloc_new w.drew _, hge, hcm, ?_, ?_⟩⟩, ⟨rfl, rfl, rfl, by simp, fun k hk _ => heap_alloc_old w.drew _ hk⟩⟩
    · simp only [Array.size_append, List.size_toArray, size_zeroCells, hzs, hlen, ← Nat.add_mul]
      congr 1
      omega
    · simp only [Array.toList_append, List.append_assoc]
      rw [← List.append_assoc, ← hlen]
      exact List.take_left
  rcases hb.2 with ⟨rfl, rfl⟩ | ⟨g, o, cap, cur, rfl, hbg, hg, hnc, hcm, hcs, htake⟩
  · have hxs : xs = [] := List.eq_nil_of_length_eq_zero (by simpa using hb.1)
    subst hxs
    by_cases hm : m = 0
    · subst hm
      have hnn : news = [] := List.eq_nil_of_length_eq_zero (by simpa using hn)
      subst hnn
      refine ⟨.slice none 0 0, w, ?_, hb, ⟨rfl, rfl, rfl, Nat.le_refl _, fun _ _ _ => rfl⟩⟩
      simp [Builtin.append_, run_underlying ht, sizeOf, typeInfo, hi, hS.len, hS.cells]
    · refine grown none 0 (by omega) ?_ _
      simp [Builtin.firstCells]
  · by_cases hroom : n + m ≤ cap
    · have hfit : o + n * i.size + news.length ≤ cur.size := by
        rw [hn, Nat.add_assoc, ← Nat.add_mul]
        exact Nat.le_trans (Nat.add_le_add_left (Nat.mul_le_mul_right _ hroom) _) hcs
      have hst := run_storeCells_at P g (o + n * i.size) T news 0 cur w hg (by simpa using hfit) h1
      simp only [Nat.add_zero] at hst
      have hr : (Builtin.append_ #[tsl, tsl] ty #[.slice (some ⟨g, o, none⟩) n cap, x]).run P w = .ok (.slice (some ⟨g, o, none⟩) (n + m) cap) (w.setRow g (cur.toList.take (o + n * i.size) ++ news ++ cur.toList.drop (o + n * i.size + news.length)).toArray) := by
        simp [Builtin.append_, run_underlying ht, sizeOf, typeInfo, hi, hS.len, hroom, hS.cells, Addr.add_lit, hst]
      refine ⟨_, _, hr, ⟨hlen, .inr ⟨g, o, cap, _, rfl, hbg, setRow_heap w g cur _ T _ hg, hroom, hcm, ?_, ?_⟩⟩, ⟨rfl, rfl, rfl, by simp, fun k _ hk => setRow_other w g k _ (fun e => hk (by simp [Value.ownBlock, e]))⟩⟩
      · simp only [List.size_toArray, List.length_append, List.length_take, List.length_drop, Array.length_toList]
        omega
      · have e1 : (cur.toList.take (o + n * i.size)).drop o = xs := by rw [List.drop_take, Nat.add_sub_cancel_left, htake]
        have e2 : (cur.toList.take (o + n * i.size)).length = o + n * i.size := by rw [List.length_take, Array.length_toList]; omega
        have e3 : ((cur.toList.take (o + n * i.size) ++ news ++ cur.toList.drop (o + n * i.size + news.length)).toArray.toList).drop o = xs ++ news ++ cur.toList.drop (o + n * i.size + news.length) := by
          show (cur.toList.take (o + n * i.size) ++ news ++ cur.toList.drop (o + n * i.size + news.length)).drop o = _
          rw [List.append_assoc, List.drop_append_of_le_length (by omega), e1, List.append_assoc]
        rw [e3, ← hlen]
        exact List.take_left
    · refine grown (some ⟨g, o, none⟩) cap (by omega) ?_ _
      have hc := hb.cellAt
      have := run_firstCells_some (P := P) w.drew i.size n ⟨g, o, none⟩ n cap xs hb.1 (fun j u hu => by rw [add_off]; simpa using hc j u hu)
      exact this
theorem wpList_append_off {ops : Array Oper} {rest : List Oper} {o : Oper} {a : Act} {Q : Exit → Act → World → Prop} {T tsl : TypeId} {z : Value} {size bytes : Nat} (hgd : o.guard = none) (s x : Operand)
    (ho : o.op = .call { callee := .builtin .append, args := #[s, x], argTypes := #[tsl, tsl] }) (ht : P.underlying tsl = some (.slice T)) (hinfo : (P.info? T).map (fun i => (i.zero, i.size, i.bytes)) = some (some z, size, bytes))
    (hzs : z.cells.size = size) (hpos : 0 < size) {w : World} {base : Nat} {v u : Value} {n m : Nat} {xs news : List Value} (hs : a.eval s = v) (hb : ownsOff w base T size v n xs) (hbase : base ≤ w.heap.size) (hx : a.eval x = u) (hsrc : Go.Src P size tsl u m news w) (h63 : n + m ≤ maxLen) (hbytes : (n + m) * bytes ≤ 140737488355328)
    (hK : ∀ v' w', ownsOff w' base T size v' (n + m) (xs ++ news) → w.grownBy w' v.ownBlock → wpList P ops Q rest (a.put o.dst v') w') : wpList P ops Q (o :: rest) a w := by
  refine wpList_plain hgd fun K hK' => ?_
  obtain ⟨v', w', hr, h2, h3⟩ := run_append_off (P := P) (ty := o.type) ht hinfo hzs hpos hb hbase hsrc h63 hbytes
  unfold Oper.wp
  simp [execOp, ho, resolve, invoke, builtin, hs, hx, hr, Result.andThen]
  exact hK' _ _ (hK v' w' h2 h3)
theorem step_append_off {ops : Array Oper} {o : Oper} {a : Act} {K : Act → World → Prop} {Q : Exit → Act → World → Prop} {E : Prop} {T tsl : TypeId} {z : Value} {size bytes : Nat} (hgd : o.guard = none) (s x : Operand)
    (ho : o.op = .call { callee := .builtin .append, args := #[s, x], argTypes := #[tsl, tsl] }) (ht : P.underlying tsl = some (.slice T)) (hinfo : (P.info? T).map (fun i => (i.zero, i.size, i.bytes)) = some (some z, size, bytes))
    (hzs : z.cells.size = size) (hpos : 0 < size) {w : World} {base : Nat} {v u : Value} {n m : Nat} {xs news : List Value} (hs : a.eval s = v) (hb : ownsOff w base T size v n xs) (hbase : base ≤ w.heap.size) (hx : a.eval x = u) (hsrc : Go.Src P size tsl u m news w) (h63 : n + m ≤ maxLen) (hbytes : (n + m) * bytes ≤ 140737488355328)
    (hK : ∀ v' w', ownsOff w' base T size v' (n + m) (xs ++ news) → w.grownBy w' v.ownBlock → K (a.put o.dst v') w') : if Region.wanted o (yielded ops a.tmps) = true then Oper.wp P o a w K Q else E := by
  have hw : Region.wanted o (yielded ops a.tmps) = true := by simp [Region.wanted, hgd]
  rw [if_pos hw]
  obtain ⟨v', w', hr, h2, h3⟩ := run_append_off (P := P) (ty := o.type) ht hinfo hzs hpos hb hbase hsrc h63 hbytes
  unfold Oper.wp
  simp [execOp, ho, resolve, invoke, builtin, hs, hx, hr, Result.andThen]
  exact hK v' w' h2 h3
/-- an operation that makes one new block, at a step of a region that draws its order -/
theorem step_alloc {ops : Array Oper} {o : Oper} {a : Act} {K : Act → World → Prop} {Q : Exit → Act → World → Prop} {E : Prop} (hgd : o.guard = none) {w : World} (T : TypeId) (cs : Array Value)
    (hrun : ∀ (ρ : Operand → Value) (W : World), (execOp ρ o).run P W = .ok (.value (.pointer (some ⟨W.heap.size, 0, none⟩))) (W.alloc (.cells cs T)))
    (hK : ∀ g w', w'.heap[g]? = some (.cells cs T (0, 0)) → w.heap.size ≤ g → g < w'.heap.size → Below w.heap.size w w' → K (a.put o.dst (.pointer (some ⟨g, 0, none⟩))) w') : if Region.wanted o (yielded ops a.tmps) = true then Oper.wp P o a w K Q else E := by
  have hw : Region.wanted o (yielded ops a.tmps) = true := by simp [Region.wanted, hgd]
  rw [if_pos hw]
  unfold Oper.wp
  rw [hrun, Oper.upon_value]
  refine hK _ _ ?_ (Nat.le_refl _) (by simp) ((Below.refl _ _).alloc (Nat.le_refl _) _)
  unfold World.alloc
  simp
/-- an empty slice literal -/
theorem step_empty {ops : Array Oper} {o : Oper} {a : Act} {K : Act → World → Prop} {Q : Exit → Act → World → Prop} {E : Prop} (hgd : o.guard = none) {w : World} (T : TypeId) (size : Nat) (H : Nat)
    (hrun : ∀ (ρ : Operand → Value) (W : World), (execOp ρ o).run P W = .ok (.value (.slice (some ⟨W.heap.size, 0, none⟩) 0 0)) (W.alloc (.cells #[] T))) (hH : H ≤ w.heap.size)
    (hK : ∀ g w', ownsOff w' H T size (.slice (some ⟨g, 0, none⟩) 0 0) 0 [] → w.heap.size ≤ g → g < w'.heap.size → Below w.heap.size w w' → K (a.put o.dst (.slice (some ⟨g, 0, none⟩) 0 0)) w') : if Region.wanted o (yielded ops a.tmps) = true then Oper.wp P o a w K Q else E := by
  have hw : Region.wanted o (yielded ops a.tmps) = true := by simp [Region.wanted, hgd]
  rw [if_pos hw]
  unfold Oper.wp
  rw [hrun, Oper.upon_value]
  refine hK _ _ ?_ (Nat.le_refl _) (by simp) ((Below.refl _ _).alloc (Nat.le_refl _) _)
  have h := ownsOff.of_row (Bld.empty T size w).1
  refine ⟨h.1, ?_⟩
  rcases h.2 with h' | ⟨g, o, cap, cur, hv, hb', r⟩
  · exact .inl h'
  · exact .inr ⟨g, o, cap, cur, hv, Nat.le_trans hH hb', r⟩
end
end Go.Proofs.YtdhaebbfiaddnaaGreatDoor
namespace Go.Proofs.YtdhaebbfiaddnaaGreatDoor
open Go.RowKit
set_option linter.unusedVariables false
/-- the value of a work -/
def workVal (k : Int) (aR : Option Addr) (nR cR : Nat) (aQ : Option Addr) (nQ cQ : Nat) (T : Nat) : Value := .agg #[.int .i64 k, .slice aR nR cR, .slice aQ nQ cQ, .int .i64 (T : Nat)]
theorem box_four {W : World} {T : TypeId} {a b c d : Value} {W2 : World} (hb : Below (W.alloc (.cells #[a, b, c, d] T)).heap.size (W.alloc (.cells #[a, b, c, d] T)) W2) :
    (W2.cell? ⟨W.heap.size, 0, none⟩ = some a ∧ W2.cell? ⟨W.heap.size, 1, none⟩ = some b ∧ W2.cell? ⟨W.heap.size, 2, none⟩ = some c ∧ W2.cell? ⟨W.heap.size, 3, none⟩ = some d) ∧
    W2.frozen? ⟨W.heap.size, 0, none⟩ = false ∧ W2.frozen? ⟨W.heap.size, 1, none⟩ = false ∧ W2.frozen? ⟨W.heap.size, 2, none⟩ = false ∧ W2.frozen? ⟨W.heap.size, 3, none⟩ = false := by
  have h := (hb.block W.heap.size (by simp)).trans (alloc_at W _)
  refine ⟨⟨?_, ?_, ?_, ?_⟩, ?_, ?_, ?_, ?_⟩ <;> simp [World.cell?, World.frozen?, h]
theorem ruleCells_one : ∀ (l : List RulD), ∀ u ∈ ruleCells l, u.oneCell' = true
  | [], u, hu => by cases hu
  | p :: l, u, hu => by
    simp only [ruleCells, List.mem_cons] at hu
    rcases hu with rfl | rfl | hu
    · rfl
    · rfl
    · exact ruleCells_one l u hu
theorem src_rules {P : Program} {w : World} {a : Option Addr} {l : List RulD} {tx e' : TypeId} (hk : P.underlying tx = some (.slice e')) (h : RulesIn w a l) (cap : Nat) : Go.Src P 2 tx (.slice a l.length cap) l.length (ruleCells l) w := by
  cases a with
  | none =>
    rcases h with h | ⟨b, off, ha, hc⟩
    · have hl := ruleCells_len l
      rw [h] at hl
      obtain rfl : l = [] := List.eq_nil_of_length_eq_zero (by simp at hl; omega)
      exact Go.Src.ofNil w hk cap
    · cases ha
  | some ad =>
    refine Go.Src.ofSlice w hk ad l.length cap (ruleCells l) (ruleCells_len l) (fun j u hu => ?_) (ruleCells_one l)
    rcases h with h | ⟨b, off, ha, hc⟩
    · rw [h] at hu; cases hu
    · cases ha
      rw [add_off]
      obtain ⟨hj, rfl⟩ := List.getElem?_eq_some_iff.1 hu
      exact hc j hj
end Go.Proofs.YtdhaebbfiaddnaaGreatDoor
namespace Go.Proofs.YtdhaebbfiaddnaaGreatDoor
open Go.RowKit
set_option linter.unusedVariables false
/-- what a work is handed back as: its rules and its equations in memory of the call's own -/
def RetCp (k : Int) (R Q : List RulD) (T : Nat) (w : World) (e : Ending) (w' : World) : Prop :=
  ∃ aR cR aQ cQ, e = .returned (workVal k aR R.length cR aQ Q.length cQ T) ∧ ownsOff w' w.heap.size 36 2 (.slice aR R.length cR) R.length (ruleCells R) ∧ ownsOff w' w.heap.size 36 2 (.slice aQ Q.length cQ) Q.length (ruleCells Q) ∧ Below w.heap.size w w'
theorem ownsOff.mono {w : World} {base base' : Nat} {T : TypeId} {size : Nat} {v : Value} {n : Nat} {xs : List Value} (h : ownsOff w base T size v n xs) (hb : base' ≤ base) : ownsOff w base' T size v n xs := by
  refine ⟨h.1, ?_⟩
  rcases h.2 with h' | ⟨g, o, cap, cur, hv, hb', r⟩
  · exact .inl h'
  · exact .inr ⟨g, o, cap, cur, hv, by omega, r⟩
theorem ownsOff.setBelow {w : World} {base : Nat} {T : TypeId} {size : Nat} {v : Value} {n : Nat} {xs : List Value} (h : ownsOff w base T size v n xs) {p : Addr} (hp : p.block < base) (u : Value) : ownsOff (w.setCell p u) base T size v n xs := by
  refine ⟨h.1, ?_⟩
  rcases h.2 with h' | ⟨g, o, cap, cur, hv, hb', hg, r⟩
  · exact .inl h'
  · refine .inr ⟨g, o, cap, cur, hv, hb', ?_, r⟩
    unfold World.setCell
    rw [Array.getElem?_modify, if_neg (fun e => by omega)]
    exact hg
theorem off_empty (T : TypeId) (size : Nat) (w1 : World) : ∀ W, Below (w1.alloc (.cells #[] T)).heap.size (w1.alloc (.cells #[] T)) W → ownsOff W w1.heap.size T size (.slice (some ⟨w1.heap.size, 0, none⟩) 0 0) 0 [] := fun W h => (ownsOff.of_row (Bld.empty T size w1).1).later h
theorem off_empty2 (T : TypeId) (size : Nat) (w1 : World) (o : Obj) : ∀ W, Below ((w1.alloc o).alloc (.cells #[] T)).heap.size ((w1.alloc o).alloc (.cells #[] T)) W → ownsOff W w1.heap.size T size (.slice (some ⟨w1.heap.size + 1, 0, none⟩) 0 0) 0 [] := fun W h => by
  have h1 := (off_empty T size (w1.alloc o) W h).mono (show w1.heap.size ≤ (w1.alloc o).heap.size by simp)
  have e : (w1.alloc o).heap.size = w1.heap.size + 1 := by simp
  rw [e] at h1
  exact h1
theorem alloc_two (w1 : World) (o o2 : Obj) : ((w1.alloc o).alloc o2).heap[w1.heap.size]? = some o ∧ ((w1.alloc o).alloc o2).heap[w1.heap.size + 1]? = some o2 := by
  have h1 := alloc_at w1 o
  have h2 := alloc_at (w1.alloc o) o2
  have e : (w1.alloc o).heap.size = w1.heap.size + 1 := by simp
  rw [e] at h2
  exact ⟨by rw [(alloc_belowS (w1.alloc o) o2).block w1.heap.size (by rw [e]; omega)]; exact h1, h2⟩
/-- the two fields of a box are set -/
theorem set_two {W : World} {g : Nat} {x y : Value} {T : TypeId} (h : W.heap[g]? = some (.cells #[x, y] T (0, 0))) (u v : Value) : ((W.setCell ⟨g, 0, none⟩ u).setCell ⟨g, 1, none⟩ v).heap[g]? = some (.cells #[u, v] T (0, 0)) := by
  unfold World.setCell
  simp [Array.getElem?_modify, h]
/-- a box of another type is set -/
theorem ownsOff.set2 {w : World} {base : Nat} {T T' : TypeId} {size : Nat} {v : Value} {n : Nat} {xs : List Value} (h : ownsOff w base T size v n xs) {g : Nat} {cs : Array Value} {fr : Nat × Nat} (hg : w.heap[g]? = some (.cells cs T' fr)) (hne : T ≠ T') (o1 o2 : Nat) (u1 u2 : Value) :
    ownsOff ((w.setCell ⟨g, o1, none⟩ u1).setCell ⟨g, o2, none⟩ u2) base T size v n xs := by
  refine ⟨h.1, ?_⟩
  rcases h.2 with h' | ⟨g1, o, cap, cur, hv, hb', hg1, r⟩
  · exact .inl h'
  · refine .inr ⟨g1, o, cap, cur, hv, hb', ?_, r⟩
    have hn : g ≠ g1 := fun e => by
      subst e
      rw [hg] at hg1
      simp only [Option.some.injEq, Obj.cells.injEq] at hg1
      exact hne hg1.2.1.symm
    unfold World.setCell
    rw [Array.getElem?_modify, if_neg hn, Array.getElem?_modify, if_neg hn]
    exact hg1
end Go.Proofs.YtdhaebbfiaddnaaGreatDoor
namespace Go.Proofs.YtdhaebbfiaddnaaGreatDoor
open Go.RowKit
set_option linter.unusedVariables false
def RetRule (m : Nat) (w : World) (e : Ending) (w' : World) : Prop := ∃ (x y : ByteArray) (b : Bool), (x.size ≤ m ∧ y.size ≤ m) ∧ e = .returned (.tuple #[.agg #[.string x, .string y], .bool b]) ∧ Below w.heap.size w w'
/-- two strings in a row of their own -/
def TwoS (m B : Nat) (w wr : World) (v : Value) : Prop := ∃ x y : ByteArray, (x.size ≤ m ∧ y.size ≤ m) ∧ wr.ownsRow (B + 1) 9 1 v 2 [.string x, .string y] ∧ Below B w wr ∧ wr.heap[B]? = some (.cells #[.string ⟨#[]⟩, .string ⟨#[]⟩] 36 (0, 0))
theorem TwoS.mk {m B : Nat} {w wr : World} {v : Value} {l : List ByteArray} (h2 : l.length = 2) (hl : ShortS m l) (ho : wr.ownsRow (B + 1) 9 1 v l.length (strVals l)) (hb : Below B w wr) (h0 : wr.heap[B]? = some (.cells #[.string ⟨#[]⟩, .string ⟨#[]⟩] 36 (0, 0))) : TwoS m B w wr v := by
  match l, h2 with
  | [x, y], _ => exact ⟨x, y, ⟨hl x (by simp), hl y (by simp)⟩, ho, hb, h0⟩
theorem TwoS.form {m B : Nat} {w wr : World} {a : Option Addr} {n cap : Nat} (h : TwoS m B w wr (.slice a n cap)) : ∃ g, a = some ⟨g, 0, none⟩ ∧ B + 1 ≤ g ∧ n = 2 := by
  obtain ⟨x, y, hs, ho, hb, h0⟩ := h
  rcases ho.2 with ⟨hv, h0⟩ | ⟨g, cap', cur, hv, hb', r⟩
  · cases h0
  · simp only [Value.slice.injEq] at hv
    exact ⟨g, hv.1, hb', hv.2.1⟩
theorem TwoS.store {m B : Nat} {w wr : World} {g cap : Nat} (h : TwoS m B w wr (.slice (some ⟨g, 0, none⟩) 2 cap)) (hg : B + 1 ≤ g) (i : Nat) : i < 2 → TwoS m B w (wr.setCell ⟨g, i, none⟩ (.string ⟨#[]⟩)) (.slice (some ⟨g, 0, none⟩) 2 cap) := by
  intro hi
  obtain ⟨x, y, hs, ho, hb, h0⟩ := h
  have hz : (⟨#[]⟩ : ByteArray).size = 0 := rfl
  have hst := (ho.stored i (.string ⟨#[]⟩)).1
  have hblk : (wr.setCell ⟨g, i, none⟩ (.string ⟨#[]⟩)).heap[B]? = some (.cells #[.string ⟨#[]⟩, .string ⟨#[]⟩] 36 (0, 0)) := by
    rw [← h0]
    unfold World.setCell
    rw [Array.getElem?_modify, if_neg (by show ¬ g = B; omega)]
  match i, hi with
  | 0, _ => exact ⟨⟨#[]⟩, y, by omega, hst, hb.setCell (by show B ≤ g; omega) _, hblk⟩
  | 1, _ => exact ⟨x, ⟨#[]⟩, by omega, hst, hb.setCell (by show B ≤ g; omega) _, hblk⟩
theorem RetRule.zero {m : Nat} {w wr : World} (h : Below w.heap.size w wr) : RetRule m w (.returned (.tuple #[.agg #[.string ⟨#[]⟩, .string ⟨#[]⟩], .bool false])) ((wr.setCell ⟨w.heap.size, 0, none⟩ (.string ⟨#[]⟩)).setCell ⟨w.heap.size, 1, none⟩ (.string ⟨#[]⟩)) := by
  have hz : (⟨#[]⟩ : ByteArray).size = 0 := rfl
  exact ⟨⟨#[]⟩, ⟨#[]⟩, false, by omega, rfl, (h.setCell (Nat.le_refl _) _).setCell (Nat.le_refl _) _⟩
set_option maxRecDepth 20000 in
set_option maxHeartbeats 4000000 in
theorem specParseRule_any (s : ByteArray) (w : World) (hs : s.size ≤ 2 ^ 20) :
    Calls Tryz.prog 96 #[.string s] w (RetRule s.size w) := by
  have HSP := Lib.hid (fun W => specSplitAny_any s 62 W hs)
  have hz1 : (⟨#[]⟩ : ByteArray).size = 0 := rfl
  go_enter Tryz.func96, Tryz.ntmps96
  go_wp2_with fail
  refine (HSP.out _).mono ?_
  rintro e w2 ⟨l, ⟨hl1, hl2, hl3⟩, a, cap, rfl, ho, hb2⟩
  have hb0 := (hb2.block w.heap.size (by simp)).trans (alloc_at w (.cells #[.string ⟨#[]⟩, .string ⟨#[]⟩] 36))
  have hf0 : w2.frozen? ⟨w.heap.size, 0, none⟩ = false ∧ w2.frozen? ⟨w.heap.size, 1, none⟩ = false := by simp [World.frozen?, hb0]
  obtain ⟨f0, f1⟩ := hf0
  have HW1 := Lib.hid ((Below.refl w.heap.size w).alloc (Nat.le_refl _) (.cells #[.string ⟨#[]⟩, .string ⟨#[]⟩] 36))
  by_cases h2 : l.length = 2
  · have HT : Hid (TwoS s.size w.heap.size w w2 (.slice a 2 cap)) := Lib.hid (TwoS.mk h2 hl1 (by rw [← h2]; simpa using ho) (Below.now HW1.out hb2) hb0)
    have HZ0 : Hid (w2.heap[w.heap.size]? = some (.cells #[.string ⟨#[]⟩, .string ⟨#[]⟩] 36 (0, 0))) := Lib.hid hb0
    clear hb2 ho hb0 f0 f1
    rw [h2]
    clear h2 hl1 hl2 hl3
    obtain ⟨g, rfl, hg, _⟩ := HT.out.form
    go_wp2_with fail
    go_loopw [16] (fun i wr => ∃ j : Nat, j ≤ 2 ∧ i = .int .i64 (j : Nat) ∧ Hid (TwoS s.size w.heap.size w wr (.slice (some ⟨g, 0, none⟩) 2 cap))) (fun i _ => 2 - (intOf i).toNat)
    case atStart => exact ⟨0, by omega, rfl, HT⟩
    case round =>
      clear HT HZ0
      obtain ⟨j, hj, rfl, HT⟩ := hrel
      obtain ⟨x, y, ⟨hx, hy⟩, ho, hb, h0⟩ := HT.out
      have H0 := Lib.hid h0
      have c0 : wr.cell? ⟨g, 0, none⟩ = some (.string x) := ho.cellAt 0 (by omega)
      have c1 : wr.cell? ⟨g, 1, none⟩ = some (.string y) := ho.cellAt 1 (by omega)
      have f0 := ho.frozenAt 0
      have f1 := ho.frozenAt 1
      have HS := Lib.hid (HT.out.store hg)
      clear h0
      have hj3 : j = 0 ∨ j = 1 ∨ j = 2 := by omega
      rcases hj3 with rfl | rfl | rfl
      · have HS0 := Lib.hid (HS.out 0 (by omega))
        go_wp2_with fail
        · go_roundw
          case rel => exact ⟨1, by omega, by go_num, HS0⟩
          case measure => simp [intOf]
        · go_roundw
          case rel => exact ⟨1, by omega, by go_num, HT⟩
          case measure => simp [intOf]
      · have HS1 := Lib.hid (HS.out 1 (by omega))
        go_wp2_with fail
        · go_roundw
          case rel => exact ⟨2, by omega, by go_num, HS1⟩
          case measure => simp [intOf]
        · go_roundw
          case rel => exact ⟨2, by omega, by go_num, HT⟩
          case measure => simp [intOf]
      · have p0 : ∀ o, (wr.alloc o).cell? ⟨g, 0, none⟩ = some (.string x) := fun o => by rw [(alloc_belowS wr o).cell (World.block_lt_of_cell? wr _ c0)]; exact c0
        have p1 : ∀ o, (wr.alloc o).cell? ⟨g, 1, none⟩ = some (.string y) := fun o => by rw [(alloc_belowS wr o).cell (World.block_lt_of_cell? wr _ c1)]; exact c1
        go_wp2_with fail
        go_upto_region 10 with fail
        go_cut [7] (fun v wx => v = .pointer (some ⟨wr.heap.size, 0, none⟩) ∧ wx.heap[wr.heap.size]? = some (.cells #[.string x, .string y] 36 (0, 0)) ∧ Below wr.heap.size wr wx)
        case first =>
          go_region_law (fail)
          all_goals
            go_wp2_with fail
            go_meet
            exact ⟨rfl, alloc_at wr _, Below.drew (alloc_belowS wr _)⟩
        case rest =>
          obtain ⟨rfl, hbx, hbc⟩ := hcut
          have hz := (hbc.block w.heap.size (Array.getElem?_eq_some_iff.1 H0.out).1).trans H0.out
          have HBW := Lib.hid (Below.now hb hbc)
          obtain ⟨s0, s1⟩ := sys_cells hbx
          clear hbc H0 p0 p1 c0 c1 f0 f1 hb ho HT HS
          have PW := Lib.hid (fun v W (h : v.size ≤ s.size) => specWordOk_any 4 v W (by unfold maxLen; omega))
          cases h1 : wordOkB 4 x
          · have F := Lib.hid (RetRule.zero (m := s.size) HBW.out)
            obtain ⟨z0, z1⟩ := sys_cells hz
            obtain ⟨u0, u1⟩ := sys_cells (set_two hz (.string ⟨#[]⟩) (.string ⟨#[]⟩))
            have ff0 : wc.frozen? ⟨w.heap.size, 0, none⟩ = false := by simp [World.frozen?, hz]
            have ff1 : wc.frozen? ⟨w.heap.size, 1, none⟩ = false := by simp [World.frozen?, hz]
            clear hz
            go_wp2_with (go_at_call 130; refine (PW.out _ _ (by first | exact hx | exact hy)).mono ?_; rintro e w' ⟨rfl, rfl⟩; (try rw [h1]))
            refine bodyPost_ret (v := .tuple #[.agg #[.string ⟨#[]⟩, .string ⟨#[]⟩], .bool false]) ?_ rfl F.out
            simp [results, Tryz.results96, go_sem, u0, u1]
          · cases h2 : wordOkB 4 y
            · have F := Lib.hid (RetRule.zero (m := s.size) HBW.out)
              obtain ⟨z0, z1⟩ := sys_cells hz
              obtain ⟨u0, u1⟩ := sys_cells (set_two hz (.string ⟨#[]⟩) (.string ⟨#[]⟩))
              have ff0 : wc.frozen? ⟨w.heap.size, 0, none⟩ = false := by simp [World.frozen?, hz]
              have ff1 : wc.frozen? ⟨w.heap.size, 1, none⟩ = false := by simp [World.frozen?, hz]
              clear hz
              go_wp2_with (go_at_call 130; refine (PW.out _ _ (by first | exact hx | exact hy)).mono ?_; rintro e w' ⟨rfl, rfl⟩; (try rw [h1]); (try rw [h2]))
              refine bodyPost_ret (v := .tuple #[.agg #[.string ⟨#[]⟩, .string ⟨#[]⟩], .bool false]) ?_ rfl F.out
              simp [results, Tryz.results96, go_sem, u0, u1]
            · have HFR := Lib.hid (fun W => specFormatRule_any x y W (by unfold maxLen; omega))
              have HZ := Lib.hid hz
              clear hz
              go_wp2_with (go_at_call 130; refine (PW.out _ _ (by first | exact hx | exact hy)).mono ?_; rintro e w' ⟨rfl, rfl⟩; (try rw [h1]); (try rw [h2]))
              refine (HFR.out _).mono ?_
              rintro e w3 ⟨rfl, hb3⟩
              have hz := (hb3.block w.heap.size (Array.getElem?_eq_some_iff.1 HZ.out).1).trans HZ.out
              obtain ⟨s0, s1⟩ := sys_cells ((hb3.block wr.heap.size (Array.getElem?_eq_some_iff.1 hbx).1).trans hbx)
              replace HBW := Lib.hid (Below.now HBW.out hb3)
              clear hb3 hbx HZ HFR PW
              generalize ruleT (x, y) = rt at *
              cases hq : (rt.toList == s.toList)
              · have F := Lib.hid (RetRule.zero (m := s.size) HBW.out)
                obtain ⟨z0, z1⟩ := sys_cells hz
                obtain ⟨u0, u1⟩ := sys_cells (set_two hz (.string ⟨#[]⟩) (.string ⟨#[]⟩))
                have ff0 : w3.frozen? ⟨w.heap.size, 0, none⟩ = false := by simp [World.frozen?, hz]
                have ff1 : w3.frozen? ⟨w.heap.size, 1, none⟩ = false := by simp [World.frozen?, hz]
                clear hz
                go_wp2_with fail
                refine bodyPost_ret (v := .tuple #[.agg #[.string ⟨#[]⟩, .string ⟨#[]⟩], .bool false]) ?_ rfl F.out
                simp [results, Tryz.results96, go_sem, u0, u1]
              · have F : Hid (RetRule s.size w (.returned (.tuple #[.agg #[.string x, .string y], .bool true])) ((w3.setCell ⟨w.heap.size, 0, none⟩ (.string x)).setCell ⟨w.heap.size, 1, none⟩ (.string y))) := Lib.hid ⟨x, y, true, ⟨hx, hy⟩, rfl, (HBW.out.setCell (Nat.le_refl _) _).setCell (Nat.le_refl _) _⟩
                obtain ⟨z0, z1⟩ := sys_cells hz
                obtain ⟨u0, u1⟩ := sys_cells (set_two hz (.string x) (.string y))
                have ff0 : w3.frozen? ⟨w.heap.size, 0, none⟩ = false := by simp [World.frozen?, hz]
                have ff1 : w3.frozen? ⟨w.heap.size, 1, none⟩ = false := by simp [World.frozen?, hz]
                clear hz
                go_wp2_with fail
                refine bodyPost_ret (v := .tuple #[.agg #[.string x, .string y], .bool true]) ?_ rfl F.out
                simp [results, Tryz.results96, go_sem, u0, u1]
  · have h2i : ((l.length : Int) == 2) = false := beq_eq_false_iff_ne.2 (by omega)
    have h2n : ¬ (l.length : Int) = 2 := by omega
    have F := Lib.hid (RetRule.zero (m := s.size) (Below.now HW1.out hb2))
    obtain ⟨z0, z1⟩ := sys_cells hb0
    obtain ⟨u0, u1⟩ := sys_cells (set_two hb0 (.string ⟨#[]⟩) (.string ⟨#[]⟩))
    clear hb2 ho
    go_wp2_with fail
    refine bodyPost_ret (v := .tuple #[.agg #[.string ⟨#[]⟩, .string ⟨#[]⟩], .bool false]) ?_ rfl F.out
    simp [results, Tryz.results96, go_sem, u0, u1]
end Go.Proofs.YtdhaebbfiaddnaaGreatDoor
namespace Go.Proofs.YtdhaebbfiaddnaaGreatDoor
open Go.RowKit
set_option linter.unusedVariables false
section
variable {P : Program}
/-- append of one element to a row that lies from H on, at a plain region's list -/
theorem wpList_appH {ops : Array Oper} {rest : List Oper} {o : Oper} {a : Act} {Q : Exit → Act → World → Prop} {T tsl : TypeId} {z : Value} {size bytes : Nat} (hg : o.guard = none) (s x : Operand)
    (ho : o.op = .call { callee := .builtin .append, args := #[s, x], argTypes := #[tsl, tsl] }) (ht : P.underlying tsl = some (.slice T)) (hinfo : (P.info? T).map (fun i => (i.zero, i.size, i.bytes)) = some (some z, size, bytes))
    (hzs : z.cells.size = size) (hpos : 0 < size) {H : Nat} {wr : World} {v : Value} {n : Nat} {xs news : List Value} (hs : a.eval s = v) (hb : wr.ownsRow H T size v n xs) (hH : H ≤ wr.heap.size) (hx : a.eval x = .slice (some ⟨wr.heap.size, 0, none⟩) 1 1)
    (hn : news.length = size) (h1 : ∀ u ∈ news, u.oneCell' = true) (h63 : n + 1 ≤ maxLen) (hbytes : (n + 1) * bytes ≤ 140737488355328)
    (hK : ∀ g cap w', w'.ownsRow H T size (.slice (some ⟨g, 0, none⟩) (n + 1) cap) (n + 1) (xs ++ news) → (wr.alloc (.cells news.toArray T)).grownBy w' v.ownBlock → ((Value.slice (some ⟨g, 0, none⟩) (n + 1) cap).ownBlock = v.ownBlock ∨ (Value.slice (some ⟨g, 0, none⟩) (n + 1) cap).ownBlock = some (wr.alloc (.cells news.toArray T)).heap.size) → wpList P ops Q rest (a.put o.dst (.slice (some ⟨g, 0, none⟩) (n + 1) cap)) w') :
    wpList P ops Q (o :: rest) a (wr.alloc (.cells news.toArray T)) := by
  obtain ⟨i0, hi, hz0, hz1, hz2⟩ := info_parts hinfo
  refine wpList_append_lies (w := wr.alloc (.cells news.toArray T)) hg s x tsl ho H T i0 z size bytes ht hi hz0 hz1 hz2 hzs hpos v n xs hs (hb.alloc _) ⟨wr.heap.size, 0, none⟩ 1 1 news hx (by omega) ?_ h1 (by omega) h63 hbytes ?_ _ rfl ?_
  · intro j u hu
    have hadd : (⟨wr.heap.size, 0, none⟩ : Addr).add j = ⟨wr.heap.size, j, none⟩ := by unfold Addr.add; split <;> simp_all
    rw [hadd, World.cell?_alloc_new]
    simpa using hu
  · simp; omega
  · intro g cap w' hown hgr ho _
    refine hK g cap w' hown hgr ?_
    rcases ho with ho | ho
    · exact .inl ho.symm
    · exact .inr (by rw [ho]; rfl)
end
end Go.Proofs.YtdhaebbfiaddnaaGreatDoor
