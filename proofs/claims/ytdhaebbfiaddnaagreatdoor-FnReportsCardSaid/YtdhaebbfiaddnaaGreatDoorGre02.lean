/-
  Append of several elements, or of none.
-/
import Derived.Test.YtdhaebbfiaddnaaGreatDoorGre01
import Derived.Deep.AppendLies
import Derived.Maps.AppendAt
import Derived.Laws.OwnMore
namespace Go.Proofs.YtdhaebbfiaddnaaGreatDoor
open Go.RowKit
set_option linter.unusedVariables false
theorem run_make_k {P : Program} (t e : TypeId) (z : Value) (size bytes : Nat) (ht : P.underlying t = some (.slice e)) (hinfo : (P.info? e).map (fun i => (i.zero, i.size, i.bytes)) = some (some z, size, bytes))
    (kl kc : IntKind) (n : Nat) (hbytes : bytes * n ≤ 281474976710656) (h63 : n ≤ 9223372036854775807) (w : World) :
    (Instr.makeSlice t (.int kl (n : Int)) (.int kc (n : Int))).run P w = .ok (.slice (some ⟨w.heap.size, 0, none⟩) n n) (w.alloc (.cells (madeCells z.cells (n * size)) e)) := by
  obtain ⟨i, hi, hzz⟩ := Option.map_eq_some_iff.1 hinfo
  simp only [Prod.mk.injEq] at hzz
  obtain ⟨hz, hs, hb⟩ := hzz
  have hb' : (i.bytes : Int) * (n : Int) ≤ 281474976710656 := by
    have h : ((i.bytes * n : Nat) : Int) ≤ 281474976710656 := by rw [hb]; omega
    rwa [Int.natCast_mul] at h
  have hr := run_make (P := P) w t e i z ht hi hz kl kc n n (by omega) (Int.le_refl _) hb' (by omega)
  simp only [Int.toNat_natCast, hs] at hr
  exact hr
/-- a row of n elements of k cells that is being filled; c cells are done -/
def FillK (w wr : World) (T : TypeId) (k g n : Nat) (tgt : List Value) (c : Nat) : Prop :=
  ∃ xs, wr.ownsRow g T k (.slice (some ⟨g, 0, none⟩) n n) n xs ∧ xs.take c = tgt.take c ∧ Below w.heap.size w wr ∧ w.heap.size ≤ g ∧ tgt.length = n * k
theorem FillK.start (w : World) (T : TypeId) (cs : Array Value) (k n : Nat) (tgt : List Value) (hs : cs.size = n * k) (hn : n ≤ maxLen) (hl : tgt.length = n * k) : FillK w (w.alloc (.cells cs T)) T k w.heap.size n tgt 0 :=
  ⟨cs.toList, World.ownsRow_lit w cs n (Nat.le_refl _) hn hs, by simp, (Below.refl _ _).alloc (Nat.le_refl _) _, Nat.le_refl _, hl⟩
theorem FillK.cell {w wr : World} {T : TypeId} {k g n : Nat} {tgt : List Value} {c : Nat} (h : FillK w wr T k g n tgt c) {i : Nat} (hi : i < n * k) : ∃ v, wr.cell? ⟨g, i, none⟩ = some v := by
  obtain ⟨xs, ho, ht, hb, hg, hl⟩ := h
  have := ho.cellAt i hi
  have h1 := ho.1
  exact ⟨xs[i]'(by omega), by rw [this, List.getElem?_eq_getElem]⟩
theorem FillK.frozen {w wr : World} {T : TypeId} {k g n : Nat} {tgt : List Value} {c : Nat} (h : FillK w wr T k g n tgt c) (i : Nat) : wr.frozen? ⟨g, i, none⟩ = false := by
  obtain ⟨xs, ho, ht, hb, hg, hl⟩ := h
  exact ho.frozenAt i
theorem FillK.below {w wr : World} {T : TypeId} {k g n : Nat} {tgt : List Value} {c : Nat} (h : FillK w wr T k g n tgt c) : Below w.heap.size w wr := by
  obtain ⟨xs, ho, ht, hb, hg, hl⟩ := h
  exact hb
theorem FillK.later {w wr wr' : World} {T : TypeId} {k g n : Nat} {tgt : List Value} {c : Nat} (h : FillK w wr T k g n tgt c) (hb' : Below wr.heap.size wr wr') : FillK w wr' T k g n tgt c := by
  obtain ⟨xs, ho, ht, hb, hg, hl⟩ := h
  exact ⟨xs, owns_later ho hb', ht, Below.now hb hb', hg, hl⟩
theorem FillK.lt {w wr : World} {T : TypeId} {k g n : Nat} {tgt : List Value} {c : Nat} (h : FillK w wr T k g n tgt c) : g < wr.heap.size := by
  obtain ⟨xs, ho, ht, hb, hg, hl⟩ := h
  exact (ho.lt g rfl).2
theorem FillK.store {w wr : World} {T : TypeId} {k g n : Nat} {tgt : List Value} {c : Nat} (h : FillK w wr T k g n tgt c) (hc : c < n * k) {u : Value} (hu : tgt[c]? = some u) : FillK w (wr.setCell ⟨g, c, none⟩ u) T k g n tgt (c + 1) := by
  obtain ⟨xs, ho, ht, hb, hg, hl⟩ := h
  have h1 := ho.1
  have hu' : tgt[c]'(by omega) = u := by rw [List.getElem?_eq_getElem (by omega)] at hu; simpa using hu
  refine ⟨xs.set c u, (ho.stored c u).1, ?_, hb.setCell hg u, hg, hl⟩
  rw [← hu']
  exact fill_step (by omega) ht (by omega)
theorem FillK.done {w wr : World} {T : TypeId} {k g n : Nat} {tgt : List Value} {c : Nat} (h : FillK w wr T k g n tgt c) (hc : ¬ c < n * k) : RetSl T k n tgt w (.returned (.slice (some ⟨g, 0, none⟩) n n)) wr := by
  obtain ⟨xs, ho, ht, hb, hg, hl⟩ := h
  have h1 := ho.1
  have : xs = tgt := fill_done (by omega) ht (by omega)
  subst this
  exact ⟨_, _, rfl, owns_mono ho hg, hb⟩
section
variable {P : Program}
/-- append of one element, at a step of a region that draws its order -/
theorem step_app1 {ops : Array Oper} {o : Oper} {a : Act} {K : Act → World → Prop} {Q : Exit → Act → World → Prop} {E : Prop} {T tsl : TypeId} {z : Value} {size bytes : Nat} (hg : o.guard = none) (s x : Operand)
    (ho : o.op = .call { callee := .builtin .append, args := #[s, x], argTypes := #[tsl, tsl] }) (ht : P.underlying tsl = some (.slice T)) (hinfo : (P.info? T).map (fun i => (i.zero, i.size, i.bytes)) = some (some z, size, bytes))
    (hzs : z.cells.size = size) (hpos : 0 < size) {w wr : World} {v : Value} {n : Nat} {xs news : List Value} (hs : a.eval s = v) (hb : Bld T size w wr v n xs) (hx : a.eval x = .slice (some ⟨wr.heap.size, 0, none⟩) 1 1)
    (hn : news.length = size) (h1 : ∀ u ∈ news, u.oneCell' = true) (h63 : n + 1 ≤ maxLen) (hbytes : (n + 1) * bytes ≤ 140737488355328)
    (hK : ∀ v' w', Bld T size w w' v' (n + 1) (xs ++ news) → K (a.put o.dst v') w') : if Region.wanted o (yielded ops a.tmps) = true then Oper.wp P o a (wr.alloc (.cells news.toArray T)) K Q else E := by
  obtain ⟨i0, hi, hz0, hz1, hz2⟩ := info_parts hinfo
  refine step_append_lies (w := wr.alloc (.cells news.toArray T)) hg s x tsl ho w.heap.size T i0 z size bytes ht hi hz0 hz1 hz2 hzs hpos v n xs hs (hb.1.alloc _) ⟨wr.heap.size, 0, none⟩ 1 1 news hx (by omega) ?_ h1 (by omega) h63 hbytes ?_ _ rfl ?_
  · intro j u hu
    have hadd : (⟨wr.heap.size, 0, none⟩ : Addr).add j = ⟨wr.heap.size, j, none⟩ := by unfold Addr.add; split <;> simp_all
    rw [hadd, World.cell?_alloc_new]
    simpa using hu
  · have := hb.2.size
    simp; omega
  · intro g cap w' hown hgr _ _
    refine hK _ w' ⟨hown, ?_⟩
    have h2 : Below w.heap.size w (wr.alloc (.cells news.toArray T)) := hb.2.alloc hb.2.size _
    exact h2.grown hgr h2.size (owns_block hb.1)
/-- the same, and what else there was is as it was -/
theorem step_app1g {ops : Array Oper} {o : Oper} {a : Act} {K : Act → World → Prop} {Q : Exit → Act → World → Prop} {E : Prop} {T tsl : TypeId} {z : Value} {size bytes : Nat} (hg : o.guard = none) (s x : Operand)
    (ho : o.op = .call { callee := .builtin .append, args := #[s, x], argTypes := #[tsl, tsl] }) (ht : P.underlying tsl = some (.slice T)) (hinfo : (P.info? T).map (fun i => (i.zero, i.size, i.bytes)) = some (some z, size, bytes))
    (hzs : z.cells.size = size) (hpos : 0 < size) {w wr : World} {v : Value} {n : Nat} {xs news : List Value} (hs : a.eval s = v) (hb : Bld T size w wr v n xs) (hx : a.eval x = .slice (some ⟨wr.heap.size, 0, none⟩) 1 1)
    (hn : news.length = size) (h1 : ∀ u ∈ news, u.oneCell' = true) (h63 : n + 1 ≤ maxLen) (hbytes : (n + 1) * bytes ≤ 140737488355328)
    (hK : ∀ v' w', Bld T size w w' v' (n + 1) (xs ++ news) → (wr.alloc (.cells news.toArray T)).grownBy w' v.ownBlock → K (a.put o.dst v') w') : if Region.wanted o (yielded ops a.tmps) = true then Oper.wp P o a (wr.alloc (.cells news.toArray T)) K Q else E := by
  obtain ⟨i0, hi, hz0, hz1, hz2⟩ := info_parts hinfo
  refine step_append_lies (w := wr.alloc (.cells news.toArray T)) hg s x tsl ho w.heap.size T i0 z size bytes ht hi hz0 hz1 hz2 hzs hpos v n xs hs (hb.1.alloc _) ⟨wr.heap.size, 0, none⟩ 1 1 news hx (by omega) ?_ h1 (by omega) h63 hbytes ?_ _ rfl ?_
  · intro j u hu
    have hadd : (⟨wr.heap.size, 0, none⟩ : Addr).add j = ⟨wr.heap.size, j, none⟩ := by unfold Addr.add; split <;> simp_all
    rw [hadd, World.cell?_alloc_new]
    simpa using hu
  · have := hb.2.size
    simp; omega
  · intro g cap w' hown hgr _ _
    refine hK _ w' ⟨hown, ?_⟩ hgr
    have h2 : Below w.heap.size w (wr.alloc (.cells news.toArray T)) := hb.2.alloc hb.2.size _
    exact h2.grown hgr h2.size (owns_block hb.1)
/-- a cell of an elder block that is not the row appended to -/
theorem far_cell {wr w' : World} {o : Obj} {v : Value} {a : Addr} {u : Value} (hgr : (wr.alloc o).grownBy w' v.ownBlock) (hc : wr.cell? a = some u) (hne : v.ownBlock ≠ some a.block) : w'.cell? a = some u := by
  have hlt := World.block_lt_of_cell? wr _ hc
  have h1 : (wr.alloc o).cell? a = some u := by rw [((Below.refl wr.heap.size wr).alloc (Nat.le_refl _) o).cell hlt]; exact hc
  unfold World.cell? at h1 ⊢
  rw [hgr.block a.block (by simp; omega) (fun e => hne e.symm)]
  exact h1
end
end Go.Proofs.YtdhaebbfiaddnaaGreatDoor
namespace Go.Proofs.YtdhaebbfiaddnaaGreatDoor
open Go.RowKit
set_option linter.unusedVariables false
/-- a slice from which elements are taken -/
def Src (w : World) (x : Value) (m : Nat) (news : List Value) : Prop :=
  (x = .slice none 0 0 ∧ m = 0 ∧ news = []) ∨ ∃ ad c, x = .slice (some ad) m c ∧ ∀ j u, news[j]? = some u → w.cell? (ad.add j) = some u
theorem add_off (b o j : Nat) : (⟨b, o, none⟩ : Addr).add j = ⟨b, o + j, none⟩ := by unfold Addr.add; split <;> simp_all
theorem Src.of_cells {w : World} {ad : Addr} {m c : Nat} {news : List Value} (h : CellsIn w (some ad) news) : Src w (.slice (some ad) m c) m news := by
  refine .inr ⟨ad, c, rfl, fun j u hu => ?_⟩
  rcases h with h | ⟨b, off, ha, hc⟩
  · subst h; simp at hu
  · obtain rfl := Option.some.inj ha
    obtain ⟨hj, rfl⟩ := List.getElem?_eq_some_iff.1 hu
    rw [add_off]
    exact hc j hj
theorem Src.of_owns {w : World} {base : Nat} {T : TypeId} {size : Nat} {x : Value} {m : Nat} {news : List Value} (h : w.ownsRow base T size x m news) : Src w x m news := by
  rcases h.2 with ⟨hv, h0⟩ | ⟨g, cap, cur, hv, hb, hg, hn, hc, hs, ht⟩
  · refine .inl ⟨hv, h0, List.eq_nil_of_length_eq_zero (by rw [h.1, h0, Nat.zero_mul])⟩
  · subst hv
    refine .inr ⟨_, _, rfl, fun j u hu => ?_⟩
    obtain ⟨hj, rfl⟩ := List.getElem?_eq_some_iff.1 hu
    rw [add_off, Nat.zero_add, h.cellAt j (by have := h.1; omega)]
    exact hu
theorem Src.lit {w : World} {T : TypeId} {c m : Nat} (news : List Value) : Src (w.alloc (.cells news.toArray T)) (.slice (some ⟨w.heap.size, 0, none⟩) m c) m news := by
  refine .inr ⟨_, _, rfl, fun j u hu => ?_⟩
  rw [add_off, Nat.zero_add, World.cell?_alloc_new]
  simpa using hu
theorem Src.later {w w' : World} {x : Value} {m : Nat} {news : List Value} (h : Src w x m news) (hb : Below w.heap.size w w') : Src w' x m news := by
  rcases h with h | ⟨ad, c, hx, hc⟩
  · exact .inl h
  · refine .inr ⟨ad, c, hx, fun j u hu => ?_⟩
    have h1 := hc j u hu
    rw [hb.cell (World.block_lt_of_cell? w _ h1)]
    exact h1
section
variable {P : Program}
theorem run_appM {tsl ty T : TypeId} {z : Value} {size bytes : Nat} (ht : P.underlying tsl = some (.slice T)) (hinfo : (P.info? T).map (fun i => (i.zero, i.size, i.bytes)) = some (some z, size, bytes))
    (hzs : z.cells.size = size) (hpos : 0 < size) {w wr : World} {v x : Value} {n m : Nat} {xs news : List Value} (hb : Bld T size w wr v n xs) (hx : Src wr x m news)
    (hn : news.length = m * size) (h1 : ∀ u ∈ news, u.oneCell' = true) (h63 : n + m ≤ maxLen) (hbytes : (n + m) * bytes ≤ 140737488355328) :
    ∃ v' w', (Builtin.append_ #[tsl, tsl] ty #[v, x]).run P wr = .ok v' w' ∧ Bld T size w w' v' (n + m) (xs ++ news) ∧ wr.grownBy w' v.ownBlock ∧ (v'.ownBlock = v.ownBlock ∨ v'.ownBlock = some wr.heap.size) := by
  obtain ⟨i0, hi, hz0, hz1, hz2⟩ := info_parts hinfo
  rcases hx with ⟨rfl, rfl, rfl⟩ | ⟨ad, c, rfl, hc⟩
  · refine ⟨v, wr, run_append_owned_none wr w.heap.size tsl ty T i0 size ht hi v n xs hb.1, by simpa using hb, ⟨rfl, rfl, rfl, Nat.le_refl _, fun _ _ _ => rfl⟩, .inl rfl⟩
  · obtain ⟨v', w', hr, h2, h3, h4, h5⟩ := run_append_own_at (P := P) wr w.heap.size tsl ty T i0 z size bytes ht hi hz0 hz1 hz2 hzs hpos v n xs hb.1 ad m c news hn hc h1 h63 hbytes hb.2.size
    exact ⟨v', w', hr, ⟨h2, hb.2.grown h3 hb.2.size (owns_block hb.1)⟩, h3, h5⟩
/-- append of m elements, at a step of a region that draws its order -/
theorem step_appM {ops : Array Oper} {o : Oper} {a : Act} {K : Act → World → Prop} {Q : Exit → Act → World → Prop} {E : Prop} {T tsl : TypeId} {z : Value} {size bytes : Nat} (hg : o.guard = none) (s x : Operand)
    (ho : o.op = .call { callee := .builtin .append, args := #[s, x], argTypes := #[tsl, tsl] }) (ht : P.underlying tsl = some (.slice T)) (hinfo : (P.info? T).map (fun i => (i.zero, i.size, i.bytes)) = some (some z, size, bytes))
    (hzs : z.cells.size = size) (hpos : 0 < size) {w wr : World} {v u : Value} {n m : Nat} {xs news : List Value} (hs : a.eval s = v) (hb : Bld T size w wr v n xs) (hx : a.eval x = u) (hsrc : Src wr u m news)
    (hn : news.length = m * size) (h1 : ∀ u ∈ news, u.oneCell' = true) (h63 : n + m ≤ maxLen) (hbytes : (n + m) * bytes ≤ 140737488355328)
    (hK : ∀ v' w', Bld T size w w' v' (n + m) (xs ++ news) → wr.grownBy w' v.ownBlock → (v'.ownBlock = v.ownBlock ∨ v'.ownBlock = some wr.heap.size) → K (a.put o.dst v') w') : if Region.wanted o (yielded ops a.tmps) = true then Oper.wp P o a wr K Q else E := by
  have hw : Region.wanted o (yielded ops a.tmps) = true := by simp [Region.wanted, hg]
  rw [if_pos hw]
  obtain ⟨v', w', hr, h2, h3, h4⟩ := run_appM (ty := o.type) ht hinfo hzs hpos hb hsrc hn h1 h63 hbytes
  unfold Oper.wp execOp
  simp only [ho, resolve, invoke, builtin, Sem.run_bind, Sem.run_pure, Result.andThen_ok, List.map_toArray, List.map_cons, List.map_nil, hs, hx, hr]
  exact hK _ _ h2 h3 h4
/-- the same at a plain region's list -/
theorem wpList_appM {ops : Array Oper} {rest : List Oper} {o : Oper} {a : Act} {Q : Exit → Act → World → Prop} {T tsl : TypeId} {z : Value} {size bytes : Nat} (hg : o.guard = none) (s x : Operand)
    (ho : o.op = .call { callee := .builtin .append, args := #[s, x], argTypes := #[tsl, tsl] }) (ht : P.underlying tsl = some (.slice T)) (hinfo : (P.info? T).map (fun i => (i.zero, i.size, i.bytes)) = some (some z, size, bytes))
    (hzs : z.cells.size = size) (hpos : 0 < size) {w wr : World} {v u : Value} {n m : Nat} {xs news : List Value} (hs : a.eval s = v) (hb : Bld T size w wr v n xs) (hx : a.eval x = u) (hsrc : Src wr u m news)
    (hn : news.length = m * size) (h1 : ∀ u ∈ news, u.oneCell' = true) (h63 : n + m ≤ maxLen) (hbytes : (n + m) * bytes ≤ 140737488355328)
    (hK : ∀ v' w', Bld T size w w' v' (n + m) (xs ++ news) → wr.grownBy w' v.ownBlock → (v'.ownBlock = v.ownBlock ∨ v'.ownBlock = some wr.heap.size) → wpList P ops Q rest (a.put o.dst v') w') : wpList P ops Q (o :: rest) a wr := by
  refine wpList_plain hg fun K hK' => ?_
  obtain ⟨v', w', hr, h2, h3, h4⟩ := run_appM (ty := o.type) ht hinfo hzs hpos hb hsrc hn h1 h63 hbytes
  unfold Oper.wp execOp
  simp only [ho, resolve, invoke, builtin, Sem.run_bind, Sem.run_pure, Result.andThen_ok, List.map_toArray, List.map_cons, List.map_nil, hs, hx, hr]
  exact hK' _ _ (hK _ _ h2 h3 h4)
end
end Go.Proofs.YtdhaebbfiaddnaaGreatDoor
