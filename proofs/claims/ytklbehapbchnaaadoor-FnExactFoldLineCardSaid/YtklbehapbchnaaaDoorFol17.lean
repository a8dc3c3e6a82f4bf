/-
  slices.SortFunc of arcs by compareArcs, of the program.
-/
import Derived.Test.YtklbehapbchnaaaDoorFol07
import Derived.Test.YtklbehapbchnaaaDoorFol09
import Derived.Test.YtklbehapbchnaaaDoorFol10
import Derived.Maps.Own
import Derived.Maps.OwnOps
import Derived.Maps.OwnSet
import Derived.Test.YtklbehapbchnaaaDoorFol14
namespace Go.Proofs.YtklbehapbchnaaaDoor
open Go.RowKit Go.Maps Go.WideShapes Go.WideMaps
set_option linter.unusedVariables false
def keyN (x : Nat) : Lit := .int .i64 (x : Int)
theorem keyN_same {a b : Nat} : (keyN a).sameKey (keyN b) = true ↔ a = b := by
  unfold keyN Lit.sameKey
  constructor
  · intro h; simp at h; omega
  · intro h; subst h; simp
def encN (l : List Nat) (d : Nat) : Lit × DataW Unit := (keyN (l.getD d 0), .lit (.int .i64 (d : Int)))
/-- the map holds the place of each member -/
def NumD (l : List Nat) (D : DataW Unit) : Prop := ∃ es, D = .map es ∧ es.Perm ((List.range l.length).map (encN l))
theorem NumD.start : NumD [] (.map []) := ⟨[], rfl, .refl _⟩
theorem NumD.size {l : List Nat} {D : DataW Unit} (h : NumD l D) : Maps.size D = l.length := by
  obtain ⟨es, rfl, hp⟩ := h
  rw [Maps.size_eq, hp.length_eq, List.length_map, List.length_range]
theorem getD_mem {l : List Nat} {x : Nat} : x ∈ l ↔ ∃ d, d < l.length ∧ l.getD d 0 = x := by
  constructor
  · intro h
    obtain ⟨d, hd, e⟩ := List.mem_iff_getElem.1 h
    exact ⟨d, hd, by rw [List.getD_eq_getElem?_getD, List.getElem?_eq_getElem hd]; exact e⟩
  · rintro ⟨d, hd, rfl⟩
    rw [List.getD_eq_getElem?_getD, List.getElem?_eq_getElem hd]
    exact List.getElem_mem hd
theorem NumD.has {l : List Nat} {x : Nat} {D : DataW Unit} (h : NumD l D) : Maps.has D (keyN x) = true ↔ x ∈ l := by
  obtain ⟨es, rfl, hp⟩ := h
  rw [has_eq, List.any_eq_true, getD_mem]
  constructor
  · rintro ⟨q, hq, hs⟩
    obtain ⟨d, hd, rfl⟩ := List.mem_map.1 (hp.mem_iff.1 hq)
    exact ⟨d, List.mem_range.1 hd, keyN_same.1 hs⟩
  · rintro ⟨d, hd, rfl⟩
    exact ⟨encN l d, hp.mem_iff.2 (List.mem_map.2 ⟨d, List.mem_range.2 hd, rfl⟩), keyN_same.2 rfl⟩
theorem NumD.at {l : List Nat} {x : Nat} {D : DataW Unit} (h : NumD l D) (hn : l.Nodup) (hx : x ∈ l) (z : DataW Unit) : D.atKey (keyN x) z = .lit (.int .i64 ((l.idxOf x : Nat) : Int)) := by
  obtain ⟨es, rfl, hp⟩ := h
  have hd := List.idxOf_lt_length_of_mem hx
  have hg : l.getD (l.idxOf x) 0 = x := by
    rw [List.getD_eq_getElem?_getD, List.getElem?_eq_getElem hd]
    exact List.getElem_idxOf hd
  have hm := hp.mem_iff.2 (List.mem_map.2 ⟨l.idxOf x, List.mem_range.2 hd, rfl⟩)
  have hk : (encN l (l.idxOf x)).1.sameKey (keyN x) = true := keyN_same.2 hg
  unfold DataW.atKey
  simp only []
  cases hf : es.find? (fun p => p.1.sameKey (keyN x)) with
  | none => exact absurd hk ((List.find?_eq_none.1 hf) _ hm)
  | some q =>
    have h1 := List.find?_some hf
    obtain ⟨j, hj, rfl⟩ := List.mem_map.1 (hp.mem_iff.1 (List.mem_of_find?_eq_some hf))
    have h2 : l.getD j 0 = x := keyN_same.1 h1
    have hjl := List.mem_range.1 hj
    have : j = l.idxOf x := by
      have e1 : l[j] = x := by rw [List.getD_eq_getElem?_getD, List.getElem?_eq_getElem hjl] at h2; exact h2
      have e2 : l[l.idxOf x] = x := List.getElem_idxOf hd
      rcases Nat.lt_trichotomy j (l.idxOf x) with e | e | e
      · exact absurd (e1.trans e2.symm) (List.pairwise_iff_getElem.1 hn j _ hjl hd e)
      · exact e
      · exact absurd (e2.trans e1.symm) (List.pairwise_iff_getElem.1 hn _ j hd hjl e)
    subst this
    rfl
theorem NumD.put {l : List Nat} {u : Nat} {D : DataW Unit} (h : NumD l D) (hu : u ∉ l) : NumD (l ++ [u]) (D.put (keyN u) (.lit (.int .i64 ((l.length : Nat) : Int)))) := by
  obtain ⟨es, rfl, hp⟩ := h
  have hfil : es.filter (fun p => !p.1.sameKey (keyN u)) = es := by
    rw [List.filter_eq_self]
    intro p hpm
    obtain ⟨d, hd, rfl⟩ := List.mem_map.1 (hp.mem_iff.1 hpm)
    rw [Bool.not_eq_true', Bool.eq_false_iff]
    exact fun e => hu (getD_mem.2 ⟨d, List.mem_range.1 hd, keyN_same.1 e⟩)
  refine ⟨_, rfl, (insert_perm _ _).trans ?_⟩
  have e1 : (List.range l.length).map (encN (l ++ [u])) = (List.range l.length).map (encN l) := by
    apply List.map_congr_left
    intro d hd
    unfold encN
    rw [List.getD_eq_getElem?_getD, List.getElem?_append_left (List.mem_range.1 hd), ← List.getD_eq_getElem?_getD]
  have e2 : encN (l ++ [u]) l.length = (keyN u, .lit (.int .i64 ((l.length : Nat) : Int))) := by
    unfold encN
    rw [List.getD_eq_getElem?_getD, List.getElem?_append_right (Nat.le_refl _)]
    simp
  rw [hfil, List.length_append, List.length_singleton, List.range_succ, List.map_append, e1, List.map_singleton, e2]
  exact ((hp.cons _).trans (List.perm_append_singleton _ _).symm)
theorem keyedN : Keyed Tryd.prog 3 := int_keyed Tryd.underlying3
theorem wfNat {x : Nat} (h : x ≤ 100000) : (Lit.int .i64 ((x : Nat) : Int)).wf = true := by
  have h3 : IntKind.i64.min = -9223372036854775808 := by decide
  have h4 : IntKind.i64.max = 9223372036854775807 := by decide
  simp only [Lit.wf, h3, h4, Bool.and_eq_true, decide_eq_true_eq]; omega
theorem keyOkN {x : Nat} (h : x ≤ 100000) : keyOf Tryd.prog 3 (.int .i64 ((x : Nat) : Int)) = some (keyN x) := keyOf_int_mk Tryd.underlying3 (wfNat h)
theorem zeroIntN (w : World) : (zeroValue 3).run Tryd.prog w = .ok (.int .i64 0) w := by kernel_rfl
abbrev OwnN (w : World) (b m : Nat) (D : DataW Unit) : Prop := w.ownsMap Tryd.prog 3 (plainElem (H := Unit) Tryd.prog 3) b m D
theorem belowGrownN {w w' : World} (h : Below w.heap.size w w') : w.grownBy w' none := ⟨h.os, h.tape, h.output, h.size, fun k hk _ => h.block k hk⟩
/-- a key laid in by a map's literal -/
theorem wpList_insert_num {H : Type} {P : Program} (w : World) {ops : Array Oper} {rest : List Oper} {o : Oper} {a : Act} {Q : Exit → Act → World → Prop}
    (hg : o.guard = none) (m x v : Operand) (t : TypeId) (hop : o.op = Op.insert t m x v)
    (k e : TypeId) (K : Keyed P k) (ht : P.underlying t = some (.map k e)) (R : Value → Option (DataW H × List MemPlace)) (b n : Nat) (D : DataW H)
    (hm : a.eval m = .map (some b)) (hown : w.ownsMap P k R b n D) (hn : n < maxLen) (key val : Value) (kl : Lit) (hx : a.eval x = key) (hv : a.eval v = val) (hkey : keyOf P k key = some kl)
    (d : DataW H) (ps : List MemPlace) (hval : R val = some (d, ps))
    (hK : ∀ w', w'.ownsMap P k R b (n + 1) (D.put kl d) → w.grownBy w' (some b) → wpList P ops Q rest (a.put o.dst undef) w') :
    wpList P ops Q (o :: rest) a w := by
  refine wpList_plain hg fun K' hK' => ?_
  obtain ⟨w', hrun, r1, r2⟩ := hown.update K ht hn hkey hval
  unfold Oper.wp
  simp [execOp, hop, hm, hx, hv, hrun, Result.andThen]
  exact hK' _ _ (hK w' r1 r2)
theorem row_ne_map {H : Type} {P : Program} {k : TypeId} {R : Value → Option (DataW H × List MemPlace)} {w : World} {b n m base size : Nat} {T : TypeId} {v : Value} {xs : List Value} {D : DataW H} (h : w.ownsRow base T size v n xs) (hm : w.ownsMap P k R b m D) : v.ownBlock ≠ some b := by
  obtain ⟨es, clock, hb, _⟩ := hm
  rcases h.2 with ⟨rfl, _⟩ | ⟨g, cap, cur, rfl, _, hgb, _⟩
  · simp [Value.ownBlock]
  · intro e
    obtain rfl : g = b := by simpa [Value.ownBlock] using e
    rw [hb] at hgb
    cases hgb
theorem rows_ne {w : World} {base base' size size' n m : Nat} {T T' : TypeId} {v u : Value} {xs ys : List Value} (h : w.ownsRow base T size v n xs) (h' : w.ownsRow base' T' size' u m ys) (hT : T ≠ T') : ∀ k, v.ownBlock = some k → u.ownBlock ≠ some k := fun k hk e => by
  rcases h.2 with ⟨rfl, _⟩ | ⟨g, cap, cur, rfl, _, hgb, _⟩
  · simp [Value.ownBlock] at hk
  · rcases h'.2 with ⟨rfl, _⟩ | ⟨g', cap', cur', rfl, _, hgb', _⟩
    · simp [Value.ownBlock] at e
    · obtain rfl : g = k := by simpa [Value.ownBlock] using hk
      obtain rfl : g' = g := by simpa [Value.ownBlock] using e
      rw [hgb] at hgb'
      simp only [Option.some.injEq, Obj.cells.injEq] at hgb'
      exact hT hgb'.2.1
theorem bld_kept {T : TypeId} {size : Nat} {w wr wr' : World} {v : Value} {n : Nat} {xs : List Value} {own : Option Nat} (h : Bld T size w wr v n xs) (hg : wr.grownBy wr' own) (hne : ∀ k, v.ownBlock = some k → own ≠ some k) (ho : ∀ k, own = some k → w.heap.size ≤ k) : Bld T size w wr' v n xs := by
  refine ⟨h.1.kept hg ?_, h.2.grown hg h.2.size ho⟩
  cases hv : v.ownBlock with
  | none => exact .inl rfl
  | some k => exact .inr fun e => hne k hv (e.symm ▸ rfl)
/-- the numbers, the order, the arcs -/
structure NuS (w wr : World) (b : Nat) (v6 : Value) (g7 c7 : Nat) (ord : List Nat) (tr : List Arc3) (D : DataW Unit) : Prop where
  own : OwnN wr b ord.length D
  num : NumD ord D
  bge : w.heap.size ≤ b
  row : Bld 3 1 w wr (.slice (some ⟨g7, 0, none⟩) ord.length c7) ord.length (ordV ord)
  tree : Bld 66 3 w wr v6 tr.length (arcC tr)
theorem NuS.later {w wr wr' : World} {b g7 c7 : Nat} {v6 : Value} {ord : List Nat} {tr : List Arc3} {D : DataW Unit} (h : NuS w wr b v6 g7 c7 ord tr D) (hb : Below wr.heap.size wr wr') : NuS w wr' b v6 g7 c7 ord tr D :=
  ⟨h.own.kept (belowGrownN hb) (by simp), h.num, h.bge, h.row.later hb, h.tree.later hb⟩
theorem NuS.below {w wr : World} {b g7 c7 : Nat} {v6 : Value} {ord : List Nat} {tr : List Arc3} {D : DataW Unit} (h : NuS w wr b v6 g7 c7 ord tr D) : Below w.heap.size w wr := h.row.2
theorem tInt_ne_arc : (3 : TypeId) ≠ 66 := by decide
/-- a cell of an elder block is kept -/
theorem cell_kept2 {w w' : World} {row : Option Nat} {a : Addr} {v : Value} (hg : w.grownBy w' row) (hc : w.cell? a = some v) (hne : row ≠ some a.block) : w'.cell? a = some v := by
  have hlt := World.block_lt_of_cell? w _ hc
  unfold World.cell? at hc ⊢
  rw [hg.block a.block hlt (fun e => hne e.symm)]
  exact hc
theorem BoxA.grown {wr wr' : World} {B : Nat} {a : Arc3} {row : Option Nat} (h : BoxA wr B a) (hg : wr.grownBy wr' row) (hne : row ≠ some B) : BoxA wr' B a :=
  ⟨Nat.lt_of_lt_of_le h.1 hg.size, cell_kept2 hg h.2.1 hne, cell_kept2 hg h.2.2.1 hne, cell_kept2 hg h.2.2.2 hne⟩
end Go.Proofs.YtklbehapbchnaaaDoor
namespace Go.Proofs.YtklbehapbchnaaaDoor
open Go.RowKit Go.Sort
set_option linter.unusedVariables false
theorem ltA_swo : SWO ltA where
  irrefl := ltA_irr
  trans := fun _ _ _ => ltA_trans
  ntrans := fun x y z h h' => by
    cases e : ltA x z
    · rfl
    · cases e1 : ltA y x
      · have := ltA_tot h e1
        subst this
        rw [e] at h'; cases h'
      · have := ltA_trans e1 e
        rw [this] at h'; cases h'
theorem arcV_one (x : Arc3) : ∀ v ∈ arcV x, v.oneCell' = true := fun v hv => by
  simp only [arcV, List.mem_cons, List.not_mem_nil, or_false] at hv
  rcases hv with rfl | rfl | rfl <;> rfl
theorem holds_vals {w : World} {g : Nat} {cur : Array Value} {e : TypeId} {vs : List Value} (hb : w.heap[g]? = some (.cells cur e (0, 0))) (ht : cur.toList.take vs.length = vs) : Holds id w g 0 vs.toArray := by
  intro j hj
  have hj' : j < vs.length := by simpa using hj
  refine ⟨?_, by simp [World.frozen?, hb]⟩
  have h1 : (cur.toList.take vs.length)[j]? = vs[j]? := by rw [ht]
  rw [List.getElem?_take_of_lt hj'] at h1
  simp only [World.cell?, hb, Nat.zero_add]
  simp only [Option.isSome_none, Bool.false_eq_true, if_false]
  rw [← Array.getElem?_toList, h1]
  simp [hj']
theorem heap_vals {w : World} {g n : Nat} {os : Array Obj} {cur : Array Value} {e : TypeId} {fr : Nat × Nat} (d : Array Value) (hb : w.heap[g]? = some (.cells cur e fr)) :
    (grow (putRow id (Sort.ahead w n) g 0 d) os).heap[g]? = some (.cells (putCells id 0 d cur) e fr) := by
  have hg : g < w.heap.size := (Array.getElem?_eq_some_iff.1 hb).1
  rw [heap_grow_old _ _ (by simpa using hg)]
  simp [putRow, mapBlock, Sort.ahead, Array.getElem?_modify, hb, onCells]
theorem grown_vals {w : World} {g n : Nat} {os : Array Obj} (d : Array Value) : w.grownBy (grow (putRow id (Sort.ahead w n) g 0 d) os) (some g) := by
  refine ⟨rfl, rfl, rfl, by simp, fun k hk hne => ?_⟩
  rw [heap_grow_old _ _ (by simpa using hk)]
  have : g ≠ k := fun e => hne (by rw [e])
  simp [putRow, mapBlock, Sort.ahead, Array.getElem?_modify, this]
theorem take_vals (cur : Array Value) (vs : List Value) (h : vs.length ≤ cur.size) : (putCells id 0 vs.toArray cur).toList.take vs.length = vs := by
  apply List.ext_getElem?
  intro j
  by_cases hj : j < vs.length
  · rw [List.getElem?_take_of_lt hj, Array.getElem?_toList]
    simp [putCells, hj, show j < cur.size by omega]
  · rw [List.getElem?_take_eq_none (by omega), List.getElem?_eq_none (by omega)]
theorem flat_arcs (z : List Arc3) : flatK arcV 3 z.toArray = (arcC z).toArray := by
  refine ext_get! (by simp [arcC_len]) fun t ht => ?_
  have ht' : t < z.length * 3 := by simpa using ht
  rw [get_flatK _ _ _ t (by simpa using ht')]
  have hj : t / 3 < z.length := by omega
  have hc := cellsL_at arcV_len z (t / 3) hj (t % 3) (by omega)
  rw [show t / 3 * 3 + t % 3 = t by omega] at hc
  have hl : t < (arcC z).length := by rw [arcC_len]; exact ht'
  have hm : t % 3 < (arcV z[t / 3]).length := by rw [arcV_len]; omega
  have h1 : (arcC z)[t]? = some (arcC z)[t] := List.getElem?_eq_getElem hl
  have h2 : (arcV z[t / 3])[t % 3]? = some (arcV z[t / 3])[t % 3] := List.getElem?_eq_getElem hm
  have h3 : (arcC z)[t]? = (arcV z[t / 3])[t % 3]? := hc
  rw [h1, h2] at h3
  have e1 : z.toArray[t / 3]! = z[t / 3] := by rw [getElem!_pos z.toArray (t / 3) (by simpa using hj)]; simp
  rw [e1, getElem!_pos (arcV z[t / 3]) (t % 3) hm, getElem!_pos (arcC z).toArray t (by simpa using hl)]
  simpa using (Option.some.inj h3).symm
theorem own_blockA {w : World} {base g cap n k : Nat} {T : TypeId} {xs : List Value} (h : w.ownsRow base T k (.slice (some ⟨g, 0, none⟩) n cap) n xs) : ∃ cur, base ≤ g ∧ w.heap[g]? = some (.cells cur T (0, 0)) ∧ n ≤ cap ∧ cap ≤ maxLen ∧ cur.size = cap * k ∧ cur.toList.take (n * k) = xs := by
  rcases h.2 with ⟨hv, _⟩ | ⟨g', cap', cur, hv, hb, hg, hn, hc, hs, ht⟩
  · cases hv
  · simp only [Value.slice.injEq, Option.some.injEq, Addr.mk.injEq, and_true, true_and] at hv
    obtain ⟨rfl, rfl⟩ := hv
    exact ⟨cur, hb, hg, hn, hc, hs, ht⟩
theorem owns_vals {w : World} {base g cap n m k : Nat} {e : TypeId} {os : Array Obj} {cur : Array Value} {xs : List Value} (hl : xs.length = m * k) (hbase : base ≤ g) (hb : w.heap[g]? = some (.cells cur e (0, 0)))
    (h1 : m ≤ cap) (h2 : cap ≤ maxLen) (h3 : cur.size = cap * k) :
    (grow (putRow id (Sort.ahead w n) g 0 xs.toArray) os).ownsRow base e k (.slice (some ⟨g, 0, none⟩) m cap) m xs :=
  ⟨hl, .inr ⟨g, cap, _, rfl, hbase, heap_vals _ hb, h1, h2, by simp [putCells, h3], by rw [← hl]; exact take_vals cur xs (by rw [hl, h3]; exact Nat.mul_le_mul_right k h1)⟩⟩
theorem cmpLaysA (blk off size : Nat) (w : World) : CmpLays Tryd.prog 51 #[] arcV 3 cfA blk off size w := fun m os dk hs x y =>
  (compareArcs_any x y _).mono fun e w' ⟨he, hw⟩ => ⟨he, hw⟩
/-- what SortFunc leaves -/
def RetSA (z : List Arc3) (base g cap : Nat) (w : World) (e : Ending) (w' : World) : Prop := e = .returned (.tuple #[]) ∧ w.grownBy w' (some g) ∧ ∃ M : List Arc3, M.length = z.length ∧ M.Perm z ∧ WkA M ∧ w'.ownsRow base 66 3 (.slice (some ⟨g, 0, none⟩) z.length cap) z.length (arcC M)
theorem sortArcs_any (z : List Arc3) (base g cap : Nat) (w : World) (h : w.ownsRow base 66 3 (.slice (some ⟨g, 0, none⟩) z.length cap) z.length (arcC z)) (hlen : z.length ≤ 1000) :
    Calls Tryd.prog 50 #[.slice (some ⟨g, 0, none⟩) z.length cap, .func (.func 51) #[] #[]] w (RetSA z base g cap w) := by
  obtain ⟨cur, h1, h2, h3, h4, h5, h6⟩ := own_blockA h
  have hH : HoldsK arcV 3 w g 0 z.toArray := by
    unfold HoldsK
    rw [flat_arcs]
    exact holds_vals h2 (by rw [arcC_len]; exact h6)
  have hc := AnyQ.slices_SortFunc Tryd.sortA 3 (fun w => by kernel_rfl) (fun w => by kernel_rfl) arcV arcV_len arcV_one cfA (by rw [ltOf_cfA']; exact ltA_swo) 51 #[] g 0 cap z.toArray w (enters_of Tryd.func51 (by kernel_rfl) rfl) (cmpLaysA _ _ _ _) hH (Array.getElem?_eq_some_iff.1 h2).1 (by simp; omega)
  rw [ltOf_cfA', List.size_toArray] at hc
  refine hc.mono ?_
  rintro e w' ⟨rfl, d', n, os, hp, hs, rfl⟩
  obtain ⟨M, rfl⟩ : ∃ M : List Arc3, d' = M.toArray := ⟨d'.toList, by simp⟩
  have hl : M.length = z.length := by have := hp.1; simpa using this
  have hperm : M.Perm z := by
    have := hp.2.2
    have h2 : (List.take z.length M).Perm z := by simpa using this
    rwa [List.take_of_length_le (by omega)] at h2
  have hw : WkA M := List.pairwise_iff_getElem.2 fun i j hi hj hij => by
    have := hs i j (Nat.zero_le _) hij (by omega)
    rwa [getElem!_pos M.toArray j (by simpa using hj), getElem!_pos M.toArray i (by simpa using hi)] at this
  unfold sortWorldK putRowK
  rw [flat_arcs]
  exact ⟨rfl, grown_vals _, M, hl, hperm, hw, owns_vals (by rw [arcC_len, hl]) h1 h2 h3 h4 h5⟩
end Go.Proofs.YtklbehapbchnaaaDoor
