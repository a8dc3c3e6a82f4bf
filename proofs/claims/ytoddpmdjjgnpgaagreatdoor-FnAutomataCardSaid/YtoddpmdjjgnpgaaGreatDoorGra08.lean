/-
  The reference's ParseRule, coarsely.
-/
import Derived.Test.YtoddpmdjjgnpgaaGreatDoorGra07
import Derived.Test.YtoddpmdjjgnpgaaGreatDoorGra05
import Derived.Test.YtoddpmdjjgnpgaaGreatDoorGra06
import Derived.Deep.RegionHeld3
import Derived.Deep.DeepCutAuto
import Derived.Test.YtoddpmdjjgnpgaaGreatDoorGra01
import Derived.Deep.AppendSrc
import Derived.Test.YtoddpmdjjgnpgaaGreatDoorGra03
import Derived.IntWalk
import Derived.Deep.RegionLaw
namespace Go.Proofs.YtoddpmdjjgnpgaaGreatDoor
open Go.RowKit
set_option linter.unusedVariables false
def keyV (V : WayD) : List Value := V.map fun p => .string p.1
def cntV (V : WayD) : List Value := V.map fun p => .int .i64 (p.2 : Int)
theorem keyV_len (V : WayD) : (keyV V).length = V.length := by simp [keyV]
theorem cntV_len (V : WayD) : (cntV V).length = V.length := by simp [cntV]
/-- ends and numbers that are being built -/
def Ways (w wr : World) (v u : Value) (V : WayD) : Prop := TwoB w wr v (keyV V) u (cntV V)
def nthW (V : WayD) (i : Nat) : ByteArray × Nat := V.getD i (⟨#[]⟩, 0)
theorem nthW_lt {V : WayD} {i : Nat} (h : i < V.length) : nthW V i = V[i] := by simp [nthW, List.getD_eq_getElem?_getD, h]
/-- the ends and the numbers lie in two slices -/
def WaysIn (w : World) (a a2 : Option Addr) (W : WayD) : Prop := CellsIn w a (keyV W) ∧ CellsIn w a2 (cntV W)
theorem WaysIn.later {w w' : World} {a a2 : Option Addr} {W : WayD} (h : WaysIn w a a2 W) (hb : Below w.heap.size w w') : WaysIn w' a a2 W := ⟨h.1.later hb, h.2.later hb⟩
theorem cells_at {w : World} {a : Option Addr} {xs : List Value} (h : CellsIn w a xs) {i : Nat} {x : Value} (hi : xs[i]? = some x) : ∃ b off, a = some ⟨b, off, none⟩ ∧ w.cell? ⟨b, off + i, none⟩ = some x := by
  obtain ⟨hl, rfl⟩ := List.getElem?_eq_some_iff.1 hi
  rcases h with h | ⟨b, off, ha, hc⟩
  · rw [h] at hl; simp at hl
  · exact ⟨b, off, ha, hc i hl⟩
theorem WaysIn.at {w : World} {a a2 : Option Addr} {W : WayD} (h : WaysIn w a a2 W) {i : Nat} (hi : i < W.length) :
    ∃ b off b2 off2, a = some ⟨b, off, none⟩ ∧ a2 = some ⟨b2, off2, none⟩ ∧ w.cell? ⟨b, off + i, none⟩ = some (.string (nthW W i).1) ∧ w.cell? ⟨b2, off2 + i, none⟩ = some (.int .i64 ((nthW W i).2 : Int)) := by
  obtain ⟨b, off, ha, h1⟩ := cells_at h.1 (i := i) (x := .string (nthW W i).1) (by simp [keyV, hi, nthW_lt hi])
  obtain ⟨b2, off2, ha2, h2⟩ := cells_at h.2 (i := i) (x := .int .i64 ((nthW W i).2 : Int)) (by simp [cntV, hi, nthW_lt hi])
  exact ⟨b, off, b2, off2, ha, ha2, h1, h2⟩
theorem Ways.later {w wr wr' : World} {v u : Value} {V : WayD} (h : Ways w wr v u V) (hb : Below wr.heap.size wr wr') : Ways w wr' v u V := TwoB.later h hb
theorem Ways.form {w wr : World} {v u : Value} {V : WayD} (h : Ways w wr v u V) : ∃ a c a2 c2, v = .slice a V.length c ∧ u = .slice a2 V.length c2 := by
  obtain ⟨a, c, hv⟩ := owns_form h.1.1
  obtain ⟨a2, c2, hu⟩ := owns_form h.2.1.1
  rw [keyV_len] at hv
  rw [cntV_len] at hu
  exact ⟨a, c, a2, c2, hv, hu⟩
theorem Ways.read {w wr : World} {v u : Value} {V : WayD} (h : Ways w wr v u V) {i : Nat} (hi : i < V.length) : ∃ g c g2 c2, v = .slice (some ⟨g, 0, none⟩) V.length c ∧ u = .slice (some ⟨g2, 0, none⟩) V.length c2 ∧
    wr.cell? ⟨g, i, none⟩ = some (.string (nthW V i).1) ∧ wr.cell? ⟨g2, i, none⟩ = some (.int .i64 ((nthW V i).2 : Int)) ∧ wr.frozen? ⟨g2, i, none⟩ = false := by
  obtain ⟨g, c, hv⟩ := owns_slot h.1.1 (by rw [keyV_len]; omega)
  obtain ⟨g2, c2, hu⟩ := owns_slot h.2.1.1 (by rw [cntV_len]; omega)
  rw [keyV_len] at hv
  rw [cntV_len] at hu
  subst hv hu
  refine ⟨g, c, g2, c2, rfl, rfl, ?_, ?_, by have h2 := h.2.1.1; rw [cntV_len] at h2; exact h2.frozenAt i⟩
  · have h1 := h.1.1
    rw [keyV_len] at h1
    rw [World.ownsRow.cellAt h1 i (by omega)]; simp [keyV, hi, nthW_lt hi]
  · have h1 := h.2.1.1
    rw [cntV_len] at h1
    rw [World.ownsRow.cellAt h1 i (by omega)]; simp [cntV, hi, nthW_lt hi]
theorem Ways.drewN {w wr : World} {v u : Value} {V : WayD} (h : Ways w wr v u V) (n : Nat) : Ways w (wr.drewN n) v u V := h.later ⟨rfl, rfl, rfl, Nat.le_refl _, fun _ _ => rfl⟩
theorem Ways.out {w wr : World} {v u : Value} {V : WayD} (h : Ways w wr v u V) : ∃ a c a2 c2, v = .slice a V.length c ∧ u = .slice a2 V.length c2 ∧ WaysIn wr a a2 V ∧ (∀ x, a = some x → w.heap.size ≤ x.block ∧ x.block < wr.heap.size) ∧ ∀ x, a2 = some x → w.heap.size ≤ x.block ∧ x.block < wr.heap.size := by
  obtain ⟨a, c, a2, c2, rfl, rfl⟩ := h.form
  exact ⟨a, c, a2, c2, rfl, rfl, ⟨owns_cells h.1.1, owns_cells h.2.1.1⟩, fun x hx => by subst hx; exact h.1.1.lt x.block rfl, fun x hx => by subst hx; exact h.2.1.1.lt x.block rfl⟩
end Go.Proofs.YtoddpmdjjgnpgaaGreatDoor
namespace Go.Proofs.YtoddpmdjjgnpgaaGreatDoor
open Go.RowKit
set_option linter.unusedVariables false
theorem CellsIn.grownC {w w' : World} {r : Option Nat} {a : Option Addr} {xs : List Value} (h : CellsIn w a xs) (hg : w.grownBy w' r) (hne : ∀ x, a = some x → some x.block ≠ r) : CellsIn w' a xs := by
  rcases h with h | ⟨b, off, ha, hc⟩
  · exact .inl h
  · refine .inr ⟨b, off, ha, fun i hi => ?_⟩
    have h1 := hc i hi
    rw [World.cell?_of_block (hg.block b (World.block_lt_of_cell? w _ h1) (hne _ ha))]
    exact h1
/-- a slice lies away from another one -/
def Away (w : World) (a : Option Addr) (v : Value) : Prop := ∀ x, a = some x → x.block < w.heap.size ∧ some x.block ≠ v.ownBlock
theorem Away.append {wr w' : World} {a : Option Addr} {v v' : Value} {y : Value} {T : TypeId} (h : Away wr a v) (hg : (wr.alloc (.cells #[y] T)).grownBy w' v.ownBlock) (ho : v'.ownBlock = v.ownBlock ∨ v'.ownBlock = some (wr.alloc (.cells #[y] T)).heap.size) : Away w' a v' := fun x hx => by
  obtain ⟨h1, h2⟩ := h x hx
  have hs := hg.size
  simp at hs
  refine ⟨by omega, ?_⟩
  rcases ho with h3 | h3
  · rw [h3]; exact h2
  · rw [h3]
    simp
    omega
def zVals (l : List Int) : List Value := l.map (Value.int .i64)
theorem zVals_app (l : List Int) (y : Int) : zVals (l ++ [y]) = zVals l ++ [.int .i64 y] := by simp [zVals]
theorem sys_sizes {k : Int} {R : List RulD} (h : sysP k R) : R.length ≤ 12 ∧ (∀ j, j < R.length → (nthR R j).1.size ≤ 8 ∧ (nthR R j).2.size ≤ 8) ∧ (1 ≤ k ∧ k ≤ 4) :=
  ⟨h.1.1.2, fun j hj => (h.1.2 _ (nthR_mem hj)).1.2, h.1.1.1⟩
end Go.Proofs.YtoddpmdjjgnpgaaGreatDoor
namespace Go.Proofs.YtoddpmdjjgnpgaaGreatDoor
open Go.RowKit
set_option linter.unusedVariables false
end Go.Proofs.YtoddpmdjjgnpgaaGreatDoor
namespace Go.Proofs.YtoddpmdjjgnpgaaGreatDoor
open Go.RowKit
set_option linter.unusedVariables false
end Go.Proofs.YtoddpmdjjgnpgaaGreatDoor
namespace Go.Proofs.YtoddpmdjjgnpgaaGreatDoor
open Go.RowKit
set_option linter.unusedVariables false
end Go.Proofs.YtoddpmdjjgnpgaaGreatDoor
namespace Go.Proofs.YtoddpmdjjgnpgaaGreatDoor
open Go.RowKit
set_option linter.unusedVariables false
/-- what IsComplete is -/
def ComplP (k : Int) (R : List RulD) : Prop := sysP k R ∧ openF R = []
end Go.Proofs.YtoddpmdjjgnpgaaGreatDoor
namespace Go.Proofs.YtoddpmdjjgnpgaaGreatDoor
open Go.RowKit
set_option linter.unusedVariables false
/-- the rules of a system, as sides -/
def SR (R : List RulD) : Rs := fun l r => ∃ p ∈ R, p.1.data.toList = l ∧ p.2.data.toList = r
theorem lessS_wt {a b : ByteArray} (h : lessS a b = true) : wt a.data.toList < wt b.data.toList := by
  unfold lessS ltW blW at h
  rcases of_decide_eq_true h with h | ⟨h1, h2⟩
  · exact wt_short h
  · exact wt_lex h1 h2
theorem sys_dwn {k : Int} {R : List RulD} (hs : sysP k R) : Dwn (SR R) := by
  rintro _ _ ⟨p, hp, rfl, rfl⟩
  exact lessS_wt (hs.2 p hp)
theorem ba_lists {a b : ByteArray} (h : a.data.toList = b.data.toList) : a = b := by
  cases a; cases b
  simp only [ByteArray.mk.injEq] at h ⊢
  exact Array.ext' h
theorem step_stp {R : List RulD} {w : ByteArray} {s : Nat × Nat} (hm : s ∈ stepsF R w) : Stp (SR R) w.data.toList (applyF R w s).data.toList := by
  obtain ⟨h1, h2, h3⟩ := mem_stepsF.1 hm
  refine ⟨w.data.toList.take s.2, _, _, w.data.toList.drop (s.2 + (nthR R s.1).1.size), ⟨nthR R s.1, nthR_mem h2, rfl, rfl⟩, split_at h3, ?_⟩
  unfold applyF
  rw [replF_list]
/-- the word behind a step at a place that is told by what stands ahead of it -/
theorem apply_at {R : List RulD} {w : ByteArray} {i : Nat} {x y : List UInt8} (h : w.data.toList = x ++ ((nthR R i).1.data.toList ++ y)) :
    preAt w x.length (nthR R i).1 = true ∧ (applyF R w (i, x.length)).data.toList = x ++ ((nthR R i).2.data.toList ++ y) := by
  have e1 : (nthR R i).1.data.toList.length = (nthR R i).1.size := rfl
  constructor
  · unfold preAt
    rw [h, List.drop_left, List.isPrefixOf_iff_prefix]
    exact List.prefix_append _ _
  · unfold applyF
    rw [replF_list]
    show w.data.toList.take x.length ++ ((nthR R i).2.data.toList ++ w.data.toList.drop (x.length + (nthR R i).1.size)) = _
    rw [h, List.take_left, ← e1, ← List.drop_drop, List.drop_left, List.drop_left]
theorem stp_step {R : List RulD} (hne : ∀ r ∈ R, r.1.size ≠ 0) {w : ByteArray} {v : List UInt8} (h : Stp (SR R) w.data.toList v) : ∃ s ∈ stepsF R w, (applyF R w s).data.toList = v := by
  obtain ⟨x, _, _, y, ⟨p, hp, rfl, rfl⟩, h1, rfl⟩ := h
  obtain ⟨i, hi, rfl⟩ := mem_nthR hp
  obtain ⟨h2, h3⟩ := apply_at h1
  have e1 : (nthR R i).1.data.toList.length = (nthR R i).1.size := rfl
  have e2 : w.data.toList.length = w.size := rfl
  have h4 := hne _ hp
  rw [h1] at e2
  simp only [List.length_append] at e2
  exact ⟨(i, x.length), mem_stepsF.2 ⟨by show x.length < _; omega, hi, h2⟩, h3⟩
theorem sys_ne {k : Int} {R : List RulD} (hs : rulesP k R) : ∀ r ∈ R, r.1.size ≠ 0 := fun r hr => (hs.2 r hr).2
theorem norm_nf {R : List RulD} (hne : ∀ r ∈ R, r.1.size ≠ 0) {w x : ByteArray} (h : NormIs R w x) : Nf (SR R) w.data.toList x.data.toList := by
  induction h with
  | done h =>
    refine ⟨.refl _, fun v hv => ?_⟩
    obtain ⟨s, hs, _⟩ := stp_step hne hv
    rw [List.head?_eq_none_iff] at h
    rw [h] at hs
    cases hs
  | step h _ ih => exact ⟨.step (step_stp (head_mem h)) ih.1, ih.2⟩
/-- the pairs of a system are connected -/
def PairConn (R : List RulD) (E : Rs) (p : PairD) : Prop := Conn E (wt p.1.data.toList) (leftP R p).data.toList (rightP R p).data.toList
theorem mem_pairs {R : List RulD} {i j : Nat} (hi : i < R.length) (hj : j < R.length) {p : PairD} (h : p ∈ inF R i j ∨ p ∈ acF R i j) : p ∈ pairsF R := by
  unfold pairsF pairAt
  simp only [List.mem_flatMap, List.mem_range]
  exact ⟨i, hi, j, hj, List.mem_append.2 h⟩
/-- one rule inside of another one: the pair, and its sides -/
theorem pair_in {R : List RulD} {i j : Nat} (hij : i ≠ j) (hj : (nthR R j).1.size ≠ 0) {x y : List UInt8} (h : (nthR R i).1.data.toList = x ++ ((nthR R j).1.data.toList ++ y)) :
    inP R i j x.length ∈ inF R i j ∧ (leftP R (inP R i j x.length)).data.toList = (nthR R i).2.data.toList ∧ (rightP R (inP R i j x.length)).data.toList = x ++ ((nthR R j).2.data.toList ++ y) := by
  obtain ⟨h2, h3⟩ := apply_at h
  have e1 : (nthR R j).1.data.toList.length = (nthR R j).1.size := rfl
  have e2 : (nthR R i).1.data.toList.length = (nthR R i).1.size := rfl
  rw [h] at e2
  simp only [List.length_append] at e2
  refine ⟨?_, ?_, h3⟩
  · unfold inF
    rw [if_neg hij]
    exact List.mem_map.2 ⟨_, mem_places.2 ⟨by omega, h2⟩, rfl⟩
  · have h4 := (apply_at (R := R) (w := (nthR R i).1) (i := i) (x := []) (y := []) (by simp)).2
    simp only [List.nil_append, List.append_nil, List.length_nil] at h4
    exact h4
theorem pair_ac {R : List RulD} {i j : Nat} {x t y : List UInt8} (h1 : (nthR R i).1.data.toList = x ++ t) (h2 : (nthR R j).1.data.toList = t ++ y) (ht : t ≠ []) (hx : x ≠ []) (hy : y ≠ []) :
    acP R i j t.length ∈ acF R i j ∧ (acP R i j t.length).1.data.toList = x ++ (t ++ y) ∧ (leftP R (acP R i j t.length)).data.toList = (nthR R i).2.data.toList ++ y ∧ (rightP R (acP R i j t.length)).data.toList = x ++ (nthR R j).2.data.toList := by
  have e1 : (nthR R i).1.data.toList.length = (nthR R i).1.size := rfl
  have e2 : (nthR R j).1.data.toList.length = (nthR R j).1.size := rfl
  have f1 := e1
  have f2 := e2
  rw [h1] at f1
  rw [h2] at f2
  simp only [List.length_append] at f1 f2
  have lx : 0 < x.length := List.length_pos_iff.2 hx
  have lt : 0 < t.length := List.length_pos_iff.2 ht
  have ly : 0 < y.length := List.length_pos_iff.2 hy
  have ew : (acP R i j t.length).1.data.toList = x ++ (t ++ y) := by
    show ((nthR R i).1 ++ (nthR R j).1.extract t.length (nthR R j).1.size).data.toList = _
    rw [ByteArray.data_append, Array.toList_append, extract_lt, List.take_of_length_le (Nat.le_of_eq e2), h1, h2, List.drop_left, List.append_assoc]
  have ep : (acP R i j t.length).2.2.2 = x.length := by show (nthR R i).1.size - t.length = _; omega
  refine ⟨?_, ew, ?_, ?_⟩
  · unfold acF
    refine List.mem_map.2 ⟨_, mem_over.2 ⟨⟨by omega, by omega⟩, lt, ?_⟩, rfl⟩
    unfold ovAt
    rw [beq_iff_eq, h1, h2, show (nthR R i).1.size - t.length = x.length by omega, List.drop_left, List.take_left]
  · have h4 := (apply_at (R := R) (w := (acP R i j t.length).1) (i := i) (x := []) (y := y) (by rw [ew, h1]; simp)).2
    simp only [List.nil_append, List.length_nil] at h4
    exact h4
  · have h4 := (apply_at (R := R) (w := (acP R i j t.length).1) (i := j) (x := x) (y := []) (by rw [ew, h2]; simp)).2
    unfold rightP
    rw [ep]
    simp only [List.append_nil] at h4
    exact h4
/-- pairs that are connected make the rules critical ones -/
theorem crit_of_pairs {R : List RulD} (hne : ∀ r ∈ R, r.1.size ≠ 0) {E : Rs} (h : ∀ p ∈ pairsF R, PairConn R E p) : Crit (SR R) E := by
  refine ⟨?_, ?_⟩
  · rintro _ _ _ _ x y ⟨p1, hp1, rfl, rfl⟩ ⟨p2, hp2, rfl, rfl⟩ e
    obtain ⟨i, hi, rfl⟩ := mem_nthR hp1
    obtain ⟨j, hj, rfl⟩ := mem_nthR hp2
    by_cases hij : i = j
    · subst hij
      have := congrArg List.length e
      simp only [List.length_append] at this
      have hx : x = [] := List.eq_nil_of_length_eq_zero (by omega)
      have hy : y = [] := List.eq_nil_of_length_eq_zero (by omega)
      subst hx hy
      simpa using Conn.refl _
    · obtain ⟨h1, h2, h3⟩ := pair_in hij (hne _ hp2) e
      have h4 := h _ (mem_pairs hi hj (.inl h1))
      unfold PairConn at h4
      rw [h2, h3] at h4
      exact h4
  · rintro _ _ _ _ x t y ⟨p1, hp1, rfl, rfl⟩ ⟨p2, hp2, rfl, rfl⟩ e1 e2 ht hx hy
    obtain ⟨i, hi, rfl⟩ := mem_nthR hp1
    obtain ⟨j, hj, rfl⟩ := mem_nthR hp2
    obtain ⟨h1, h2, h3, h4⟩ := pair_ac e1 e2 ht hx hy
    have h5 := h _ (mem_pairs hi hj (.inr h1))
    unfold PairConn at h5
    rw [h2, h3, h4] at h5
    exact h5
theorem open_nil {R : List RulD} (h : openF R = []) {p : PairD} (hp : p ∈ pairsF R) : Joined R p := by
  refine Classical.byContradiction fun hn => ?_
  unfold openF openL at h
  rw [List.filter_eq_nil_iff] at h
  have := h p hp
  simp [hn] at this
theorem joined_conn {k : Int} {R : List RulD} (hs : sysP k R) {p : PairD} (hp : p ∈ pairsF R) (hj : Joined R p) : PairConn R (SR R) p := by
  obtain ⟨x, h1, h2⟩ := hj
  have hok := pairOk hs hp
  have hd := sys_dwn hs
  have n1 := norm_nf (sys_ne hs.1) h1
  have n2 := norm_nf (sys_ne hs.1) h2
  exact (Conn.red hd n1.1 (hd.stp (step_stp hok.one))).trans (Conn.red hd n2.1 (hd.stp (step_stp hok.two))).symm
theorem comp_crit {k : Int} {R : List RulD} (h : ComplP k R) : Crit (SR R) (SR R) :=
  crit_of_pairs (sys_ne h.1.1) fun p hp => joined_conn h.1 hp (open_nil h.2 hp)
end Go.Proofs.YtoddpmdjjgnpgaaGreatDoor
namespace Go.Proofs.YtoddpmdjjgnpgaaGreatDoor
open Go.RowKit
set_option linter.unusedVariables false
theorem ltW_wt {u v : List UInt8} (h : ltW u v = true) : wt u < wt v := by
  unfold ltW at h
  rcases of_decide_eq_true h with h | ⟨h1, h2⟩
  · exact wt_short h
  · exact wt_lex h1 h2
theorem wt_ltW {u v : List UInt8} (h : wt u < wt v) : ltW u v = true := by
  cases h1 : ltW u v
  · cases h2 : ltW v u
    · obtain rfl := ltW_total h1 h2
      omega
    · have := ltW_wt h2
      omega
  · rfl
theorem wt_lessS {a b : ByteArray} (h : wt a.data.toList < wt b.data.toList) : lessS a b = true := wt_ltW h
theorem lessS_size {a b : ByteArray} (h : lessS a b = true) : a.size ≤ b.size := by
  have := wt_len (lessS_wt h)
  exact this
theorem sysW_dwn {k : Int} {R : List RulD} (hs : sysW k R) : Dwn (SR R) := by
  rintro _ _ ⟨p, hp, rfl, rfl⟩
  exact lessS_wt (hs.2 p hp)
theorem sysW_ne {k : Int} {R : List RulD} (hs : sysW k R) : ∀ r ∈ R, r.1.size ≠ 0 := fun r hr => (hs.1.2 r hr).2
theorem nfC_is {k : Int} {R : List RulD} (hs : sysW k R) {u : ByteArray} (hw : wordOkB k u = true) : NormIs R u (nfC R u) := by
  obtain ⟨x, hx, _⟩ := NormIs.exW hs _ u (Nat.lt_succ_self _) hw
  rw [nfC_eq hx]; exact hx
theorem nfC_word {k : Int} {R : List RulD} (hs : sysW k R) {u : ByteArray} (hw : wordOkB k u = true) : wordOkB k (nfC R u) = true := (nfC_is hs hw).wordW hs hw
theorem nfC_red {k : Int} {R : List RulD} (hs : sysW k R) {u : ByteArray} (hw : wordOkB k u = true) : Nf (SR R) u.data.toList (nfC R u).data.toList := norm_nf (sysW_ne hs) (nfC_is hs hw)
theorem nfC_le {k : Int} {R : List RulD} (hs : sysW k R) {u : ByteArray} (hw : wordOkB k u = true) : wt (nfC R u).data.toList ≤ wt u.data.toList := (nfC_red hs hw).1.le (sysW_dwn hs)
/-- l lies somewhere in w -/
def hasB (w l : ByteArray) : Bool := !(placesF w l).isEmpty
/-- the rules that are kept beside a new left side, and those that are not -/
def keptF (R : List RulD) (x : ByteArray) : List RulD := R.filter fun p => !hasB p.1 x
def goneF (R : List RulD) (x : ByteArray) : List RulD := R.filter fun p => hasB p.1 x
def allF (R : List RulD) (r : RulD) : List RulD := keptF R r.1 ++ [r]
noncomputable def mapF (R : List RulD) (r : RulD) (l : List RulD) : List RulD := l.map fun p => (p.1, nfC (allF R r) p.2)
noncomputable def nextF (R : List RulD) (r : RulD) : List RulD := mapF R r (keptF R r.1) ++ [r]
/-- the sides of the pairs with the last rule -/
def lastP (N : List RulD) (p : PairD) : Bool := decide (p.2.1 = N.length - 1) || decide (p.2.2.1 = N.length - 1)
def sidesF (N : List RulD) (p : PairD) : RulD := (leftP N p, rightP N p)
def newQ (N : List RulD) : List RulD := ((pairsF N).filter (lastP N)).map (sidesF N)
/-- the rule that an equation of two words is made into -/
def orF2 (a b : ByteArray) : RulD := if lessS a b = true then (b, a) else (a, b)
/-- what a turn is: its code, the rules, the equations and the turns behind it -/
noncomputable def turnF (R Q : List RulD) (T : Nat) : Nat × List RulD × List RulD × Nat :=
  match Q with
  | [] => (0, R, [], T)
  | q :: Qt =>
    if T = 200 then (3, R, q :: Qt, T)
    else if nfC R q.1 = nfC R q.2 then (0, R, Qt, T + 1)
    else if 8 < (orF2 (nfC R q.1) (nfC R q.2)).1.size then (1, R, q :: Qt, T)
    else if 12 < (nextF R (orF2 (nfC R q.1) (nfC R q.2))).length then (2, R, q :: Qt, T)
    else if 400 < (Qt ++ goneF R (orF2 (nfC R q.1) (nfC R q.2)).1 ++ newQ (nextF R (orF2 (nfC R q.1) (nfC R q.2)))).length then (2, R, q :: Qt, T)
    else (0, nextF R (orF2 (nfC R q.1) (nfC R q.2)), Qt ++ goneF R (orF2 (nfC R q.1) (nfC R q.2)).1 ++ newQ (nextF R (orF2 (nfC R q.1) (nfC R q.2))), T + 1)
/-- rules, equations and turns that a completion may go on from -/
structure WorkP (k : Int) (R Q : List RulD) (T : Nat) : Prop where
  sys : sysP k R
  few : Q.length ≤ 400
  word : ∀ q ∈ Q, wordOkB k q.1 = true ∧ wordOkB k q.2 = true
  turns : T ≤ 200
theorem orF2_less {a b : ByteArray} (h : a ≠ b) : lessS (orF2 a b).2 (orF2 a b).1 = true := by
  unfold orF2
  split
  · assumption
  · rename_i h1
    cases h2 : lessS b a
    · have e := ltW_total (Bool.not_eq_true _ ▸ h1 : ltW (blW a) (blW b) = false) h2
      exact absurd (ba_lists e) h
    · rfl
theorem orF2_cases (a b : ByteArray) : orF2 a b = (b, a) ∨ orF2 a b = (a, b) := by
  unfold orF2
  split
  · exact .inl rfl
  · exact .inr rfl
/-- what is known of a rule that a turn makes -/
structure NewR (k : Int) (r : RulD) : Prop where
  left : wordOkB k r.1 = true
  right : wordOkB k r.2 = true
  less : lessS r.2 r.1 = true
  short : r.1.size ≤ 8
theorem less_ne {a b : ByteArray} (h : lessS a b = true) : b.size ≠ 0 := by
  intro h0
  have e : b.data.toList = [] := List.eq_nil_of_length_eq_zero h0
  have := lessS_wt h
  rw [e] at this
  simp [wt, wtL] at this
theorem NewR.rule {k : Int} {r : RulD} (h : NewR k r) : ruleP k r := ⟨⟨⟨h.left, h.right⟩, h.short, Nat.le_trans (lessS_size h.less) h.short⟩, less_ne h.less⟩
theorem allF_sys {k : Int} {R : List RulD} (hs : sysP k R) {r : RulD} (hr : NewR k r) : sysW k (allF R r) := by
  have key : ∀ p ∈ allF R r, p ∈ R ∨ p = r := fun p hp => by
    rcases List.mem_append.1 hp with hp | hp
    · exact .inl ((List.mem_filter.1 hp).1)
    · exact .inr (List.mem_singleton.1 hp)
  refine ⟨⟨hs.1.1.1, fun p hp => ?_⟩, fun p hp => ?_⟩
  · rcases key p hp with h | rfl
    · exact hs.1.2 p h
    · exact hr.rule
  · rcases key p hp with h | rfl
    · exact hs.2 p h
    · exact hr.less
theorem nextF_mem {R : List RulD} {r : RulD} {p : RulD} : p ∈ nextF R r ↔ (∃ q ∈ keptF R r.1, p = (q.1, nfC (allF R r) q.2)) ∨ p = r := by
  unfold nextF mapF
  rw [List.mem_append, List.mem_map, List.mem_singleton]
  constructor
  · rintro (⟨q, h1, h2⟩ | h)
    · exact .inl ⟨q, h1, h2.symm⟩
    · exact .inr h
  · rintro (⟨q, h1, h2⟩ | h)
    · exact .inl ⟨q, h1, h2.symm⟩
    · exact .inr h
theorem nextF_weak {k : Int} {R : List RulD} (hs : sysP k R) {r : RulD} (hr : NewR k r) : sysW k (nextF R r) := by
  have ha := allF_sys hs hr
  have key : ∀ p ∈ nextF R r, ruleP k p ∧ lessS p.2 p.1 = true := fun p hp => by
    rcases nextF_mem.1 hp with ⟨q, hq, rfl⟩ | rfl
    · have hq2 := (List.mem_filter.1 hq).1
      have h1 := hs.1.2 q hq2
      have h2 := nfC_le ha h1.1.1.2
      have h3 := lessS_wt (hs.2 q hq2)
      have h4 : lessS (nfC (allF R r) q.2) q.1 = true := wt_lessS (by omega)
      exact ⟨⟨⟨⟨h1.1.1.1, nfC_word ha h1.1.1.2⟩, h1.1.2.1, Nat.le_trans (lessS_size h4) h1.1.2.1⟩, h1.2⟩, h4⟩
    · exact ⟨hr.rule, hr.less⟩
  exact ⟨⟨hs.1.1.1, fun p hp => (key p hp).1⟩, fun p hp => (key p hp).2⟩
theorem nextF_sys {k : Int} {R : List RulD} (hs : sysP k R) {r : RulD} (hr : NewR k r) (hl : ¬ 12 < (nextF R r).length) : sysP k (nextF R r) :=
  ⟨⟨⟨hs.1.1.1, by omega⟩, (nextF_weak hs hr).1.2⟩, (nextF_weak hs hr).2⟩
theorem sides_word {k : Int} {N : List RulD} (hs : sysP k N) {p : PairD} (hp : p ∈ pairsF N) : wordOkB k (sidesF N p).1 = true ∧ wordOkB k (sidesF N p).2 = true := by
  have h := pairOk hs hp
  exact ⟨step_word hs h.word h.one, step_word hs h.word h.two⟩
theorem newQ_word {k : Int} {N : List RulD} (hs : sysP k N) : ∀ q ∈ newQ N, wordOkB k q.1 = true ∧ wordOkB k q.2 = true := fun q hq => by
  obtain ⟨p, hp, rfl⟩ := List.mem_map.1 hq
  exact sides_word hs ((List.mem_filter.1 hp).1)
theorem orF2_new {k : Int} {R : List RulD} (hs : sysP k R) {q : RulD} (hq : wordOkB k q.1 = true ∧ wordOkB k q.2 = true) (hne : ¬ nfC R q.1 = nfC R q.2) (h8 : ¬ 8 < (orF2 (nfC R q.1) (nfC R q.2)).1.size) : NewR k (orF2 (nfC R q.1) (nfC R q.2)) := by
  have h1 := nfC_word hs.weak hq.1
  have h2 := nfC_word hs.weak hq.2
  have h3 := orF2_less hne
  rcases orF2_cases (nfC R q.1) (nfC R q.2) with e | e <;> rw [e] at h3 h8 ⊢
  · exact ⟨h2, h1, h3, by omega⟩
  · exact ⟨h1, h2, h3, by omega⟩
/-- a turn that ends well leaves what a completion may go on from -/
theorem WorkP.turn {k : Int} {R Q : List RulD} {T : Nat} (h : WorkP k R Q T) (hc : (turnF R Q T).1 = 0) : WorkP k (turnF R Q T).2.1 (turnF R Q T).2.2.1 (turnF R Q T).2.2.2 := by
  cases Q with
  | nil => exact h
  | cons q Qt =>
    have hq := h.word q List.mem_cons_self
    have hf := h.few
    simp only [List.length_cons] at hf
    have ht := h.turns
    unfold turnF at hc ⊢
    simp only at hc ⊢
    by_cases c1 : T = 200
    · rw [if_pos c1] at hc; cases hc
    rw [if_neg c1] at hc ⊢
    by_cases c2 : nfC R q.1 = nfC R q.2
    · rw [if_pos c2]
      exact ⟨h.sys, by show Qt.length ≤ 400; omega, fun p hp => h.word p (List.mem_cons_of_mem _ hp), by show T + 1 ≤ 200; omega⟩
    rw [if_neg c2] at hc ⊢
    by_cases c3 : 8 < (orF2 (nfC R q.1) (nfC R q.2)).1.size
    · rw [if_pos c3] at hc; cases hc
    rw [if_neg c3] at hc ⊢
    by_cases c4 : 12 < (nextF R (orF2 (nfC R q.1) (nfC R q.2))).length
    · rw [if_pos c4] at hc; cases hc
    rw [if_neg c4] at hc ⊢
    by_cases c5 : 400 < (Qt ++ goneF R (orF2 (nfC R q.1) (nfC R q.2)).1 ++ newQ (nextF R (orF2 (nfC R q.1) (nfC R q.2)))).length
    · rw [if_pos c5] at hc; cases hc
    rw [if_neg c5]
    have hr := orF2_new h.sys hq c2 c3
    have hs2 := nextF_sys h.sys hr c4
    refine ⟨hs2, Nat.not_lt.1 c5, fun p hp => ?_, by show T + 1 ≤ 200; omega⟩
    rcases List.mem_append.1 hp with hp | hp
    · rcases List.mem_append.1 hp with hp | hp
      · exact h.word p (List.mem_cons_of_mem _ hp)
      · exact (h.sys.1.2 p ((List.mem_filter.1 hp).1)).1.1
    · exact newQ_word hs2 p hp
/-- a completion: turns one after the other, until no equation is left or a turn fails -/
inductive RunIs : List RulD → List RulD → Nat → Nat → List RulD → List RulD → Nat → Prop
  | done {R : List RulD} {T : Nat} : RunIs R [] T 0 R [] T
  | fail {R Q : List RulD} {T : Nat} : Q ≠ [] → (turnF R Q T).1 ≠ 0 → RunIs R Q T (turnF R Q T).1 R Q T
  | step {R Q : List RulD} {T c : Nat} {R' Q' : List RulD} {T' : Nat} : Q ≠ [] → (turnF R Q T).1 = 0 → RunIs (turnF R Q T).2.1 (turnF R Q T).2.2.1 (turnF R Q T).2.2.2 c R' Q' T' → RunIs R Q T c R' Q' T'
theorem RunIs.uniq {R Q : List RulD} {T c1 c2 : Nat} {R1 R2 Q1 Q2 : List RulD} {T1 T2 : Nat} (a : RunIs R Q T c1 R1 Q1 T1) (b : RunIs R Q T c2 R2 Q2 T2) : c1 = c2 ∧ R1 = R2 ∧ Q1 = Q2 ∧ T1 = T2 := by
  induction a generalizing c2 R2 Q2 T2 with
  | done =>
    cases b with
    | done => exact ⟨rfl, rfl, rfl, rfl⟩
    | fail h _ => exact absurd rfl h
    | step h _ _ => exact absurd rfl h
  | fail h1 h2 =>
    cases b with
    | done => exact absurd rfl h1
    | fail _ _ => exact ⟨rfl, rfl, rfl, rfl⟩
    | step _ h3 _ => exact absurd h3 h2
  | step h1 h2 _ ih =>
    cases b with
    | done => exact absurd rfl h1
    | fail _ h3 => exact absurd h2 h3
    | step _ _ b => exact ih b
end Go.Proofs.YtoddpmdjjgnpgaaGreatDoor
namespace Go.Proofs.YtoddpmdjjgnpgaaGreatDoor
open Go.RowKit
set_option linter.unusedVariables false
/-- a slice of n elements somewhere in a block from base on -/
def ownsOff (w : World) (base : Nat) (T : TypeId) (size : Nat) (v : Value) (n : Nat) (xs : List Value) : Prop :=
  xs.length = n * size ∧ ((v = .slice none 0 0 ∧ n = 0) ∨ ∃ g o cap cur, v = .slice (some ⟨g, o, none⟩) n cap ∧ base ≤ g ∧ w.heap[g]? = some (.cells cur T (0, 0)) ∧ n ≤ cap ∧ cap ≤ maxLen ∧ o + cap * size ≤ cur.size ∧ (cur.toList.drop o).take (n * size) = xs)
section
variable {w : World} {base : Nat} {T : TypeId} {size : Nat} {v : Value} {n : Nat} {xs : List Value}
theorem ownsOff.of_row (h : w.ownsRow base T size v n xs) : ownsOff w base T size v n xs := by
  refine ⟨h.1, ?_⟩
  rcases h.2 with h' | ⟨g, cap, cur, hv, hb, hg, hn, hc, hs, ht⟩
  · exact .inl h'
  · exact .inr ⟨g, 0, cap, cur, hv, hb, hg, hn, hc, by omega, by rw [List.drop_zero]; exact ht⟩
theorem ownsOff.form (h : ownsOff w base T size v n xs) : ∃ a cap, v = .slice a n cap := by
  rcases h.2 with ⟨hv, h0⟩ | ⟨g, o, cap, cur, hv, _⟩
  · exact ⟨none, 0, by rw [hv, h0]⟩
  · exact ⟨_, _, hv⟩
theorem ownsOff.lt (h : ownsOff w base T size v n xs) : ∀ k, v.ownBlock = some k → base ≤ k ∧ k < w.heap.size := by
  intro k hk
  rcases h.2 with ⟨rfl, _⟩ | ⟨g, o, cap, cur, rfl, hb, hg, _⟩
  · simp [Value.ownBlock] at hk
  · simp [Value.ownBlock] at hk
    subst hk
    exact ⟨hb, (Array.getElem?_eq_some_iff.1 hg).1⟩
theorem ownsOff.kept {w' : World} {row : Option Nat} (h : ownsOff w base T size v n xs) (hg : w.grownBy w' row) (hne : v.ownBlock = none ∨ v.ownBlock ≠ row) : ownsOff w' base T size v n xs := by
  refine ⟨h.1, ?_⟩
  rcases h.2 with hn | ⟨g, o, cap, cur, rfl, hb, hgg, rest⟩
  · exact .inl hn
  · refine .inr ⟨g, o, cap, cur, rfl, hb, ?_, rest⟩
    rw [hg.block g (Array.getElem?_eq_some_iff.1 hgg).1 (by simpa [Value.ownBlock] using hne)]
    exact hgg
theorem ownsOff.later {w' : World} (h : ownsOff w base T size v n xs) (hb : Below w.heap.size w w') : ownsOff w' base T size v n xs :=
  h.kept (row := none) ⟨hb.os, hb.tape, hb.output, hb.size, fun k hk _ => hb.block k hk⟩ (by cases h : v.ownBlock <;> simp)
theorem ownsOff.cellAt {g o cap : Nat} (h : ownsOff w base T size (.slice (some ⟨g, o, none⟩) n cap) n xs) : ∀ j u, xs[j]? = some u → w.cell? ⟨g, o + j, none⟩ = some u := by
  intro j u hu
  rcases h.2 with ⟨hv, _⟩ | ⟨g', o', cap', cur, hv, _, hgg, _, _, _, ht⟩
  · simp at hv
  · simp only [Value.slice.injEq, Option.some.injEq, Addr.mk.injEq] at hv
    obtain ⟨⟨rfl, rfl, _⟩, _, rfl⟩ := hv
    rw [cell_of_row w g _ cur T (0, 0) hgg]
    rw [← ht, List.getElem?_take] at hu
    split at hu
    · rw [List.getElem?_drop] at hu
      simpa using hu
    · cases hu
theorem ownsOff.cells {a : Option Addr} {cap : Nat} (h : ownsOff w base T size (.slice a n cap) n xs) : CellsIn w a xs := by
  rcases h.2 with ⟨hv, h0⟩ | ⟨g, o, cap', cur, hv, _⟩
  · exact .inl (List.eq_nil_of_length_eq_zero (by rw [h.1, h0, Nat.zero_mul]))
  · simp only [Value.slice.injEq] at hv
    obtain ⟨rfl, _, rfl⟩ := hv
    refine .inr ⟨g, o, rfl, fun i hi => ?_⟩
    exact h.cellAt i _ (List.getElem?_eq_getElem hi)
/-- all but the first element -/
theorem ownsOff.tail {g o cap : Nat} {x : List Value} (h : ownsOff w base T size (.slice (some ⟨g, o, none⟩) (n + 1) cap) (n + 1) (x ++ xs)) (hx : x.length = size) : ownsOff w base T size (.slice (some ⟨g, o + size, none⟩) n (cap - 1)) n xs := by
  have h1 := h.1
  rw [List.length_append, hx, Nat.succ_mul] at h1
  refine ⟨by omega, ?_⟩
  rcases h.2 with ⟨hv, _⟩ | ⟨g', o', cap', cur, hv, hb, hgg, hn, hc, hs, ht⟩
  · simp at hv
  · simp only [Value.slice.injEq, Option.some.injEq, Addr.mk.injEq] at hv
    obtain ⟨⟨rfl, rfl, _⟩, _, rfl⟩ := hv
    obtain ⟨c, rfl⟩ : ∃ c, cap = c + 1 := ⟨cap - 1, by omega⟩
    rw [Nat.succ_mul] at hs
    refine .inr ⟨g, o + size, c, cur, by rw [Nat.add_sub_cancel], hb, hgg, by omega, by omega, by omega, ?_⟩
    rw [← List.drop_drop]
    have h2 : ((cur.toList.drop o).take ((n + 1) * size)).drop size = xs := by rw [ht, ← hx, List.drop_left]
    rw [List.drop_take] at h2
    rw [← h2]
    congr 1
    rw [Nat.succ_mul]
    omega
/-- nothing of a slice of one element -/
theorem ownsOff.none_left {g o cap : Nat} {x : List Value} (h : ownsOff w base T size (.slice (some ⟨g, o, none⟩) 1 cap) 1 x) : ownsOff w base T size (.slice (some ⟨g, o, none⟩) 0 0) 0 [] := by
  refine ⟨by simp, ?_⟩
  rcases h.2 with ⟨hv, _⟩ | ⟨g', o', cap', cur, hv, hb, hgg, hn, hc, hs, ht⟩
  · simp at hv
  · simp only [Value.slice.injEq, Option.some.injEq, Addr.mk.injEq] at hv
    obtain ⟨⟨rfl, rfl, _⟩, _, rfl⟩ := hv
    exact .inr ⟨g, o, 0, cur, rfl, hb, hgg, Nat.le_refl _, Nat.zero_le _, by omega, by simp⟩
end
section
variable {P : Program}
theorem src_of {w : World} {x : Value} {m size : Nat} {news : List Value} {tx e' : TypeId} (hk : P.underlying tx = some (.slice e')) (h : Src w x m news) (hl : news.length = m * size) (h1 : ∀ u ∈ news, u.oneCell' = true) : Go.Src P size tx x m news w := by
  rcases h with ⟨rfl, rfl, rfl⟩ | ⟨ad, c, rfl, hc⟩
  · exact Go.Src.ofNil w hk 0
  · exact Go.Src.ofSlice w hk ad m c news hl hc h1
end
end Go.Proofs.YtoddpmdjjgnpgaaGreatDoor
namespace Go.Proofs.YtoddpmdjjgnpgaaGreatDoor
open Go.RowKit
set_option linter.unusedVariables false
/-- the record at block g since w: its first field x, its second one the slice v of n elements with the cells xs -/
structure Rec2 (TT T : TypeId) (size : Nat) (w wr : World) (g : Nat) (x v : Value) (n : Nat) (xs : List Value) : Prop where
  blk : wr.heap[g]? = some (.cells #[x, v] TT (0, 0))
  own : wr.ownsRow (g + 1) T size v n xs
  le : w.heap.size ≤ g
  below : Below w.heap.size w wr
section
variable {TT T : TypeId} {size : Nat} {w wr : World} {g : Nat} {x v : Value} {n : Nat} {xs : List Value}
theorem rec_cells {W : World} {b : Nat} {x y : Value} {T : TypeId} (h : W.heap[b]? = some (.cells #[x, y] T (0, 0))) : W.cell? ⟨b, 0, none⟩ = some x ∧ W.cell? ⟨b, 1, none⟩ = some y ∧ W.frozen? ⟨b, 0, none⟩ = false ∧ W.frozen? ⟨b, 1, none⟩ = false := by
  refine ⟨by simp [World.cell?, h], by simp [World.cell?, h], by simp [World.frozen?, h], by simp [World.frozen?, h]⟩
theorem Rec2.facts (h : Rec2 TT T size w wr g x v n xs) : wr.cell? ⟨g, 0, none⟩ = some x ∧ wr.cell? ⟨g, 1, none⟩ = some v ∧ wr.frozen? ⟨g, 0, none⟩ = false ∧ wr.frozen? ⟨g, 1, none⟩ = false := rec_cells h.blk
theorem Rec2.lt (h : Rec2 TT T size w wr g x v n xs) : g < wr.heap.size := (Array.getElem?_eq_some_iff.1 h.blk).1
theorem Rec2.later {wr' : World} (h : Rec2 TT T size w wr g x v n xs) (hb : Below wr.heap.size wr wr') : Rec2 TT T size w wr' g x v n xs :=
  ⟨(hb.block g h.lt).trans h.blk, owns_later h.own hb, h.le, Below.now h.below hb⟩
theorem Rec2.far (h : Rec2 TT T size w wr g x v n xs) : v.ownBlock ≠ some g := fun e => by have := (h.own.lt g e).1; omega
/-- what a new record is, its slice nil -/
theorem Rec2.start (TT T : TypeId) (size : Nat) {w w1 : World} (hb : Below w.heap.size w w1) (x : Value) : Rec2 TT T size w (w1.alloc (.cells #[x, .slice none 0 0] TT)) w1.heap.size x (.slice none 0 0) 0 [] :=
  ⟨alloc_at _ _, World.ownsRow_nil _ _ _ _, hb.size, hb.alloc hb.size _⟩
/-- the cells of the record once the slice has been appended to -/
theorem Rec2.grown {w2 w4 : World} {ob : Obj} (h : Rec2 TT T size w wr g x v n xs) (hb : Below wr.heap.size wr w2) (hg : (w2.alloc ob).grownBy w4 v.ownBlock) : w4.heap[g]? = some (.cells #[x, v] TT (0, 0)) := by
  have h2 := h.later (hb.alloc hb.size ob)
  exact (hg.block g h2.lt (fun e => h.far e.symm)).trans h2.blk
/-- the slice that was appended to is stored -/
theorem Rec2.put {w2 w4 : World} {ob : Obj} {v' : Value} {m : Nat} {ys : List Value} (h : Rec2 TT T size w wr g x v n xs) (hb : Below wr.heap.size wr w2) (hg : (w2.alloc ob).grownBy w4 v.ownBlock) (hn : w4.ownsRow (g + 1) T size v' m ys) :
    Rec2 TT T size w (w4.setCell ⟨g, 1, none⟩ v') g x v' m ys := by
  have h2 := h.later (hb.alloc hb.size ob)
  have h4 := h.grown hb hg
  have b4 : Below w.heap.size w w4 := h2.below.grown hg h2.below.size (fun k hk => by have := (h.own.lt k hk).1; have := h.le; omega)
  refine ⟨?_, ownsRow_setCell_below hn (by show g < g + 1; omega) _, h.le, b4.setCell h.le _⟩
  unfold World.setCell
  simp [Array.getElem?_modify, h4]
end
section
variable {P : Program}
end
end Go.Proofs.YtoddpmdjjgnpgaaGreatDoor
namespace Go.Proofs.YtoddpmdjjgnpgaaGreatDoor
open Go.RowKit
set_option linter.unusedVariables false
end Go.Proofs.YtoddpmdjjgnpgaaGreatDoor
namespace Go.Proofs.YtoddpmdjjgnpgaaGreatDoor
open Go.RowKit
set_option linter.unusedVariables false
theorem ownsOff.mono {w : World} {base base' : Nat} {T : TypeId} {size : Nat} {v : Value} {n : Nat} {xs : List Value} (h : ownsOff w base T size v n xs) (hb : base' ≤ base) : ownsOff w base' T size v n xs := by
  refine ⟨h.1, ?_⟩
  rcases h.2 with h' | ⟨g, o, cap, cur, hv, hb', r⟩
  · exact .inl h'
  · exact .inr ⟨g, o, cap, cur, hv, by omega, r⟩
theorem alloc_two (w1 : World) (o o2 : Obj) : ((w1.alloc o).alloc o2).heap[w1.heap.size]? = some o ∧ ((w1.alloc o).alloc o2).heap[w1.heap.size + 1]? = some o2 := by
  have h1 := alloc_at w1 o
  have h2 := alloc_at (w1.alloc o) o2
  have e : (w1.alloc o).heap.size = w1.heap.size + 1 := by simp
  rw [e] at h2
  exact ⟨by rw [(alloc_belowS (w1.alloc o) o2).block w1.heap.size (by rw [e]; omega)]; exact h1, h2⟩
/-- the two fields of a box are set -/
theorem set_two {W : World} {g : Nat} {x y : Value} {T : TypeId} (h : W.heap[g]? = some (.cells #[x, y] T (0, 0))) (u v : Value) : ((W.setCell ⟨g, 0, none⟩ u).setCell ⟨g, 1, none⟩ v).heap[g]? = some (.cells #[u, v] T (0, 0)) := by
  unfold World.setCell
  simp [Array.getElem?_modify, h]
end Go.Proofs.YtoddpmdjjgnpgaaGreatDoor
namespace Go.Proofs.YtoddpmdjjgnpgaaGreatDoor
open Go.RowKit
set_option linter.unusedVariables false
def RetRule (m : Nat) (w : World) (e : Ending) (w' : World) : Prop := ∃ (x y : ByteArray) (b : Bool), (x.size ≤ m ∧ y.size ≤ m) ∧ e = .returned (.tuple #[.agg #[.string x, .string y], .bool b]) ∧ Below w.heap.size w w'
/-- two strings in a row of their own -/
def TwoS (m B : Nat) (w wr : World) (v : Value) : Prop := ∃ x y : ByteArray, (x.size ≤ m ∧ y.size ≤ m) ∧ wr.ownsRow (B + 1) 9 1 v 2 [.string x, .string y] ∧ Below B w wr ∧ wr.heap[B]? = some (.cells #[.string ⟨#[]⟩, .string ⟨#[]⟩] 120 (0, 0))
theorem TwoS.mk {m B : Nat} {w wr : World} {v : Value} {l : List ByteArray} (h2 : l.length = 2) (hl : ShortS m l) (ho : wr.ownsRow (B + 1) 9 1 v l.length (strVals l)) (hb : Below B w wr) (h0 : wr.heap[B]? = some (.cells #[.string ⟨#[]⟩, .string ⟨#[]⟩] 120 (0, 0))) : TwoS m B w wr v := by
  match l, h2 with
  | [x, y], _ => exact ⟨x, y, ⟨hl x (by simp), hl y (by simp)⟩, ho, hb, h0⟩
theorem TwoS.form {m B : Nat} {w wr : World} {a : Option Addr} {n cap : Nat} (h : TwoS m B w wr (.slice a n cap)) : ∃ g, a = some ⟨g, 0, none⟩ ∧ B + 1 ≤ g ∧ n = 2 := by
  obtain ⟨x, y, hs, ho, hb, h0⟩ := h
  rcases ho.2 with ⟨hv, h0⟩ | ⟨g, cap', cur, hv, hb', r⟩
  · cases h0
  · simp only [Value.slice.injEq] at hv
    exact ⟨g, hv.1, hb', hv.2.1⟩
theorem TwoS.store {m B : Nat} {w wr : World} {g cap : Nat} (h : TwoS m B w wr (.slice (some ⟨g, 0, none⟩) 2 cap)) (hg : B + 1 ≤ g) (i : Nat) : i < 2 → TwoS m B w (wr.setCell ⟨g, i, none⟩ (.string ⟨#[]⟩)) (.slice (some ⟨g, 0, none⟩) 2 cap) := by
  intro hi
  obtain ⟨x, y, hs, ho, hb, h0⟩ := h
  have hz : (⟨#[]⟩ : ByteArray).size = 0 := rfl
  have hst := (ho.stored i (.string ⟨#[]⟩)).1
  have hblk : (wr.setCell ⟨g, i, none⟩ (.string ⟨#[]⟩)).heap[B]? = some (.cells #[.string ⟨#[]⟩, .string ⟨#[]⟩] 120 (0, 0)) := by
    rw [← h0]
    unfold World.setCell
    rw [Array.getElem?_modify, if_neg (by show ¬ g = B; omega)]
  match i, hi with
  | 0, _ => exact ⟨⟨#[]⟩, y, by omega, hst, hb.setCell (by show B ≤ g; omega) _, hblk⟩
  | 1, _ => exact ⟨x, ⟨#[]⟩, by omega, hst, hb.setCell (by show B ≤ g; omega) _, hblk⟩
theorem RetRule.zero {m : Nat} {w wr : World} (h : Below w.heap.size w wr) : RetRule m w (.returned (.tuple #[.agg #[.string ⟨#[]⟩, .string ⟨#[]⟩], .bool false])) ((wr.setCell ⟨w.heap.size, 0, none⟩ (.string ⟨#[]⟩)).setCell ⟨w.heap.size, 1, none⟩ (.string ⟨#[]⟩)) := by
  have hz : (⟨#[]⟩ : ByteArray).size = 0 := rfl
  exact ⟨⟨#[]⟩, ⟨#[]⟩, false, by omega, rfl, (h.setCell (Nat.le_refl _) _).setCell (Nat.le_refl _) _⟩
end Go.Proofs.YtoddpmdjjgnpgaaGreatDoor
