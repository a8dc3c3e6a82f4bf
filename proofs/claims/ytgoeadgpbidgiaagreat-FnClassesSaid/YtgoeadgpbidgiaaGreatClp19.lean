/-
  TurnWork of the reference.
-/
import Derived.Test.YtgoeadgpbidgiaaGreatClp17
import Derived.Test.YtgoeadgpbidgiaaGreatClp01
import Derived.Test.YtgoeadgpbidgiaaGreatClp18
namespace Go.Proofs.YtgoeadgpbidgiaaGreat
open Go.RowKit
set_option linter.unusedVariables false
/-- what a turn hands back -/
def RetW (k : Int) (res : Nat × List RulD × List RulD × Nat) (w : World) (e : Ending) (w' : World) : Prop :=
  ∃ aR cR aQ cQ, e = .returned (.tuple #[workVal k aR res.2.1.length cR aQ res.2.2.1.length cQ res.2.2.2, .int .i64 (res.1 : Nat)]) ∧ RulesIn w' aR res.2.1 ∧ RulesIn w' aQ res.2.2.1 ∧ Below w.heap.size w w'
/-- a box of four cells is set -/
def set4 (W : World) (g : Nat) (a b c d : Value) : World := (((W.setCell ⟨g, 0, none⟩ a).setCell ⟨g, 1, none⟩ b).setCell ⟨g, 2, none⟩ c).setCell ⟨g, 3, none⟩ d
theorem set4_owns {W : World} {base : Nat} {T : TypeId} {size : Nat} {v : Value} {n : Nat} {xs : List Value} (h : ownsOff W base T size v n xs) {g : Nat} (hg : g < base) (a b c d : Value) : ownsOff (set4 W g a b c d) base T size v n xs :=
  (((h.setBelow (show g < base from hg) a).setBelow (show g < base from hg) b).setBelow (show g < base from hg) c).setBelow (show g < base from hg) d
theorem set4_below {B : Nat} {w W : World} (h : Below B w W) {g : Nat} (hg : B ≤ g) (a b c d : Value) : Below B w (set4 W g a b c d) := (((h.setCell (show B ≤ g from hg) a).setCell (show B ≤ g from hg) b).setCell (show B ≤ g from hg) c).setCell (show B ≤ g from hg) d
theorem offRules {w : World} {base : Nat} {T : TypeId} {a : Option Addr} {cap : Nat} {l : List RulD} (h : ownsOff w base T 2 (.slice a l.length cap) l.length (ruleCells l)) : RulesIn w a l := h.cells
theorem l04Trace_c (k : Int) (R : List RulD) (a : Option Addr) (cap : Nat) (u : ByteArray) (w : World) (hl : RulesIn w a R) (hs : sysP k R) (hu : wordOkB k u = true) :
    Calls Tryz.prog 101 #[.agg #[.int .i64 k, .slice a R.length cap], .string u] w fun e w' => ∃ v, e = .returned (.tuple #[v, .string (nfC R u)]) ∧ Below w.heap.size w w' :=
  (l04Trace_any k R a cap u w hl hs hu).mono fun e w' ⟨v, x, hx, he, hb⟩ => ⟨v, by rw [nfC_eq hx]; exact he, hb⟩
/-- a box of four cells, set -/
theorem four_sets {W : World} {g : Nat} {x0 x1 x2 x3 : Value} {T : TypeId} (h : W.heap[g]? = some (.cells #[x0, x1, x2, x3] T (0, 0))) (a b c d : Value) :
    (W.frozen? ⟨g, 0, none⟩ = false ∧ W.frozen? ⟨g, 1, none⟩ = false ∧ W.frozen? ⟨g, 2, none⟩ = false ∧ W.frozen? ⟨g, 3, none⟩ = false) ∧
    ((set4 W g a b c d).cell? ⟨g, 0, none⟩ = some a ∧ (set4 W g a b c d).cell? ⟨g, 1, none⟩ = some b ∧ (set4 W g a b c d).cell? ⟨g, 2, none⟩ = some c ∧ (set4 W g a b c d).cell? ⟨g, 3, none⟩ = some d) ∧
    (set4 W g a b c d).heap[g]? = some (.cells #[a, b, c, d] T (0, 0)) := by
  have e : (set4 W g a b c d).heap[g]? = some (.cells #[a, b, c, d] T (0, 0)) := by
    unfold set4 World.setCell
    simp [Array.getElem?_modify, h]
  refine ⟨⟨by simp [World.frozen?, h], by simp [World.frozen?, h], by simp [World.frozen?, h], by simp [World.frozen?, h]⟩, ⟨by simp [World.cell?, e], by simp [World.cell?, e], by simp [World.cell?, e], by simp [World.cell?, e]⟩, e⟩
theorem four_cells {W : World} {g : Nat} {x0 x1 x2 x3 : Value} {T : TypeId} (h : W.heap[g]? = some (.cells #[x0, x1, x2, x3] T (0, 0))) : (W.cell? ⟨g, 0, none⟩ = some x0 ∧ W.cell? ⟨g, 1, none⟩ = some x1 ∧ W.cell? ⟨g, 2, none⟩ = some x2 ∧ W.cell? ⟨g, 3, none⟩ = some x3) ∧ ∀ i, W.frozen? ⟨g, i, none⟩ = false :=
  ⟨⟨by simp [World.cell?, h], by simp [World.cell?, h], by simp [World.cell?, h], by simp [World.cell?, h]⟩, fun i => by simp [World.frozen?, h]⟩
theorem offSome {w : World} {base : Nat} {T : TypeId} {size : Nat} {a : Option Addr} {n cap : Nat} {xs : List Value} (h : ownsOff w base T size (.slice a n cap) n xs) (hn : 0 < n) : ∃ g o, a = some ⟨g, o, none⟩ ∧ n ≤ cap ∧ base ≤ g ∧ g < w.heap.size := by
  rcases h.2 with ⟨hv, h0⟩ | ⟨g, o, c, cur, hv, hb, hg, hc, _⟩
  · omega
  · simp only [Value.slice.injEq] at hv
    obtain ⟨rfl, _, rfl⟩ := hv
    exact ⟨g, o, rfl, hc, hb, (Array.getElem?_eq_some_iff.1 hg).1⟩
/-- the record that a turn makes: its rules, its equations (somewhere in their block) -/
structure OutAt (W : World) (base g : Nat) (k : Int) (xR : Value) (R : List RulD) (xQ : Value) (Q : List RulD) (T : Nat) : Prop where
  blk : W.heap[g]? = some (.cells #[.int .i64 k, xR, xQ, .int .i64 (T : Nat)] 74 (0, 0))
  rules : ownsOff W base 67 2 xR R.length (ruleCells R)
  queue : ownsOff W base 67 2 xQ Q.length (ruleCells Q)
  far : xQ.ownBlock ≠ some g ∧ xR.ownBlock ≠ some g
theorem OutAt.later {W W2 : World} {base g : Nat} {k : Int} {xR xQ : Value} {R Q : List RulD} {T : Nat} (h : OutAt W base g k xR R xQ Q T) (hb : Below W.heap.size W W2) : OutAt W2 base g k xR R xQ Q T :=
  ⟨block_later h.blk _ hb, h.rules.later hb, h.queue.later hb, h.far⟩
theorem ownsOff.ne_block {w : World} {base : Nat} {T T' : TypeId} {size : Nat} {v : Value} {n : Nat} {xs : List Value} (h : ownsOff w base T size v n xs) {g : Nat} {cs : Array Value} {fr : Nat × Nat} (hg : w.heap[g]? = some (.cells cs T' fr)) (hne : T ≠ T') : v.ownBlock ≠ some g := by
  intro e
  rcases h.2 with ⟨rfl, _⟩ | ⟨g1, o, cap, cur, rfl, hb', hg1, r⟩
  · simp [Value.ownBlock] at e
  · simp [Value.ownBlock] at e
    subst e
    rw [hg] at hg1
    simp only [Option.some.injEq, Obj.cells.injEq] at hg1
    exact hne hg1.2.1.symm
theorem outTurn {W : World} {base gO : Nat} {k : Int} {xR : Value} {R Qt : List RulD} {x2 v x3 : Value} {T : Nat} (hb : W.heap[gO]? = some (.cells #[.int .i64 k, xR, x2, x3] 74 (0, 0)))
    (hR : ownsOff W base 67 2 xR R.length (ruleCells R)) (hV : ownsOff W base 67 2 v Qt.length (ruleCells Qt)) : OutAt ((W.setCell ⟨gO, 2, none⟩ v).setCell ⟨gO, 3, none⟩ (.int .i64 (T : Nat))) base gO k xR R v Qt T := by
  refine ⟨?_, hR.set2 hb (by decide) _ _ _ _, hV.set2 hb (by decide) _ _ _ _, hV.ne_block hb (by decide), hR.ne_block hb (by decide)⟩
  unfold World.setCell
  simp [Array.getElem?_modify, hb]
theorem tailQ {W : World} {base gP oP cP : Nat} {Q Qt : List RulD} {q : RulD} (h : ownsOff W base 67 2 (.slice (some ⟨gP, oP, none⟩) Q.length cP) Q.length (ruleCells Q)) (e : Q = q :: Qt) (hc : Q.length ≤ cP) :
    ownsOff W base 67 2 (.slice (if cP = 1 then some ⟨gP, oP, none⟩ else some ⟨gP, oP + 2, none⟩) Qt.length (cP - 1)) Qt.length (ruleCells Qt) := by
  subst e
  by_cases h1 : cP = 1
  · rw [if_pos h1]
    have h0 : Qt = [] := List.eq_nil_of_length_eq_zero (by simp only [List.length_cons] at hc; omega)
    subst h0
    subst h1
    exact h.none_left
  · rw [if_neg h1]
    exact ownsOff.tail (x := [.string q.1, .string q.2]) h rfl
theorem heap_set_ne {W : World} {g i : Nat} (h : g ≠ i) (o : Nat) (v : Value) : (W.setCell ⟨g, o, none⟩ v).heap[i]? = W.heap[i]? := by
  unfold World.setCell
  rw [Array.getElem?_modify, if_neg h]
theorem ownsOff.set1 {w : World} {base : Nat} {T T' : TypeId} {size : Nat} {v : Value} {n : Nat} {xs : List Value} (h : ownsOff w base T size v n xs) {g : Nat} {cs : Array Value} {fr : Nat × Nat} (hg : w.heap[g]? = some (.cells cs T' fr)) (hne : T ≠ T') (o : Nat) (u : Value) :
    ownsOff (w.setCell ⟨g, o, none⟩ u) base T size v n xs := by
  refine ⟨h.1, ?_⟩
  rcases h.2 with h' | ⟨g1, o1, cap, cur, hv, hb', hg1, r⟩
  · exact .inl h'
  · refine .inr ⟨g1, o1, cap, cur, hv, hb', ?_, r⟩
    rw [heap_set_ne (fun e => by
      subst e
      rw [hg] at hg1
      simp only [Option.some.injEq, Obj.cells.injEq] at hg1
      exact hne hg1.2.1.symm)]
    exact hg1
theorem OutAt.setSys {W : World} {base g : Nat} {k : Int} {xR xN : Value} {R N : List RulD} {xQ : Value} {Q : List RulD} {T : Nat} (h : OutAt W base g k xR R xQ Q T) (hN : ownsOff W base 67 2 xN N.length (ruleCells N)) :
    OutAt ((W.setCell ⟨g, 0, none⟩ (.int .i64 k)).setCell ⟨g, 1, none⟩ xN) base g k xN N xQ Q T := by
  refine ⟨?_, hN.set2 h.blk (by decide) _ _ _ _, h.queue.set2 h.blk (by decide) _ _ _ _, h.far.1, hN.ne_block h.blk (by decide)⟩
  have hb := h.blk
  unfold World.setCell
  simp [Array.getElem?_modify, hb]
/-- an append to the equations -/
theorem OutAt.app {W W2 : World} {base g : Nat} {k : Int} {xR : Value} {R : List RulD} {xQ : Value} {Q M : List RulD} {T : Nat} {v : Value} (h : OutAt W base g k xR R xQ Q T) (ap : ∀ b, xQ.ownBlock = some b → xR.ownBlock ≠ some b)
    (ho : ownsOff W2 base 67 2 v (Q.length + M.length) (ruleCells Q ++ ruleCells M)) (hg : W.grownBy W2 xQ.ownBlock) (hw : ∀ b, v.ownBlock = some b → xQ.ownBlock = some b ∨ W.heap.size ≤ b) :
    OutAt (W2.setCell ⟨g, 2, none⟩ v) base g k xR R v (Q ++ M) T ∧ W2.heap[g]? = some (.cells #[.int .i64 k, xR, xQ, .int .i64 (T : Nat)] 74 (0, 0)) ∧ ∀ b, v.ownBlock = some b → xR.ownBlock ≠ some b := by
  have hb := grown_other h.queue hg h.blk (by decide)
  have ho2 : ownsOff W2 base 67 2 v (Q ++ M).length (ruleCells (Q ++ M)) := by rw [List.length_append, ruleCells_app]; exact ho
  have hr2 : ownsOff W2 base 67 2 xR R.length (ruleCells R) := h.rules.kept hg (by
    cases e : xR.ownBlock with
    | none => exact .inl rfl
    | some b => exact .inr fun e2 => ap b e2.symm e)
  refine ⟨⟨?_, hr2.set1 hb (by decide) _ _, ho2.set1 hb (by decide) _ _, ho2.ne_block hb (by decide), h.far.2⟩, hb, fun b hb2 hx => ?_⟩
  · unfold World.setCell
    simp [Array.getElem?_modify, hb]
  · rcases hw b hb2 with h1 | h1
    · exact ap b h1 hx
    · have := (h.rules.lt b hx).2
      omega
theorem l06Swap_any (x y : ByteArray) (w : World) : Calls Tryz.prog 102 #[.string x, .string y] w fun e w' => e = .returned (.tuple #[.string y, .string x]) ∧ w = w' := by
  go_enter Tryz.func102, Tryz.ntmps102
  go_wp2_with fail
  refine bodyPost_ret (v := .tuple #[.string y, .string x]) ?_ rfl ⟨rfl, rfl⟩
  simp [results, Tryz.results102, go_sem]
set_option maxRecDepth 100000 in
set_option maxHeartbeats 8000000 in
theorem specTurnWork_any (k : Int) (R : List RulD) (q : RulD) (Qt : List RulD) (T : Nat) (aR aQ : Option Addr) (cR cQ : Nat) (w : World) (hR : RulesIn w aR R) (hQ : RulesIn w aQ (q :: Qt)) (h : WorkP k R (q :: Qt) T) :
    Calls Tryz.prog 70 #[workVal k aR R.length cR aQ (q :: Qt).length cQ T] w (RetW k (turnF R (q :: Qt) T) w) := by
  obtain ⟨hqw1, hqw2⟩ := h.word q List.mem_cons_self
  obtain ⟨Q, hQe⟩ : ∃ Q, Q = q :: Qt := ⟨_, rfl⟩
  have hQn : nthR Q 0 = q := by rw [hQe]; rfl
  have HQL : Hid (Q.length = Qt.length + 1) := Lib.hid (by rw [hQe]; rfl)
  have hQp : 0 < Q.length := by have := HQL.out; omega
  have HQE := Lib.hid hQe
  rw [← hQe] at hQ h ⊢
  clear hQe
  obtain ⟨bQ, oQ, rfl, hbQ, hcQ⟩ := hQ.cell (i := 0) (by omega)
  have hf := h.few
  have ht := h.turns
  have h12R : R.length ≤ 12 := h.sys.1.1.2
  have HWK := Lib.hid h
  have HWO := Lib.hid (fun W hR hQ => specWorkOk_ok k R Q T aR (some ⟨bQ, oQ, none⟩) cR cQ W hR hQ h)
  have HCP := Lib.hid (fun W hR hQ => l06Copy_any k R Q T aR (some ⟨bQ, oQ, none⟩) cR cQ W hR hQ h12R hf)
  have HTA := Lib.hid (fun W h1 => l04Trace_c k R aR cR q.1 W h1 h.sys hqw1)
  have HTB := Lib.hid (fun W h1 => l04Trace_c k R aR cR q.2 W h1 h.sys hqw2)
  have HB0 := Lib.hid (Below.now (alloc_belowS w (.cells #[.int .i64 k, .slice aR R.length cR, .slice (some ⟨bQ, oQ, none⟩) Q.length cQ, .int .i64 (T : Nat)] 74)) (alloc_belowS _ (.cells #[.int .i64 0, .slice none 0 0, .slice none 0 0, .int .i64 0] 74)))
  have e1 : (w.alloc (.cells #[.int .i64 k, .slice aR R.length cR, .slice (some ⟨bQ, oQ, none⟩) Q.length cQ, .int .i64 (T : Nat)] 74)).heap.size = w.heap.size + 1 := by simp
  have HX : Hid (∀ W, Below ((w.alloc (.cells #[.int .i64 k, .slice aR R.length cR, .slice (some ⟨bQ, oQ, none⟩) Q.length cQ, .int .i64 (T : Nat)] 74)).alloc (.cells #[.int .i64 0, .slice none 0 0, .slice none 0 0, .int .i64 0] 74)).heap.size ((w.alloc (.cells #[.int .i64 k, .slice aR R.length cR, .slice (some ⟨bQ, oQ, none⟩) Q.length cQ, .int .i64 (T : Nat)] 74)).alloc (.cells #[.int .i64 0, .slice none 0 0, .slice none 0 0, .int .i64 0] 74)) W → W.cell? ⟨w.heap.size, 0, none⟩ = some (.int .i64 k) ∧ W.cell? ⟨w.heap.size, 1, none⟩ = some (.slice aR R.length cR) ∧ W.cell? ⟨w.heap.size, 2, none⟩ = some (.slice (some ⟨bQ, oQ, none⟩) Q.length cQ) ∧ W.cell? ⟨w.heap.size, 3, none⟩ = some (.int .i64 (T : Nat))) := Lib.hid (fun W hW => (box_four (Below.now (alloc_belowS _ (.cells #[.int .i64 0, .slice none 0 0, .slice none 0 0, .int .i64 0] 74)) hW)).1)
  have HZ : Hid (∀ W, Below ((w.alloc (.cells #[.int .i64 k, .slice aR R.length cR, .slice (some ⟨bQ, oQ, none⟩) Q.length cQ, .int .i64 (T : Nat)] 74)).alloc (.cells #[.int .i64 0, .slice none 0 0, .slice none 0 0, .int .i64 0] 74)).heap.size ((w.alloc (.cells #[.int .i64 k, .slice aR R.length cR, .slice (some ⟨bQ, oQ, none⟩) Q.length cQ, .int .i64 (T : Nat)] 74)).alloc (.cells #[.int .i64 0, .slice none 0 0, .slice none 0 0, .int .i64 0] 74)) W → W.heap[w.heap.size + 1]? = some (.cells #[.int .i64 0, .slice none 0 0, .slice none 0 0, .int .i64 0] 74 (0, 0))) := Lib.hid (fun W hW => by
    have hz := alloc_at (w.alloc (.cells #[.int .i64 k, .slice aR R.length cR, .slice (some ⟨bQ, oQ, none⟩) Q.length cQ, .int .i64 (T : Nat)] 74)) (.cells #[.int .i64 0, .slice none 0 0, .slice none 0 0, .int .i64 0] 74)
    rw [e1] at hz
    exact (hW.block _ (by simp)).trans hz)
  have HSZ : Hid (w.heap.size + 2 ≤ ((w.alloc (.cells #[.int .i64 k, .slice aR R.length cR, .slice (some ⟨bQ, oQ, none⟩) Q.length cQ, .int .i64 (T : Nat)] 74)).alloc (.cells #[.int .i64 0, .slice none 0 0, .slice none 0 0, .int .i64 0] 74)).heap.size) := Lib.hid (by simp)
  have HRI : Hid (∀ W, Below ((w.alloc (.cells #[.int .i64 k, .slice aR R.length cR, .slice (some ⟨bQ, oQ, none⟩) Q.length cQ, .int .i64 (T : Nat)] 74)).alloc (.cells #[.int .i64 0, .slice none 0 0, .slice none 0 0, .int .i64 0] 74)).heap.size ((w.alloc (.cells #[.int .i64 k, .slice aR R.length cR, .slice (some ⟨bQ, oQ, none⟩) Q.length cQ, .int .i64 (T : Nat)] 74)).alloc (.cells #[.int .i64 0, .slice none 0 0, .slice none 0 0, .int .i64 0] 74)) W → RulesIn W aR R) := Lib.hid (fun W h => hR.later (Below.now HB0.out h))
  have HQI : Hid (∀ W, Below ((w.alloc (.cells #[.int .i64 k, .slice aR R.length cR, .slice (some ⟨bQ, oQ, none⟩) Q.length cQ, .int .i64 (T : Nat)] 74)).alloc (.cells #[.int .i64 0, .slice none 0 0, .slice none 0 0, .int .i64 0] 74)).heap.size ((w.alloc (.cells #[.int .i64 k, .slice aR R.length cR, .slice (some ⟨bQ, oQ, none⟩) Q.length cQ, .int .i64 (T : Nat)] 74)).alloc (.cells #[.int .i64 0, .slice none 0 0, .slice none 0 0, .int .i64 0] 74)) W → RulesIn W (some ⟨bQ, oQ, none⟩) Q) := Lib.hid (fun W h => hQ.later (Below.now HB0.out h))
  have hc0 := hcQ 0 (by omega)
  rw [hQn] at hc0
  have HQC : Hid (∀ W, Below ((w.alloc (.cells #[.int .i64 k, .slice aR R.length cR, .slice (some ⟨bQ, oQ, none⟩) Q.length cQ, .int .i64 (T : Nat)] 74)).alloc (.cells #[.int .i64 0, .slice none 0 0, .slice none 0 0, .int .i64 0] 74)).heap.size ((w.alloc (.cells #[.int .i64 k, .slice aR R.length cR, .slice (some ⟨bQ, oQ, none⟩) Q.length cQ, .int .i64 (T : Nat)] 74)).alloc (.cells #[.int .i64 0, .slice none 0 0, .slice none 0 0, .int .i64 0] 74)) W → W.cell? ⟨bQ, oQ, none⟩ = some (.string q.1) ∧ W.cell? ⟨bQ, oQ + 1, none⟩ = some (.string q.2)) := Lib.hid (fun W h => by
    have hb := Below.now HB0.out h
    have e := (hb.cell (p := ⟨bQ, oQ + 0 * 2, none⟩) hbQ).trans hc0.1
    have e2 := (hb.cell (p := ⟨bQ, oQ + 0 * 2 + 1, none⟩) hbQ).trans hc0.2
    simpa using ⟨e, e2⟩)
  have hq0 : ((Q.length : Int) == 0) = false := by rw [beq_eq_false_iff_ne]; omega
  have hq1 : ¬ Q.length = 0 := by omega
  have hq2 : (0 : Int) < (Q.length : Int) := by omega
  clear hR hQ e1 h hcQ hc0 hbQ hQn
  unfold workVal
  go_enter Tryz.func70, Tryz.ntmps70
  go_wp2_with fail
  generalize ((w.alloc (.cells #[.int .i64 k, .slice aR R.length cR, .slice (some ⟨bQ, oQ, none⟩) Q.length cQ, .int .i64 (T : Nat)] 74)).alloc (.cells #[.int .i64 0, .slice none 0 0, .slice none 0 0, .int .i64 0] 74)) = w1 at *
  refine (HWO.out w1 (HRI.out _ (Below.refl _ _)) (HQI.out _ (Below.refl _ _))).mono ?_
  rintro e w2 ⟨rfl, hb2⟩
  have HB2 := Lib.hid hb2
  obtain ⟨s0, s1, s2, s3⟩ := HX.out _ hb2
  clear hb2
  by_cases hT : T = 200
  · have hT2 : (((T : Nat) : Int) == 200) = true := by rw [hT]; rfl
    have HTT := Lib.hid hT
    clear hT
    have HTF : turnF R Q T = (3, R, Q, T) := by rw [HQE.out]; exact (if_pos HTT.out)
    have HTFH := Lib.hid HTF
    clear HTF
    go_wp2_with fail
    refine (HCP.out _ (HRI.out _ HB2.out) (HQI.out _ HB2.out)).mono ?_
    rintro e w15 ⟨aR5, cR5, aQ5, cQ5, rfl, hr5, hq5, hb5⟩
    have hz5 := HZ.out _ (Below.now HB2.out hb5)
    have hgs : w.heap.size + 1 < w2.heap.size := by have := HB2.out.size; have := HSZ.out; omega
    obtain ⟨⟨f0, f1, f2, f3⟩, ⟨u0, u1, u2, u3⟩, _⟩ := four_sets hz5 (.int .i64 k) (.slice aR5 R.length cR5) (.slice aQ5 Q.length cQ5) (.int .i64 (T : Nat))
    obtain ⟨⟨q0, q1, q2, q3⟩, _⟩ := four_cells hz5
    have F : Hid (RetW k (turnF R Q T) w (.returned (.tuple #[workVal k aR5 R.length cR5 aQ5 Q.length cQ5 T, .int .i64 ((3 : Nat) : Int)])) (set4 w15 (w.heap.size + 1) (.int .i64 k) (.slice aR5 R.length cR5) (.slice aQ5 Q.length cQ5) (.int .i64 (T : Nat)))) := Lib.hid (by
      rw [HTFH.out]
      exact ⟨aR5, cR5, aQ5, cQ5, rfl, offRules (set4_owns hr5 hgs _ _ _ _), offRules (set4_owns hq5 hgs _ _ _ _), set4_below (Below.now HB0.out (Below.now HB2.out hb5)) (by omega) _ _ _ _⟩)
    unfold workVal at F ⊢
    unfold set4 at u0 u1 u2 u3
    clear hz5 hr5 hq5
    go_wp2_with fail
    refine bodyPost_ret (v := .tuple #[.agg #[.int .i64 k, .slice aR5 R.length cR5, .slice aQ5 Q.length cQ5, .int .i64 (T : Nat)], .int .i64 3]) ?_ rfl F.out
    simp [results, Tryz.results70, go_sem, u0, u1, u2, u3]
  have hT2 : (((T : Nat) : Int) == 200) = false := by rw [beq_eq_false_iff_ne]; omega
  go_wp2_with fail
  refine (HCP.out _ (HRI.out _ HB2.out) (HQI.out _ HB2.out)).mono ?_
  rintro e w5 ⟨aO, cO, aP, cP, rfl, hoR, hoQ, hb5⟩
  unfold workVal
  have HB25 := Lib.hid hb5
  have hb56 := Below.now hb5 (alloc_belowS w5 (.cells #[.int .i64 k, .slice aO R.length cO, .slice aP Q.length cP, .int .i64 (T : Nat)] 74))
  have HB6 := Lib.hid (Below.now HB2.out hb56)
  have HOB := Lib.hid (alloc_at w5 (.cells #[.int .i64 k, .slice aO R.length cO, .slice aP Q.length cP, .int .i64 (T : Nat)] 74))
  have HOR := Lib.hid (hoR.later (alloc_belowS w5 (.cells #[.int .i64 k, .slice aO R.length cO, .slice aP Q.length cP, .int .i64 (T : Nat)] 74)))
  have HOQ := Lib.hid (hoQ.later (alloc_belowS w5 (.cells #[.int .i64 k, .slice aO R.length cO, .slice aP Q.length cP, .int .i64 (T : Nat)] 74)))
  clear s0 s1 s2 s3 hoR hoQ hb56
  go_upto_region 8 with fail
  generalize w5.alloc (.cells #[.int .i64 k, .slice aO R.length cO, .slice aP Q.length cP, .int .i64 (T : Nat)] 74) = w6 at *
  generalize hgO : w5.heap.size = gO at *
  refine region_each (fun W => Below w6.heap.size w6 W) (fun W W2 => Below W.heap.size W W2) (fun u => by simp only [fPut, Act.put, List.setIfInBounds_toArray, List.set_cons_succ, List.set_cons_zero, Nat.zero_add, Nat.reduceAdd]; rfl) (by kernel_rfl) (by kernel_rfl) (by kernel_rfl) (Below.drew (Below.refl _ _)) ?_
  apply each_read (fun _ => Below.refl _ _) rfl
  · intro u wv hC hf
    obtain ⟨s0, s1, s2, s3⟩ := HX.out _ (Below.now HB6.out hC)
    obtain ⟨c0, c1⟩ := HQC.out _ (Below.now HB6.out hC)
    clear hf
    go_simp
    try rfl
  apply each_read (fun _ => Below.refl _ _) rfl
  · intro u wv hC hf
    obtain ⟨s0, s1, s2, s3⟩ := HX.out _ (Below.now HB6.out hC)
    obtain ⟨c0, c1⟩ := HQC.out _ (Below.now HB6.out hC)
    obtain ⟨d0_0, -⟩ := hf
    have e0 : u 0 = _ := d0_0 rfl
    clear d0_0
    go_simp
    try rfl
  conv => arg 8; simp only [List.cons_append, List.nil_append]
  apply each_read (fun _ => Below.refl _ _) rfl
  · intro u wv hC hf
    obtain ⟨s0, s1, s2, s3⟩ := HX.out _ (Below.now HB6.out hC)
    obtain ⟨c0, c1⟩ := HQC.out _ (Below.now HB6.out hC)
    clear hf
    go_simp
    try rfl
  conv => arg 8; simp only [List.cons_append, List.nil_append]
  apply each_read (fun _ => Below.refl _ _) rfl
  · intro u wv hC hf
    obtain ⟨s0, s1, s2, s3⟩ := HX.out _ (Below.now HB6.out hC)
    obtain ⟨c0, c1⟩ := HQC.out _ (Below.now HB6.out hC)
    obtain ⟨d2_0, -⟩ := hf
    have e2 : u 2 = _ := d2_0 rfl
    clear d2_0
    go_simp
    try rfl
  conv => arg 8; simp only [List.cons_append, List.nil_append]
  apply each_read (fun _ => Below.refl _ _) rfl
  · intro u wv hC hf
    obtain ⟨s0, s1, s2, s3⟩ := HX.out _ (Below.now HB6.out hC)
    obtain ⟨c0, c1⟩ := HQC.out _ (Below.now HB6.out hC)
    obtain ⟨d3_0, -⟩ := hf
    have e3 : u 3 = _ := d3_0 rfl
    clear d3_0
    go_simp
    try rfl
  conv => arg 8; simp only [List.cons_append, List.nil_append]
  apply each_read (fun _ => Below.refl _ _) rfl
  · intro u wv hC hf
    obtain ⟨s0, s1, s2, s3⟩ := HX.out _ (Below.now HB6.out hC)
    obtain ⟨c0, c1⟩ := HQC.out _ (Below.now HB6.out hC)
    obtain ⟨d4_0, -⟩ := hf
    have e4 : u 4 = _ := d4_0 rfl
    clear d4_0
    go_simp
    try rfl
  conv => arg 8; simp only [List.cons_append, List.nil_append]
  apply each_read (fun _ => Below.refl _ _) rfl
  · intro u wv hC hf
    obtain ⟨s0, s1, s2, s3⟩ := HX.out _ (Below.now HB6.out hC)
    obtain ⟨c0, c1⟩ := HQC.out _ (Below.now HB6.out hC)
    obtain ⟨d5_0, -⟩ := hf
    have e5 : u 5 = _ := d5_0 rfl
    clear d5_0
    go_simp
    try rfl
  conv => arg 8; simp only [List.cons_append, List.nil_append]
  refine each_call (fun v wv => ∃ x : Value, v = .tuple #[x, .string (nfC R q.1)]) (fun v w w2 _ hR h => h) rfl ?_ ?_
  · intro u wv hC hf
    obtain ⟨s0, s1, s2, s3⟩ := HX.out _ (Below.now HB6.out hC)
    obtain ⟨c0, c1⟩ := HQC.out _ (Below.now HB6.out hC)
    obtain ⟨d1_0, d6_1, -⟩ := hf
    have e1 : u 1 = _ := d1_0 rfl
    clear d1_0
    have e6 : u 6 = _ := d6_1 rfl
    clear d6_1
    apply Exists.intro; apply Exists.intro; apply And.intro
    · go_simp; exact ⟨rfl, rfl⟩
    · refine (HTA.out _ (HRI.out _ (Below.now HB6.out hC))).mono ?_
      rintro e w3 ⟨v, rfl, hb⟩
      exact ⟨_, rfl, Below.now hC hb, hb, v, rfl⟩
  conv => arg 8; simp only [List.cons_append, List.nil_append]
  refine each_do (fun v wv => ∃ x : Value, v = .tuple #[x, .string (nfC R q.1)]) (fun v w w2 _ hR h => h) rfl ?_ ?_
  · intro u wv hC hf
    obtain ⟨s0, s1, s2, s3⟩ := HX.out _ (Below.now HB6.out hC)
    obtain ⟨c0, c1⟩ := HQC.out _ (Below.now HB6.out hC)
    obtain ⟨d7_0, -⟩ := hf
    obtain ⟨x7, e7⟩ := d7_0 rfl
    refine ⟨.tuple #[x7, .string (nfC R q.1)], wv, ?_, hC, Below.refl _ _, x7, rfl⟩
    go_simp
    try rfl
  conv => arg 8; simp only [List.cons_append, List.nil_append]
  refine each_do (fun v wv => ∃ x : Value, v = x) (fun v w w2 _ hR h => h) rfl ?_ ?_
  · intro u wv hC hf
    obtain ⟨s0, s1, s2, s3⟩ := HX.out _ (Below.now HB6.out hC)
    obtain ⟨c0, c1⟩ := HQC.out _ (Below.now HB6.out hC)
    obtain ⟨d8_0, -⟩ := hf
    obtain ⟨x8, e8⟩ := d8_0 rfl
    refine ⟨x8, wv, ?_, hC, Below.refl _ _, x8, rfl⟩
    go_simp
    try rfl
  conv => arg 8; simp only [List.cons_append, List.nil_append]
  apply each_read (fun _ => Below.refl _ _) rfl
  · intro u wv hC hf
    obtain ⟨s0, s1, s2, s3⟩ := HX.out _ (Below.now HB6.out hC)
    obtain ⟨c0, c1⟩ := HQC.out _ (Below.now HB6.out hC)
    obtain ⟨d8_0, d11_1, -⟩ := hf
    obtain ⟨x8, e8⟩ := d8_0 rfl
    clear d11_1
    go_simp
    try rfl
  conv => arg 8; simp only [List.cons_append, List.nil_append]
  refine each_do (fun v wv => ∃ x : Value, v = x) (fun v w w2 _ hR h => h) rfl ?_ ?_
  · intro u wv hC hf
    obtain ⟨s0, s1, s2, s3⟩ := HX.out _ (Below.now HB6.out hC)
    obtain ⟨c0, c1⟩ := HQC.out _ (Below.now HB6.out hC)
    obtain ⟨d9_0, d7_1, d0_2, d1_3, d2_4, d3_5, d4_6, d5_7, d6_8, d7_9, d8_10, d9_11, d10_12, -⟩ := hf
    obtain ⟨x9, e9⟩ := d9_0 rfl
    obtain ⟨x7, e7⟩ := d7_1 rfl
    have e0 : u 0 = _ := d0_2 rfl
    clear d0_2
    have e1 : u 1 = _ := d1_3 rfl
    clear d1_3
    have e2 : u 2 = _ := d2_4 rfl
    clear d2_4
    have e3 : u 3 = _ := d3_5 rfl
    clear d3_5
    have e4 : u 4 = _ := d4_6 rfl
    clear d4_6
    have e5 : u 5 = _ := d5_7 rfl
    clear d5_7
    have e6 : u 6 = _ := d6_8 rfl
    clear d6_8
    clear d7_9
    obtain ⟨x8, e8⟩ := d8_10 rfl
    clear d9_11
    clear d10_12
    refine ⟨x9, wv, ?_, hC, Below.refl _ _, x9, rfl⟩
    go_simp
    try rfl
  conv => arg 8; simp only [List.cons_append, List.nil_append]
  apply each_read (fun _ => Below.refl _ _) rfl
  · intro u wv hC hf
    obtain ⟨s0, s1, s2, s3⟩ := HX.out _ (Below.now HB6.out hC)
    obtain ⟨c0, c1⟩ := HQC.out _ (Below.now HB6.out hC)
    obtain ⟨d10_0, d11_1, d0_2, d1_3, d2_4, d3_5, d4_6, d5_7, d6_8, d7_9, d8_10, d9_11, d10_12, d11_13, -⟩ := hf
    have e10 : u 10 = _ := d10_0 rfl
    clear d10_0
    clear d11_1
    have e0 : u 0 = _ := d0_2 rfl
    clear d0_2
    have e1 : u 1 = _ := d1_3 rfl
    clear d1_3
    have e2 : u 2 = _ := d2_4 rfl
    clear d2_4
    have e3 : u 3 = _ := d3_5 rfl
    clear d3_5
    have e4 : u 4 = _ := d4_6 rfl
    clear d4_6
    have e5 : u 5 = _ := d5_7 rfl
    clear d5_7
    have e6 : u 6 = _ := d6_8 rfl
    clear d6_8
    obtain ⟨x7, e7⟩ := d7_9 rfl
    obtain ⟨x8, e8⟩ := d8_10 rfl
    obtain ⟨x9, e9⟩ := d9_11 rfl
    clear d10_12
    clear d11_13
    go_simp
    try rfl
  intro u w7 hb7 hall
  obtain ⟨a0, a1, a2, a3, a4, a5, a6, a7, a8, a9, a10, a11, a12, -⟩ := hall
  have e0 : u 0 = _ := a0
  clear a0
  have e1 : u 1 = _ := a1
  clear a1
  have e2 : u 2 = _ := a2
  clear a2
  have e3 : u 3 = _ := a3
  clear a3
  have e4 : u 4 = _ := a4
  clear a4
  have e5 : u 5 = _ := a5
  clear a5
  have e6 : u 6 = _ := a6
  clear a6
  obtain ⟨x7, e7⟩ := a7
  replace e7 : u 7 = _ := e7
  obtain ⟨x8, e8⟩ := a8
  replace e8 : u 8 = _ := e8
  obtain ⟨x9, e9⟩ := a9
  replace e9 : u 9 = _ := e9
  have e10 : u 10 = _ := a10
  clear a10
  obtain ⟨x11, e11⟩ := a11
  replace e11 : u 11 = _ := e11
  have e12 : u 12 = _ := a12
  clear a12
  simp only [e0, e1, e2, e3, e4, e5, e6, e7, e8, e9, e10, e11, e12]
  clear e0 e1 e2 e3 e4 e5 e6 e7 e8 e9 e10 e11 e12
  have HB7 := Lib.hid (Below.now HB6.out hb7)
  have HOB7 := Lib.hid (block_later HOB.out _ hb7)
  have HOR7 := Lib.hid (HOR.out.later hb7)
  have HOQ7 := Lib.hid (HOQ.out.later hb7)
  clear hb7 HOB HOR HOQ HB6
  go_upto_region 9 with fail
  refine region_each (fun W => Below w7.heap.size w7 W) (fun W W2 => Below W.heap.size W W2) (fun u => by simp only [fPut, Act.put, List.setIfInBounds_toArray, List.set_cons_succ, List.set_cons_zero, Nat.zero_add, Nat.reduceAdd]; rfl) (by kernel_rfl) (by kernel_rfl) (by kernel_rfl) (Below.drew (Below.refl _ _)) ?_
  apply each_read (fun _ => Below.refl _ _) rfl
  · intro u wv hC hf
    obtain ⟨s0, s1, s2, s3⟩ := HX.out _ (Below.now HB7.out hC)
    obtain ⟨c0, c1⟩ := HQC.out _ (Below.now HB7.out hC)
    clear hf
    go_simp
    try rfl
  apply each_read (fun _ => Below.refl _ _) rfl
  · intro u wv hC hf
    obtain ⟨s0, s1, s2, s3⟩ := HX.out _ (Below.now HB7.out hC)
    obtain ⟨c0, c1⟩ := HQC.out _ (Below.now HB7.out hC)
    obtain ⟨d0_0, -⟩ := hf
    have e0 : u 0 = _ := d0_0 rfl
    clear d0_0
    go_simp
    try rfl
  conv => arg 8; simp only [List.cons_append, List.nil_append]
  apply each_read (fun _ => Below.refl _ _) rfl
  · intro u wv hC hf
    obtain ⟨s0, s1, s2, s3⟩ := HX.out _ (Below.now HB7.out hC)
    obtain ⟨c0, c1⟩ := HQC.out _ (Below.now HB7.out hC)
    clear hf
    go_simp
    try rfl
  conv => arg 8; simp only [List.cons_append, List.nil_append]
  apply each_read (fun _ => Below.refl _ _) rfl
  · intro u wv hC hf
    obtain ⟨s0, s1, s2, s3⟩ := HX.out _ (Below.now HB7.out hC)
    obtain ⟨c0, c1⟩ := HQC.out _ (Below.now HB7.out hC)
    obtain ⟨d2_0, -⟩ := hf
    have e2 : u 2 = _ := d2_0 rfl
    clear d2_0
    go_simp
    try rfl
  conv => arg 8; simp only [List.cons_append, List.nil_append]
  apply each_read (fun _ => Below.refl _ _) rfl
  · intro u wv hC hf
    obtain ⟨s0, s1, s2, s3⟩ := HX.out _ (Below.now HB7.out hC)
    obtain ⟨c0, c1⟩ := HQC.out _ (Below.now HB7.out hC)
    obtain ⟨d3_0, -⟩ := hf
    have e3 : u 3 = _ := d3_0 rfl
    clear d3_0
    go_simp
    try rfl
  conv => arg 8; simp only [List.cons_append, List.nil_append]
  apply each_read (fun _ => Below.refl _ _) rfl
  · intro u wv hC hf
    obtain ⟨s0, s1, s2, s3⟩ := HX.out _ (Below.now HB7.out hC)
    obtain ⟨c0, c1⟩ := HQC.out _ (Below.now HB7.out hC)
    obtain ⟨d4_0, -⟩ := hf
    have e4 : u 4 = _ := d4_0 rfl
    clear d4_0
    go_simp
    try rfl
  conv => arg 8; simp only [List.cons_append, List.nil_append]
  apply each_read (fun _ => Below.refl _ _) rfl
  · intro u wv hC hf
    obtain ⟨s0, s1, s2, s3⟩ := HX.out _ (Below.now HB7.out hC)
    obtain ⟨c0, c1⟩ := HQC.out _ (Below.now HB7.out hC)
    obtain ⟨d5_0, -⟩ := hf
    have e5 : u 5 = _ := d5_0 rfl
    clear d5_0
    go_simp
    try rfl
  conv => arg 8; simp only [List.cons_append, List.nil_append]
  refine each_call (fun v wv => ∃ x : Value, v = .tuple #[x, .string (nfC R q.2)]) (fun v w w2 _ hR h => h) rfl ?_ ?_
  · intro u wv hC hf
    obtain ⟨s0, s1, s2, s3⟩ := HX.out _ (Below.now HB7.out hC)
    obtain ⟨c0, c1⟩ := HQC.out _ (Below.now HB7.out hC)
    obtain ⟨d1_0, d6_1, -⟩ := hf
    have e1 : u 1 = _ := d1_0 rfl
    clear d1_0
    have e6 : u 6 = _ := d6_1 rfl
    clear d6_1
    apply Exists.intro; apply Exists.intro; apply And.intro
    · go_simp; exact ⟨rfl, rfl⟩
    · refine (HTB.out _ (HRI.out _ (Below.now HB7.out hC))).mono ?_
      rintro e w3 ⟨v, rfl, hb⟩
      exact ⟨_, rfl, Below.now hC hb, hb, v, rfl⟩
  conv => arg 8; simp only [List.cons_append, List.nil_append]
  refine each_do (fun v wv => ∃ x : Value, v = .tuple #[x, .string (nfC R q.2)]) (fun v w w2 _ hR h => h) rfl ?_ ?_
  · intro u wv hC hf
    obtain ⟨s0, s1, s2, s3⟩ := HX.out _ (Below.now HB7.out hC)
    obtain ⟨c0, c1⟩ := HQC.out _ (Below.now HB7.out hC)
    obtain ⟨d7_0, -⟩ := hf
    obtain ⟨x7, e7⟩ := d7_0 rfl
    refine ⟨.tuple #[x7, .string (nfC R q.2)], wv, ?_, hC, Below.refl _ _, x7, rfl⟩
    go_simp
    try rfl
  conv => arg 8; simp only [List.cons_append, List.nil_append]
  refine each_do (fun v wv => ∃ x : Value, v = x) (fun v w w2 _ hR h => h) rfl ?_ ?_
  · intro u wv hC hf
    obtain ⟨s0, s1, s2, s3⟩ := HX.out _ (Below.now HB7.out hC)
    obtain ⟨c0, c1⟩ := HQC.out _ (Below.now HB7.out hC)
    obtain ⟨d8_0, -⟩ := hf
    obtain ⟨x8, e8⟩ := d8_0 rfl
    refine ⟨x8, wv, ?_, hC, Below.refl _ _, x8, rfl⟩
    go_simp
    try rfl
  conv => arg 8; simp only [List.cons_append, List.nil_append]
  apply each_read (fun _ => Below.refl _ _) rfl
  · intro u wv hC hf
    obtain ⟨s0, s1, s2, s3⟩ := HX.out _ (Below.now HB7.out hC)
    obtain ⟨c0, c1⟩ := HQC.out _ (Below.now HB7.out hC)
    obtain ⟨d8_0, d11_1, -⟩ := hf
    obtain ⟨x8, e8⟩ := d8_0 rfl
    clear d11_1
    go_simp
    try rfl
  conv => arg 8; simp only [List.cons_append, List.nil_append]
  refine each_do (fun v wv => ∃ x : Value, v = x) (fun v w w2 _ hR h => h) rfl ?_ ?_
  · intro u wv hC hf
    obtain ⟨s0, s1, s2, s3⟩ := HX.out _ (Below.now HB7.out hC)
    obtain ⟨c0, c1⟩ := HQC.out _ (Below.now HB7.out hC)
    obtain ⟨d9_0, d7_1, d0_2, d1_3, d2_4, d3_5, d4_6, d5_7, d6_8, d7_9, d8_10, d9_11, d10_12, -⟩ := hf
    obtain ⟨x9, e9⟩ := d9_0 rfl
    obtain ⟨x7, e7⟩ := d7_1 rfl
    have e0 : u 0 = _ := d0_2 rfl
    clear d0_2
    have e1 : u 1 = _ := d1_3 rfl
    clear d1_3
    have e2 : u 2 = _ := d2_4 rfl
    clear d2_4
    have e3 : u 3 = _ := d3_5 rfl
    clear d3_5
    have e4 : u 4 = _ := d4_6 rfl
    clear d4_6
    have e5 : u 5 = _ := d5_7 rfl
    clear d5_7
    have e6 : u 6 = _ := d6_8 rfl
    clear d6_8
    clear d7_9
    obtain ⟨x8, e8⟩ := d8_10 rfl
    clear d9_11
    clear d10_12
    refine ⟨x9, wv, ?_, hC, Below.refl _ _, x9, rfl⟩
    go_simp
    try rfl
  conv => arg 8; simp only [List.cons_append, List.nil_append]
  apply each_read (fun _ => Below.refl _ _) rfl
  · intro u wv hC hf
    obtain ⟨s0, s1, s2, s3⟩ := HX.out _ (Below.now HB7.out hC)
    obtain ⟨c0, c1⟩ := HQC.out _ (Below.now HB7.out hC)
    obtain ⟨d10_0, d11_1, d0_2, d1_3, d2_4, d3_5, d4_6, d5_7, d6_8, d7_9, d8_10, d9_11, d10_12, d11_13, -⟩ := hf
    have e10 : u 10 = _ := d10_0 rfl
    clear d10_0
    clear d11_1
    have e0 : u 0 = _ := d0_2 rfl
    clear d0_2
    have e1 : u 1 = _ := d1_3 rfl
    clear d1_3
    have e2 : u 2 = _ := d2_4 rfl
    clear d2_4
    have e3 : u 3 = _ := d3_5 rfl
    clear d3_5
    have e4 : u 4 = _ := d4_6 rfl
    clear d4_6
    have e5 : u 5 = _ := d5_7 rfl
    clear d5_7
    have e6 : u 6 = _ := d6_8 rfl
    clear d6_8
    obtain ⟨x7, e7⟩ := d7_9 rfl
    obtain ⟨x8, e8⟩ := d8_10 rfl
    obtain ⟨x9, e9⟩ := d9_11 rfl
    clear d10_12
    clear d11_13
    go_simp
    try rfl
  intro u w8 hb8 hall
  obtain ⟨a0, a1, a2, a3, a4, a5, a6, a7, a8, a9, a10, a11, a12, -⟩ := hall
  have e0 : u 0 = _ := a0
  clear a0
  have e1 : u 1 = _ := a1
  clear a1
  have e2 : u 2 = _ := a2
  clear a2
  have e3 : u 3 = _ := a3
  clear a3
  have e4 : u 4 = _ := a4
  clear a4
  have e5 : u 5 = _ := a5
  clear a5
  have e6 : u 6 = _ := a6
  clear a6
  obtain ⟨x7, e7⟩ := a7
  replace e7 : u 7 = _ := e7
  obtain ⟨x8, e8⟩ := a8
  replace e8 : u 8 = _ := e8
  obtain ⟨x9, e9⟩ := a9
  replace e9 : u 9 = _ := e9
  have e10 : u 10 = _ := a10
  clear a10
  obtain ⟨x11, e11⟩ := a11
  replace e11 : u 11 = _ := e11
  have e12 : u 12 = _ := a12
  clear a12
  simp only [e0, e1, e2, e3, e4, e5, e6, e7, e8, e9, e10, e11, e12]
  clear e0 e1 e2 e3 e4 e5 e6 e7 e8 e9 e10 e11 e12
  have HB8 := Lib.hid (Below.now HB7.out hb8)
  have HOB8 := Lib.hid (block_later HOB7.out _ hb8)
  have HOR8 := Lib.hid (HOR7.out.later hb8)
  have HOQ8 := Lib.hid (HOQ7.out.later hb8)
  clear hb8 HOB7 HOR7 HOQ7 HB7
  obtain ⟨gP, oP, rfl, hcap, hgP, hgP2⟩ := offSome HOQ8.out (by omega)
  have hTw : IntKind.i64.wrap (((T : Nat) : Int) + 1) = ((T + 1 : Nat) : Int) := by rw [show (((T : Nat) : Int) + 1) = ((T + 1 : Nat) : Int) by omega]; exact IntWalk.i64_in _ (by omega)
  obtain ⟨⟨y0, y1, y2, y3⟩, ff⟩ := four_cells HOB8.out
  go_upto_region 12 with fail
  have HNQ : Hid (Q.length - 1 = Qt.length) := Lib.hid (by have := HQL.out; omega)
  rw [HNQ.out]
  have HV := Lib.hid (tailQ HOQ8.out HQE.out hcap)
  have HOA := Lib.hid (outTurn (T := T + 1) HOB8.out HOR8.out HV.out)
  have HBA : Hid (Below w1.heap.size w1 (((w8.setCell ⟨gO, 2, none⟩ (.slice (if cP = 1 then some ⟨gP, oP, none⟩ else some ⟨gP, oP + 2, none⟩) Qt.length (cP - 1))).setCell ⟨gO, 3, none⟩ (.int .i64 ((T + 1 : Nat) : Int))))) := Lib.hid ((HB8.out.setCell (by show _ ≤ gO; rw [← hgO]; exact Nat.le_trans HB2.out.size HB25.out.size) _).setCell (by show _ ≤ gO; rw [← hgO]; exact Nat.le_trans HB2.out.size HB25.out.size) _)
  rw [show (((T : Nat) : Int) + 1) = ((T + 1 : Nat) : Int) by omega]
  have HTE : Hid (turnF R Q T = if nfC R q.1 = nfC R q.2 then (0, R, Qt, T + 1) else if 8 < (orF2 (nfC R q.1) (nfC R q.2)).1.size then (1, R, Q, T) else if 12 < (nextF R (orF2 (nfC R q.1) (nfC R q.2))).length then (2, R, Q, T) else if 400 < (Qt ++ goneF R (orF2 (nfC R q.1) (nfC R q.2)).1 ++ newQ (nextF R (orF2 (nfC R q.1) (nfC R q.2)))).length then (2, R, Q, T) else (0, nextF R (orF2 (nfC R q.1) (nfC R q.2)), Qt ++ goneF R (orF2 (nfC R q.1) (nfC R q.2)).1 ++ newQ (nextF R (orF2 (nfC R q.1) (nfC R q.2))), T + 1)) := Lib.hid (by rw [HQE.out]; exact if_neg hT)
  have HNR : Hid (¬ nfC R q.1 = nfC R q.2 → ¬ 8 < (orF2 (nfC R q.1) (nfC R q.2)).1.size → NewR k (orF2 (nfC R q.1) (nfC R q.2))) := Lib.hid (fun h1 h2 => orF2_new HWK.out.sys ⟨hqw1, hqw2⟩ h1 h2)
  have HSA : Hid ((nfC R q.1).size ≤ maxLen ∧ (nfC R q.2).size ≤ maxLen) := Lib.hid ⟨by have := (wdP_of (nfC_word HWK.out.sys.weak hqw1)).len; unfold maxLen; omega, by have := (wdP_of (nfC_word HWK.out.sys.weak hqw2)).len; unfold maxLen; omega⟩
  have HGO : Hid (w2.heap.size ≤ gO) := Lib.hid (by rw [← hgO]; exact HB25.out.size)
  have HQTL : Hid (Qt.length ≤ 400) := Lib.hid (by have := HQL.out; omega)
  generalize hT1 : T + 1 = T1 at *
  clear hT1
  clear HV HTA HTB hTw y0 y1 y2 y3 ff hcap hgP hgP2 HOB8 HOR8 HOQ8 HB8 hqw1 hqw2 hq0 hq1 hq2 HNQ hgO HQC
  generalize (Value.slice (if cP = 1 then some ⟨gP, oP, none⟩ else some ⟨gP, oP + 2, none⟩) Qt.length (cP - 1)) = xV at *
  obtain ⟨aV, cV, rfl⟩ := HOA.out.queue.form
  generalize (w8.setCell ⟨gO, 2, none⟩ (.slice aV Qt.length cV)).setCell ⟨gO, 3, none⟩ (.int .i64 ((T1 : Nat) : Int)) = wA at *
  generalize nfC R q.1 = A at *
  generalize nfC R q.2 = B at *
  cases heq : (A.toList == B.toList)
  · have hne : ¬ A = B := by rintro rfl; simp at heq
    have HNE := Lib.hid hne
    have HTE2 := Lib.hid (HTE.out.trans (if_neg hne))
    clear hne HTE
    have HIL := Lib.hid (fun W => specIsLess_any A B W HSA.out.1 HSA.out.2)
    have HSW := Lib.hid (fun W => l06Swap_any A B W)
    have HOO : Hid (orF2 A B = if lessS A B = true then (B, A) else (A, B)) := Lib.hid rfl
    go_wp2_with fail
    refine (HIL.out _).mono ?_
    rintro e wi ⟨rfl, rfl⟩
    clear heq
    go_upto_if 65 with fail
    go_cut [6, 8] (fun va vb wx => va = .string (orF2 A B).1 ∧ vb = .string (orF2 A B).2 ∧ wx = wA)
    case first =>
      cases hls : lessS A B
      · have HE : Hid (orF2 A B = (A, B)) := Lib.hid (by rw [HOO.out, hls]; rfl)
        clear HOO
        go_wp2_with fail
        go_meet
        exact ⟨by rw [HE.out], by rw [HE.out], rfl⟩
      · have HE : Hid (orF2 A B = (B, A)) := Lib.hid (by rw [HOO.out, hls]; rfl)
        clear HOO
        go_wp2_with fail
        refine (HSW.out _).mono ?_
        rintro e wj ⟨rfl, rfl⟩
        go_wp2_with fail
        go_meet
        exact ⟨by rw [HE.out], by rw [HE.out], rfl⟩
    case rest =>
      obtain ⟨rfl, rfl, hwc⟩ := hcut
      replace hwc := hwc.symm
      subst hwc
      clear HOO HIL HSW HSA
      generalize orF2 A B = r at *
      by_cases h8 : 8 < r.1.size
      · have HTFH := Lib.hid (HTE2.out.trans (if_pos h8))
        have h8i : (8 : Int) < (r.1.size : Int) := by omega
        obtain ⟨s0, s1, s2, s3⟩ := HX.out _ HBA.out
        clear h8
        go_wp2_with fail
        refine (HCP.out _ (HRI.out _ HBA.out) (HQI.out _ HBA.out)).mono ?_
        rintro e w15 ⟨aR5, cR5, aQ5, cQ5, rfl, hr5, hq5, hb5⟩
        have hz5 := HZ.out _ (Below.now HBA.out hb5)
        have hgs : w.heap.size + 1 < wA.heap.size := by have := HBA.out.size; have := HSZ.out; omega
        obtain ⟨⟨f0, f1, f2, f3⟩, ⟨u0, u1, u2, u3⟩, _⟩ := four_sets hz5 (.int .i64 k) (.slice aR5 R.length cR5) (.slice aQ5 Q.length cQ5) (.int .i64 (T : Nat))
        obtain ⟨⟨q0, q1, q2, q3⟩, _⟩ := four_cells hz5
        have F : Hid (RetW k (turnF R Q T) w (.returned (.tuple #[workVal k aR5 R.length cR5 aQ5 Q.length cQ5 T, .int .i64 ((1 : Nat) : Int)])) (set4 w15 (w.heap.size + 1) (.int .i64 k) (.slice aR5 R.length cR5) (.slice aQ5 Q.length cQ5) (.int .i64 (T : Nat)))) := Lib.hid (by
          rw [HTFH.out]
          exact ⟨aR5, cR5, aQ5, cQ5, rfl, offRules (set4_owns hr5 hgs _ _ _ _), offRules (set4_owns hq5 hgs _ _ _ _), set4_below (Below.now HB0.out (Below.now HBA.out hb5)) (by omega) _ _ _ _⟩)
        unfold workVal at F ⊢
        unfold set4 at u0 u1 u2 u3
        clear hz5 hr5 hq5
        go_wp2_with fail
        refine bodyPost_ret (v := .tuple #[.agg #[.int .i64 k, .slice aR5 R.length cR5, .slice aQ5 Q.length cQ5, .int .i64 (T : Nat)], .int .i64 1]) ?_ rfl F.out
        simp [results, Tryz.results70, go_sem, u0, u1, u2, u3]
      have HTE3 := Lib.hid (HTE2.out.trans (if_neg h8))
      have HRN := Lib.hid (HNR.out HNE.out h8)
      have h8i : ¬ (8 : Int) < (r.1.size : Int) := by omega
      have HIN := Lib.hid (l06Insert_any k R r aR cR wA (HRI.out _ HBA.out) HWK.out.sys HRN.out)
      obtain ⟨s0, s1, s2, s3⟩ := HX.out _ HBA.out
      clear h8 HTE2 HNR HNE
      go_wp2_with fail
      refine HIN.out.mono ?_
      rintro e wB ⟨N, aN, aG, cN, cG, hNl, hNe, rfl, hoN, hoG, hbB⟩
      have hbC := Below.now hbB (alloc_belowS wB (.cells #[.int .i64 k, .slice aN N.length cN] 25))
      have HBC := Lib.hid (Below.now HBA.out hbC)
      have HGA : Hid (gO < wA.heap.size) := Lib.hid (Array.getElem?_eq_some_iff.1 HOA.out.blk).1
      have HNC0 := Lib.hid ((ownsOff.of_row hoN).later (alloc_belowS wB (.cells #[.int .i64 k, .slice aN N.length cN] 25)))
      have HNC := Lib.hid (HNC0.out.mono (base' := w2.heap.size) (by have := HGO.out; have := HGA.out; omega))
      have HGC := Lib.hid ((ownsOff.of_row hoG).later (alloc_belowS wB (.cells #[.int .i64 k, .slice aN N.length cN] 25)))
      have HAT := Lib.hid (alloc_at wB (.cells #[.int .i64 k, .slice aN N.length cN] 25))
      have HOC := Lib.hid (HOA.out.later hbC)
      have HGS : Hid (gO ≠ wB.heap.size) := Lib.hid (by have := HGA.out; have := hbB.size; omega)
      have HAP : Hid (∀ b, (Value.slice aV Qt.length cV).ownBlock = some b → (Value.slice aN N.length cN).ownBlock ≠ some b) := Lib.hid (fun b h1 h2 => by
        have := (HOA.out.queue.lt b h1).2
        have := (HNC0.out.lt b h2).1
        omega)
      have HNL := Lib.hid hNl
      have HNE2 := Lib.hid hNe
      clear s0 s1 s2 s3 hoN hoG hbB hbC hNl hNe h8i HNC0 HIN
      go_upto_region 19 with fail
      generalize wB.alloc (.cells #[.int .i64 k, .slice aN N.length cN] 25) = wC at *
      generalize hgS : wB.heap.size = gS at *
      clear hgS
      obtain ⟨g0, g1, _, _⟩ := rec_cells HAT.out
      by_cases h12 : 12 < N.length
      · have HTFH := Lib.hid (HTE3.out.trans (if_pos (by rw [← HNL.out]; exact h12)))
        have h12i : (12 : Int) < (N.length : Int) := by omega
        obtain ⟨s0, s1, s2, s3⟩ := HX.out _ HBC.out
        clear h12
        go_wp2_with fail
        refine (HCP.out _ (HRI.out _ HBC.out) (HQI.out _ HBC.out)).mono ?_
        rintro e w15 ⟨aR5, cR5, aQ5, cQ5, rfl, hr5, hq5, hb5⟩
        have hz5 := HZ.out _ (Below.now HBC.out hb5)
        have hgs : w.heap.size + 1 < wC.heap.size := by have := HBC.out.size; have := HSZ.out; omega
        obtain ⟨⟨f0, f1, f2, f3⟩, ⟨u0, u1, u2, u3⟩, _⟩ := four_sets hz5 (.int .i64 k) (.slice aR5 R.length cR5) (.slice aQ5 Q.length cQ5) (.int .i64 (T : Nat))
        obtain ⟨⟨q0, q1, q2, q3⟩, _⟩ := four_cells hz5
        have F : Hid (RetW k (turnF R Q T) w (.returned (.tuple #[workVal k aR5 R.length cR5 aQ5 Q.length cQ5 T, .int .i64 ((2 : Nat) : Int)])) (set4 w15 (w.heap.size + 1) (.int .i64 k) (.slice aR5 R.length cR5) (.slice aQ5 Q.length cQ5) (.int .i64 (T : Nat)))) := Lib.hid (by
          rw [HTFH.out]
          exact ⟨aR5, cR5, aQ5, cQ5, rfl, offRules (set4_owns hr5 hgs _ _ _ _), offRules (set4_owns hq5 hgs _ _ _ _), set4_below (Below.now HB0.out (Below.now HBC.out hb5)) (by omega) _ _ _ _⟩)
        unfold workVal at F ⊢
        unfold set4 at u0 u1 u2 u3
        clear hz5 hr5 hq5
        go_wp2_with fail
        refine bodyPost_ret (v := .tuple #[.agg #[.int .i64 k, .slice aR5 R.length cR5, .slice aQ5 Q.length cQ5, .int .i64 (T : Nat)], .int .i64 2]) ?_ rfl F.out
        simp [results, Tryz.results70, go_sem, u0, u1, u2, u3]
      have h12i : ¬ (12 : Int) < (N.length : Int) := by omega
      have HTE4 := Lib.hid (HTE3.out.trans (if_neg (by rw [← HNL.out]; exact h12)))
      have HNX := Lib.hid (HNE2.out (by rw [← HNL.out]; exact h12))
      have HNS : Hid (sysP k N) := Lib.hid (by rw [HNX.out]; exact nextF_sys HWK.out.sys HRN.out (by rw [← HNL.out]; exact h12))
      have HNP : Hid (0 < N.length) := Lib.hid (by rw [HNX.out, nextF_len]; omega)
      have HN13 : Hid (N.length ≤ 13) := Lib.hid (by omega)
      have HGL : Hid ((goneF R r.1).length ≤ 12) := Lib.hid (Nat.le_trans (List.length_filter_le _ _) h12R)
      rw [← HNX.out] at HTE4
      obtain ⟨⟨y0, y1, y2, y3⟩, ff⟩ := four_cells HOC.out.blk
      clear h12 HTE3
      go_upto_region 22 with fail
      have HOD := Lib.hid (HOC.out.setSys HNC.out)
      have HBD := Lib.hid ((HBC.out.setCell (p := ⟨gO, 0, none⟩) (by show _ ≤ gO; have := HGO.out; have := HB2.out.size; omega) (.int .i64 k)).setCell (p := ⟨gO, 1, none⟩) (by show _ ≤ gO; have := HGO.out; have := HB2.out.size; omega) (.slice aN N.length cN))
      have HAD : Hid (((wC.setCell ⟨gO, 0, none⟩ (.int .i64 k)).setCell ⟨gO, 1, none⟩ (.slice aN N.length cN)).heap[gS]? = some (.cells #[.int .i64 k, .slice aN N.length cN] 25 (0, 0))) := Lib.hid (by rw [heap_set_ne HGS.out, heap_set_ne HGS.out]; exact HAT.out)
      have HGD := Lib.hid (HGC.out.set2 HOC.out.blk (by decide) 0 1 (.int .i64 k) (.slice aN N.length cN))
      clear HOC HBC HAT HGC y0 y1 y2 y3 ff g0 g1 HNC HOA HBA h12i
      generalize (wC.setCell ⟨gO, 0, none⟩ (.int .i64 k)).setCell ⟨gO, 1, none⟩ (.slice aN N.length cN) = wD at *
      have HSG := Lib.hid (src_rules (P := Tryz.prog) Tryz.underlying23 (offRules HGD.out) cG)
      obtain ⟨⟨y0, y1, y2, y3⟩, ff⟩ := four_cells HOD.out.blk
      have N3 : Hid (Qt.length + (goneF R r.1).length ≤ maxLen) := Lib.hid (by have := HQTL.out; have := HGL.out; unfold maxLen; omega)
      have N4 : Hid ((Qt.length + (goneF R r.1).length) * 32 ≤ 140737488355328) := Lib.hid (by have := HQTL.out; have := HGL.out; omega)
      have HDS : Hid (w2.heap.size ≤ wD.heap.size) := Lib.hid (by have := (Array.getElem?_eq_some_iff.1 HOD.out.blk).1; have := HGO.out; omega)
      generalize goneF R r.1 = G at *
      go_wp2_with (at_builtin; refine wpList_append_off2 rfl (.tmp 95) (.tmp 96) (by rfl) Tryz.underlying23 Tryz.infoRule rfl (by decide) (by rfl) HOD.out.queue HDS.out (by rfl) HSG.out N3.out N4.out ?_; intro vE wE hoE hgE hwE; have HE := Lib.hid (HOD.out.app HAP.out hoE hgE hwE); obtain ⟨aE, cE, rfl⟩ := hoE.form; obtain ⟨⟨q0, q1, q2, q3⟩, ff2⟩ := four_cells HE.out.2.1; have HAE := Lib.hid (grown_other HOD.out.queue hgE HAD.out (by decide)); have HBE : Hid (Below w1.heap.size w1 wE) := Lib.hid (Below.grown HBD.out hgE HBD.out.size (fun b hb => by have := (HOD.out.queue.lt b hb).1; have := HB2.out.size; omega)); clear hoE hgE hwE)
      have HOF := Lib.hid HE.out.1
      have HAPF := Lib.hid HE.out.2.2
      have HBF := Lib.hid (HBE.out.setCell (p := ⟨gO, 2, none⟩) (by show _ ≤ gO; have := HGO.out; have := HB2.out.size; omega) (.slice aE (Qt.length + G.length) cE))
      have HAF : Hid ((wE.setCell ⟨gO, 2, none⟩ (.slice aE (Qt.length + G.length) cE)).heap[gS]? = some (.cells #[.int .i64 k, .slice aN N.length cN] 25 (0, 0))) := Lib.hid (by rw [heap_set_ne HGS.out]; exact HAE.out)
      clear q0 q1 q2 q3 ff2 HE HAE HBE HOD HBD HAD HGD HSG y0 y1 y2 y3 ff HAP HDS N3 N4
      generalize wE.setCell ⟨gO, 2, none⟩ (.slice aE (Qt.length + G.length) cE) = wF at *
      have HYF : Hid (∀ W, Below wF.heap.size wF W → (W.cell? ⟨gO, 0, none⟩ = some (.int .i64 k) ∧ W.cell? ⟨gO, 1, none⟩ = some (.slice aN N.length cN) ∧ W.cell? ⟨gO, 2, none⟩ = some (.slice aE (Qt.length + G.length) cE) ∧ W.cell? ⟨gO, 3, none⟩ = some (.int .i64 ((T1 : Nat) : Int))) ∧ W.cell? ⟨gS, 0, none⟩ = some (.int .i64 k) ∧ W.cell? ⟨gS, 1, none⟩ = some (.slice aN N.length cN)) := Lib.hid (fun W hW => by
        have h1 := rec_cells (block_later HAF.out W hW)
        exact ⟨(four_cells (HOF.out.later hW).blk).1, h1.1, h1.2.1⟩)
      have HNF := Lib.hid HOF.out.rules
      have HPR := Lib.hid (fun W h => l06Pairs_any k N aN cN W h HNS.out HNP.out)
      refine region_tail 4 (fun W => Below wF.heap.size wF W) (fun W W2 => Below W.heap.size W W2) (fun u => by simp only [List.take_succ_cons, List.take_zero, fPut, Act.put, List.setIfInBounds_toArray, List.set_cons_succ, List.set_cons_zero, Nat.zero_add, Nat.reduceAdd]; rfl) (by kernel_rfl) (by kernel_rfl) (by kernel_rfl) (by kernel_rfl) (by kernel_rfl) (by kernel_rfl) (by kernel_rfl) (Below.drew (Below.refl _ _)) ?_
      conv => arg 7; simp only [List.take_succ_cons, List.take_zero]
      apply each_read (fun _ => Below.refl _ _) rfl
      · intro u wv hC hf
        obtain ⟨y0, y1, y2, y3⟩ := (HYF.out _ hC).1
        obtain ⟨g0, g1⟩ := (HYF.out _ hC).2
        clear hf
        go_simp
        try rfl
      apply each_read (fun _ => Below.refl _ _) rfl
      · intro u wv hC hf
        obtain ⟨y0, y1, y2, y3⟩ := (HYF.out _ hC).1
        obtain ⟨g0, g1⟩ := (HYF.out _ hC).2
        obtain ⟨d0_0, -⟩ := hf
        have e0 : u 0 = _ := d0_0 rfl
        clear d0_0
        go_simp
        try rfl
      conv => arg 8; simp only [List.cons_append, List.nil_append]
      apply each_read (fun _ => Below.refl _ _) rfl
      · intro u wv hC hf
        obtain ⟨y0, y1, y2, y3⟩ := (HYF.out _ hC).1
        obtain ⟨g0, g1⟩ := (HYF.out _ hC).2
        clear hf
        go_simp
        try rfl
      conv => arg 8; simp only [List.cons_append, List.nil_append]
      refine each_call (fun v wv => ∃ a c, v = .slice a (newQ N).length c ∧ ownsOff wv wF.heap.size 67 2 (.slice a (newQ N).length c) (newQ N).length (ruleCells (newQ N))) (fun v w w2 _ hR ⟨a, c, h1, h2⟩ => ⟨a, c, h1, h2.later hR⟩) rfl ?_ ?_
      · intro u wv hC hf
        obtain ⟨y0, y1, y2, y3⟩ := (HYF.out _ hC).1
        obtain ⟨g0, g1⟩ := (HYF.out _ hC).2
        obtain ⟨d2_0, -⟩ := hf
        have e2 : u 2 = _ := d2_0 rfl
        clear d2_0
        apply Exists.intro; apply Exists.intro; apply And.intro
        · go_simp; exact ⟨rfl, rfl⟩
        · refine (HPR.out _ (HNF.out.later hC).cells).mono ?_
          rintro e w3 ⟨a, c, rfl, ho, hb⟩
          exact ⟨_, rfl, Below.now hC hb, hb, a, c, rfl, ownsOff.of_row (owns_mono ho hC.size)⟩
      intro u wG hbG hall
      obtain ⟨a0, a1, a2, a3, -⟩ := hall
      have e0 : u 0 = _ := a0
      clear a0
      have e1 : u 1 = _ := a1
      clear a1
      have e2 : u 2 = _ := a2
      clear a2
      obtain ⟨a3, c3, e3, o3⟩ := a3
      replace e3 : u 3 = _ := e3
      change wpList _ _ _ (List.drop 4 _) _ _
      simp only [List.drop_succ_cons, List.drop_zero]
      simp only [e0, e1, e2, e3]
      clear e0 e1 e2 e3
      have HOG := Lib.hid (HOF.out.later hbG)
      have HBG := Lib.hid (Below.now HBF.out hbG)
      have HSG := Lib.hid (src_rules (P := Tryz.prog) Tryz.underlying23 (offRules o3) c3)
      have HMQ : Hid ((newQ N).length ≤ 2496) := Lib.hid (by
        have h1 := newL_len N (pairsF N)
        have h2 := pairTo_len (left8 HNS.out) HNS.out.1.1.2 (i := N.length) (j := 0) HNS.out.1.1.2 (by omega)
        rw [pairTo_done] at h2
        exact Nat.le_trans h1 h2)
      have HDS : Hid (w2.heap.size ≤ wG.heap.size) := Lib.hid (by have := (Array.getElem?_eq_some_iff.1 HOG.out.blk).1; have := HGO.out; omega)
      have N3 : Hid (Qt.length + G.length + (newQ N).length ≤ maxLen) := Lib.hid (by have := HQTL.out; have := HGL.out; have := HMQ.out; unfold maxLen; omega)
      have N4 : Hid ((Qt.length + G.length + (newQ N).length) * 32 ≤ 140737488355328) := Lib.hid (by have := HQTL.out; have := HGL.out; have := HMQ.out; omega)
      have HQG : Hid ((Qt ++ G).length = Qt.length + G.length) := Lib.hid List.length_append
      have HOQG : Hid (ownsOff wG w2.heap.size 67 2 (.slice aE (Qt.length + G.length) cE) (Qt.length + G.length) (ruleCells (Qt ++ G))) := Lib.hid (by have h := HOG.out.queue; rw [HQG.out] at h; exact h)
      generalize newQ N = M at *
      refine wpList_append_off2 rfl (.tmp 100) (.tmp 102) (by rfl) Tryz.underlying23 Tryz.infoRule rfl (by decide) (by rfl) HOQG.out HDS.out (by rfl) HSG.out N3.out N4.out ?_
      intro vH wH hoH hgH hwH
      have HE := Lib.hid (HOG.out.app (M := M) HAPF.out (by rw [HQG.out]; exact hoH) hgH hwH)
      obtain ⟨aH, cH, rfl⟩ := hoH.form
      obtain ⟨⟨q0, q1, q2, q3⟩, ff2⟩ := four_cells HE.out.2.1
      have HBH : Hid (Below w1.heap.size w1 wH) := Lib.hid (Below.grown HBG.out hgH HBG.out.size (fun b hb => by have := (HOG.out.queue.lt b hb).1; have := HB2.out.size; omega))
      clear hoH hgH hwH o3 hbG
      have HOI := Lib.hid HE.out.1
      have HBI := Lib.hid (HBH.out.setCell (p := ⟨gO, 2, none⟩) (by show _ ≤ gO; have := HGO.out; have := HB2.out.size; omega) (.slice aH (Qt.length + G.length + M.length) cH))
      have HQM : Hid ((Qt ++ G ++ M).length = Qt.length + G.length + M.length) := Lib.hid (by rw [List.length_append, List.length_append])
      rw [← HQM.out] at HBI HOI ⊢
      generalize Qt ++ G ++ M = Q3 at *
      go_upto_region 24 with fail
      clear q0 q1 q2 q3 ff2 HE HBH HOG HBG HSG HYF HAF HBF HOF HNF HPR N3 N4 HOQG HDS
      generalize wH.setCell ⟨gO, 2, none⟩ (.slice aH Q3.length cH) = wI at *
      obtain ⟨⟨y0, y1, y2, y3⟩, ff⟩ := four_cells HOI.out.blk
      by_cases h400 : 400 < Q3.length
      · have HTFH := Lib.hid (HTE4.out.trans (if_pos h400))
        have h400i : (400 : Int) < (Q3.length : Int) := by omega
        obtain ⟨s0, s1, s2, s3⟩ := HX.out _ HBI.out
        clear h400
        go_wp2_with fail
        refine (HCP.out _ (HRI.out _ HBI.out) (HQI.out _ HBI.out)).mono ?_
        rintro e w15 ⟨aR5, cR5, aQ5, cQ5, rfl, hr5, hq5, hb5⟩
        have hz5 := HZ.out _ (Below.now HBI.out hb5)
        have hgs : w.heap.size + 1 < wI.heap.size := by have := HBI.out.size; have := HSZ.out; omega
        obtain ⟨⟨f0, f1, f2, f3⟩, ⟨u0, u1, u2, u3⟩, _⟩ := four_sets hz5 (.int .i64 k) (.slice aR5 R.length cR5) (.slice aQ5 Q.length cQ5) (.int .i64 (T : Nat))
        obtain ⟨⟨q0, q1, q2, q3⟩, _⟩ := four_cells hz5
        have F : Hid (RetW k (turnF R Q T) w (.returned (.tuple #[workVal k aR5 R.length cR5 aQ5 Q.length cQ5 T, .int .i64 ((2 : Nat) : Int)])) (set4 w15 (w.heap.size + 1) (.int .i64 k) (.slice aR5 R.length cR5) (.slice aQ5 Q.length cQ5) (.int .i64 (T : Nat)))) := Lib.hid (by
          rw [HTFH.out]
          exact ⟨aR5, cR5, aQ5, cQ5, rfl, offRules (set4_owns hr5 hgs _ _ _ _), offRules (set4_owns hq5 hgs _ _ _ _), set4_below (Below.now HB0.out (Below.now HBI.out hb5)) (by omega) _ _ _ _⟩)
        unfold workVal at F ⊢
        unfold set4 at u0 u1 u2 u3
        clear hz5 hr5 hq5
        go_wp2_with fail
        refine bodyPost_ret (v := .tuple #[.agg #[.int .i64 k, .slice aR5 R.length cR5, .slice aQ5 Q.length cQ5, .int .i64 (T : Nat)], .int .i64 2]) ?_ rfl F.out
        simp [results, Tryz.results70, go_sem, u0, u1, u2, u3]
      have HTFH := Lib.hid (HTE4.out.trans (if_neg h400))
      have h400i : ¬ (400 : Int) < (Q3.length : Int) := by omega
      clear h400
      have hzr := HZ.out _ HBI.out
      have hgs : w.heap.size + 1 < w2.heap.size := by have := HB2.out.size; have := HSZ.out; omega
      obtain ⟨⟨f0, f1, f2, f3⟩, ⟨u0, u1, u2, u3⟩, _⟩ := four_sets hzr (.int .i64 k) (.slice aN N.length cN) (.slice aH Q3.length cH) (.int .i64 ((T1 : Nat) : Int))
      obtain ⟨⟨q0, q1, q2, q3⟩, _⟩ := four_cells hzr
      have F : Hid (RetW k (turnF R Q T) w (.returned (.tuple #[workVal k aN N.length cN aH Q3.length cH (T1), .int .i64 ((0 : Nat) : Int)])) (set4 wI (w.heap.size + 1) (.int .i64 k) (.slice aN N.length cN) (.slice aH Q3.length cH) (.int .i64 ((T1 : Nat) : Int)))) := Lib.hid (by
        rw [HTFH.out]
        exact ⟨aN, cN, aH, cH, rfl, offRules (set4_owns HOI.out.rules hgs _ _ _ _), offRules (set4_owns HOI.out.queue hgs _ _ _ _), set4_below (Below.now HB0.out HBI.out) (by omega) _ _ _ _⟩)
      unfold workVal at F
      unfold set4 at F u0 u1 u2 u3
      clear hzr
      go_wp2_with fail
      refine bodyPost_ret (v := .tuple #[.agg #[.int .i64 k, .slice aN N.length cN, .slice aH Q3.length cH, .int .i64 ((T1 : Nat) : Int)], .int .i64 0]) ?_ rfl F.out
      simp [results, Tryz.results70, go_sem, u0, u1, u2, u3]
  · have HTFH := Lib.hid (HTE.out.trans (if_pos (by have h := beq_iff_eq.1 heq; exact ba_lists (by rw [← Lib.toList_data, ← Lib.toList_data]; exact h))))
    obtain ⟨⟨y0, y1, y2, y3⟩, ff⟩ := four_cells HOA.out.blk
    have hzr := HZ.out _ HBA.out
    have hgs : w.heap.size + 1 < w2.heap.size := by have := HB2.out.size; have := HSZ.out; omega
    obtain ⟨⟨f0, f1, f2, f3⟩, ⟨u0, u1, u2, u3⟩, _⟩ := four_sets hzr (.int .i64 k) (.slice aO R.length cO) (.slice aV Qt.length cV) (.int .i64 ((T1 : Nat) : Int))
    obtain ⟨⟨q0, q1, q2, q3⟩, _⟩ := four_cells hzr
    have F : Hid (RetW k (turnF R Q T) w (.returned (.tuple #[workVal k aO R.length cO aV Qt.length cV (T1), .int .i64 ((0 : Nat) : Int)])) (set4 wA (w.heap.size + 1) (.int .i64 k) (.slice aO R.length cO) (.slice aV Qt.length cV) (.int .i64 ((T1 : Nat) : Int)))) := Lib.hid (by
      rw [HTFH.out]
      exact ⟨aO, cO, aV, cV, rfl, offRules (set4_owns HOA.out.rules hgs _ _ _ _), offRules (set4_owns HOA.out.queue hgs _ _ _ _), set4_below (Below.now HB0.out HBA.out) (by omega) _ _ _ _⟩)
    unfold workVal at F
    unfold set4 at F u0 u1 u2 u3
    clear hzr
    go_wp2_with fail
    refine bodyPost_ret (v := .tuple #[.agg #[.int .i64 k, .slice aO R.length cO, .slice aV Qt.length cV, .int .i64 ((T1 : Nat) : Int)], .int .i64 0]) ?_ rfl F.out
    simp [results, Tryz.results70, go_sem, u0, u1, u2, u3]
end Go.Proofs.YtgoeadgpbidgiaaGreat
