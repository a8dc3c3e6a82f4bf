/-
  TurnWork of the program.
-/
import Derived.Test.YtgoeadgpbidgiaaGreatDoorCpl20
import Derived.Test.YtgoeadgpbidgiaaGreatDoorCpl22
import Derived.Test.YtgoeadgpbidgiaaGreatDoorCpl23
import Derived.Test.YtgoeadgpbidgiaaGreatDoorCpl24
import Derived.Test.YtgoeadgpbidgiaaGreatDoorCpl10
namespace Go.Proofs.YtgoeadgpbidgiaaGreatDoor
open Go.RowKit
set_option linter.unusedVariables false
theorem exec_append {P : Program} {o : Oper} {a : Act} {w w' : World} {v u v' : Value} {s x : Operand} {tsl : TypeId} (ho : o.op = .call { callee := .builtin .append, args := #[s, x], argTypes := #[tsl, tsl] }) (hs : a.eval s = v) (hx : a.eval x = u) (hr : (Builtin.append_ #[tsl, tsl] o.type #[v, u]).run P w = .ok v' w') : (execOp a.eval o).run P w = .ok (.value v') w' := by
  simp [execOp, ho, resolve, invoke, builtin, hs, hx, hr, Result.andThen]
theorem gstep {wA W W' : World} {o p : Option Nat} (h : wA.grownBy W o) (h' : W.grownBy W' p) (hp : ∀ k, p = some k → o = some k ∨ wA.heap.size ≤ k) : wA.grownBy W' o :=
  ⟨h'.os.trans h.os, h'.tape.trans h.tape, h'.output.trans h.output, Nat.le_trans h.size h'.size, fun k hk hne => (h'.block k (Nat.lt_of_lt_of_le hk h.size) (fun e => by
    rcases hp k e.symm with e2 | e2
    · exact hne e2.symm
    · omega)).trans (h.block k hk hne)⟩
theorem grown_below {w w' : World} (hb : Below w.heap.size w w') (o : Option Nat) : w.grownBy w' o := ⟨hb.os, hb.tape, hb.output, hb.size, fun k hk _ => hb.block k hk⟩
theorem gbel {wA W W' : World} {o : Option Nat} (h : wA.grownBy W o) (hb : Below W.heap.size W W') : wA.grownBy W' o := gstep h (grown_below hb none) (fun k e => by cases e)
theorem OutAt.kept {W W2 : World} {base g : Nat} {k : Int} {xR : Value} {R : List RulD} {xQ : Value} {Q : List RulD} {T : Nat} {o : Option Nat} (h : OutAt W base g k xR R xQ Q T) (hg : W.grownBy W2 o) (h1 : ∀ b, o = some b → b ≠ g ∧ xR.ownBlock ≠ some b ∧ xQ.ownBlock ≠ some b) : OutAt W2 base g k xR R xQ Q T := by
  have far : ∀ {x : Value}, (∀ b, o = some b → x.ownBlock ≠ some b) → x.ownBlock = none ∨ x.ownBlock ≠ o := fun {x} hx => by
    cases e : x.ownBlock with
    | none => exact .inl rfl
    | some b => exact .inr fun e2 => hx b e2.symm e
  exact ⟨(hg.block g (Array.getElem?_eq_some_iff.1 h.blk).1 (fun e => (h1 g e.symm).1 rfl)).trans h.blk, h.rules.kept hg (far fun b hb => (h1 b hb).2.1), h.queue.kept hg (far fun b hb => (h1 b hb).2.2), h.far⟩
/-- what a turn of the program hands back -/
def RetWI (k : Int) (res : Nat × List RulD × List RulD × Nat) (w : World) (e : Ending) (w' : World) : Prop :=
  ∃ aR cR aQ cQ, e = .returned (.tuple #[workVal k aR res.2.1.length cR aQ res.2.2.1.length cQ res.2.2.2, .int .i64 (res.1 : Nat)]) ∧ RulesIn w' aR res.2.1 ∧ RulesIn w' aQ res.2.2.1 ∧ res.2.2.1.length ≤ cQ ∧ Below w.heap.size w w'
theorem put4_ownsT {W : World} {base : Nat} {T T' : TypeId} {size : Nat} {v : Value} {n : Nat} {xs : List Value} (h : ownsOff W base T size v n xs) {g : Nat} {cs : Array Value} {fr : Nat × Nat} (hg : W.heap[g]? = some (.cells cs T' fr)) (hne : T ≠ T') (a b c d : Value) : ownsOff (put4 W g a b c d) base T size v n xs := by
  have h0 := h.ne_block hg hne
  refine ⟨h.1, ?_⟩
  rcases h.2 with h' | ⟨g1, o, cap, cur, hv, hb', hg1, r⟩
  · exact .inl h'
  · refine .inr ⟨g1, o, cap, cur, hv, hb', ?_, r⟩
    have hn : g ≠ g1 := fun e => by subst e; subst hv; exact h0 rfl
    unfold put4
    rw [heap_set_ne hn, heap_set_ne hn, heap_set_ne hn, heap_set_ne hn]
    exact hg1
theorem rulesTail {W : World} {b o cQ : Nat} {q : RulD} {Qt : List RulD} (h : RulesIn W (some ⟨b, o, none⟩) (q :: Qt)) (hc : (q :: Qt).length ≤ cQ) : RulesIn W (if cQ = 1 then some ⟨b, o, none⟩ else some ⟨b, o + 2, none⟩) Qt := by
  by_cases h1 : cQ = 1
  · have h0 : Qt = [] := List.eq_nil_of_length_eq_zero (by simp only [List.length_cons] at hc; omega)
    subst h0
    exact .inl rfl
  · rw [if_neg h1]
    rcases h with h | ⟨b', off, ha, hcs⟩
    · simp [ruleCells] at h
    · cases ha
      refine .inr ⟨b, o + 2, rfl, fun i hi => ?_⟩
      have h2 := hcs (i + 2) (by simp only [ruleCells, List.length_cons]; omega)
      rw [show o + 2 + i = o + (i + 2) by omega, h2]
      rfl
theorem set_grown2 (w : World) (g : Nat) (u v : Value) : w.grownBy ((w.setCell ⟨g, 0, none⟩ u).setCell ⟨g, 1, none⟩ v) (some g) :=
  ⟨rfl, rfl, rfl, by simp, fun k hk hne => by
    have : g ≠ k := fun e => hne (by rw [e])
    rw [heap_set_ne this, heap_set_ne this]⟩
theorem implNormal_n (k : Int) (R : List RulD) (a : Option Addr) (cap : Nat) (u : ByteArray) (w : World) (hl : RulesIn w a R) (hs : sysW k R) (h13 : R.length ≤ 13) (hu : wordOkB k u = true) :
    Calls Tryz.prog 45 #[.agg #[.int .i64 k, .slice a R.length cap], .string u] w fun e w' => e = .returned (.string (nfC R u)) ∧ Below w.heap.size w w' :=
  (implNormal_w k R a cap u w hl hs h13 hu).mono fun e w' ⟨x, hx, he, hb⟩ => ⟨by rw [nfC_eq hx]; exact he, hb⟩
def qA (Qt R : List RulD) (x : ByteArray) (i : Nat) : List RulD := Qt ++ goneL x (R.take i)
theorem qA_full (Qt R : List RulD) (x : ByteArray) : qA Qt R x R.length = Qt ++ goneF R x := by unfold qA; rw [List.take_length]; rfl
theorem qA_yes {Qt R : List RulD} {x : ByteArray} {i : Nat} (h : i < R.length) (hb : hasB (nthR R i).1 x = true) : qA Qt R x (i + 1) = qA Qt R x i ++ [nthR R i] ∧ keptL x (R.take (i + 1)) = keptL x (R.take i) := by
  unfold qA
  rw [(goneL_take h hb).1, List.append_assoc]
  exact ⟨rfl, (goneL_take h hb).2⟩
theorem qA_no {Qt R : List RulD} {x : ByteArray} {i : Nat} (h : i < R.length) (hb : hasB (nthR R i).1 x = false) : qA Qt R x (i + 1) = qA Qt R x i ∧ keptL x (R.take (i + 1)) = keptL x (R.take i) ++ [nthR R i] := by
  unfold qA
  rw [(keptL_take h hb).1]
  exact ⟨rfl, (keptL_take h hb).2⟩
theorem qA_len {Qt R : List RulD} {x : ByteArray} {i : Nat} (h : Qt.length ≤ 400) (hR : R.length ≤ 12) : (qA Qt R x i).length ≤ 412 ∧ (keptL x (R.take i)).length ≤ 12 := by
  unfold qA
  rw [List.length_append]
  have h1 := goneL_len x (R.take i)
  have h2 : (R.take i).length ≤ R.length := List.length_take_le' _ _
  omega
/-- the loop over the rules: the equations grow, the rules that are kept grow -/
structure LoopA (wD wr : World) (base : Nat) (o : Option Nat) (v6 v8 : Value) (G K : List RulD) : Prop where
  gr : wD.grownBy wr o
  qu : ownsOff wr base 39 2 v6 G.length (ruleCells G)
  ke : ownsOff wr wD.heap.size 39 2 v8 K.length (ruleCells K)
  old : ∀ b, v6.ownBlock = some b → o = some b ∨ wD.heap.size ≤ b
  ap : ∀ b, v6.ownBlock = some b → v8.ownBlock ≠ some b
theorem far_of {x : Value} {o : Option Nat} (hx : ∀ b, o = some b → x.ownBlock ≠ some b) : x.ownBlock = none ∨ x.ownBlock ≠ o := by
  cases e : x.ownBlock with
  | none => exact .inl rfl
  | some b => exact .inr fun e2 => hx b e2.symm e
theorem LoopA.later {wD wr wr' : World} {base : Nat} {o : Option Nat} {v6 v8 : Value} {G K : List RulD} (h : LoopA wD wr base o v6 v8 G K) (hb : Below wr.heap.size wr wr') : LoopA wD wr' base o v6 v8 G K :=
  ⟨gbel h.gr hb, h.qu.later hb, h.ke.later hb, h.old, h.ap⟩
theorem LoopA.putG {wD wr wr' : World} {base : Nat} {o : Option Nat} {v6 v8 v' : Value} {G K M : List RulD} (h : LoopA wD wr base o v6 v8 G K) (ho : ownsOff wr' base 39 2 v' (G.length + M.length) (ruleCells G ++ ruleCells M)) (hg : wr.grownBy wr' v6.ownBlock) (hw : ∀ b, v'.ownBlock = some b → v6.ownBlock = some b ∨ wr.heap.size ≤ b) : LoopA wD wr' base o v' v8 (G ++ M) K := by
  refine ⟨gstep h.gr hg h.old, by rw [List.length_append, ruleCells_app]; exact ho, h.ke.kept hg (far_of fun b hb => h.ap b hb), fun b hb => ?_, fun b hb hb8 => ?_⟩
  · rcases hw b hb with h1 | h1
    · exact h.old b h1
    · exact .inr (Nat.le_trans h.gr.size h1)
  · rcases hw b hb with h1 | h1
    · exact h.ap b h1 hb8
    · have := (h.ke.lt b hb8).2; omega
theorem LoopA.putK {wD wr wr' : World} {base : Nat} {o : Option Nat} {v6 v8 v' : Value} {G K M : List RulD} (h : LoopA wD wr base o v6 v8 G K) (ho : ownsOff wr' wD.heap.size 39 2 v' (K.length + M.length) (ruleCells K ++ ruleCells M)) (hg : wr.grownBy wr' v8.ownBlock) (hw : ∀ b, v'.ownBlock = some b → v8.ownBlock = some b ∨ wr.heap.size ≤ b) : LoopA wD wr' base o v6 v' G (K ++ M) := by
  refine ⟨gstep h.gr hg (fun b hb => .inr (h.ke.lt b hb).1), h.qu.kept hg (far_of fun b hb e => h.ap b e hb), by rw [List.length_append, ruleCells_app]; exact ho, h.old, fun b hb hb8 => ?_⟩
  rcases hw b hb8 with h1 | h1
  · exact h.ap b hb h1
  · have := (h.qu.lt b hb).2; omega
/-- the loop over the pairs: the equations grow -/
structure LoopC (wC wr : World) (base : Nat) (o : Option Nat) (v : Value) (G : List RulD) : Prop where
  gr : wC.grownBy wr o
  qu : ownsOff wr base 39 2 v G.length (ruleCells G)
  old : ∀ b, v.ownBlock = some b → o = some b ∨ wC.heap.size ≤ b
theorem LoopC.later {wC wr wr' : World} {base : Nat} {o : Option Nat} {v : Value} {G : List RulD} (h : LoopC wC wr base o v G) (hb : Below wr.heap.size wr wr') : LoopC wC wr' base o v G :=
  ⟨gbel h.gr hb, h.qu.later hb, h.old⟩
theorem LoopC.put {wC wr wr' : World} {base : Nat} {o : Option Nat} {v v' : Value} {G M : List RulD} (h : LoopC wC wr base o v G) (ho : ownsOff wr' base 39 2 v' (G.length + M.length) (ruleCells G ++ ruleCells M)) (hg : wr.grownBy wr' v.ownBlock) (hw : ∀ b, v'.ownBlock = some b → v.ownBlock = some b ∨ wr.heap.size ≤ b) : LoopC wC wr' base o v' (G ++ M) :=
  ⟨gstep h.gr hg h.old, by rw [List.length_append, ruleCells_app]; exact ho, fun b hb => (hw b hb).elim (h.old b) (fun h1 => .inr (Nat.le_trans h.gr.size h1))⟩
def qC (G N : List RulD) (l : List PairD) : List RulD := G ++ newL N l
theorem qC_no {G N : List RulD} {S : List PairD} {q : Nat} (h : q < S.length) (hb : lastP N S[q] = false) : qC G N (S.take (q + 1)) = qC G N (S.take q) := by
  unfold qC
  rw [newL_take h, newL_no hb, List.append_nil]
theorem qC_yes {G N : List RulD} {S : List PairD} {q : Nat} (h : q < S.length) (hb : lastP N S[q] = true) : qC G N (S.take (q + 1)) = qC G N (S.take q) ++ [(leftP N S[q], rightP N S[q])] := by
  unfold qC
  rw [newL_take h, newL_yes hb, List.append_assoc]
  rfl
theorem qC_len (G N : List RulD) (l : List PairD) : (qC G N l).length ≤ G.length + l.length := by
  unfold qC
  rw [List.length_append]
  have := newL_len N l
  omega
theorem qC_full (G N : List RulD) : qC G N ((pairsF N).take (pairsF N).length) = G ++ newQ N := by
  unfold qC
  rw [List.take_length]
  rfl
theorem five_cells {W : World} {g : Nat} {x0 x1 x2 x3 x4 : Value} {T : TypeId} (h : W.heap[g]? = some (.cells #[x0, x1, x2, x3, x4] T (0, 0))) : W.cell? ⟨g, 0, none⟩ = some x0 ∧ W.cell? ⟨g, 1, none⟩ = some x1 ∧ W.cell? ⟨g, 2, none⟩ = some x2 ∧ W.cell? ⟨g, 3, none⟩ = some x3 ∧ W.cell? ⟨g, 4, none⟩ = some x4 :=
  ⟨by simp [World.cell?, h], by simp [World.cell?, h], by simp [World.cell?, h], by simp [World.cell?, h], by simp [World.cell?, h]⟩
theorem Rec2.putT {TT T : TypeId} {size : Nat} {w wr w4 : World} {g : Nat} {x v v' : Value} {n m : Nat} {xs ys : List Value} (h : Rec2 TT T size w wr g x v n xs) (hg : wr.grownBy w4 v.ownBlock) (hn : w4.ownsRow (g + 1) T size v' m ys) :
    w4.heap[g]? = some (.cells #[x, v] TT (0, 0)) ∧ Rec2 TT T size w (w4.setCell ⟨g, 1, none⟩ v') g x v' m ys := by
  have h4 := (hg.block g h.lt (fun e => h.far e.symm)).trans h.blk
  have b4 : Below w.heap.size w w4 := h.below.grown hg h.below.size (fun k hk => by have := (h.own.lt k hk).1; have := h.le; omega)
  refine ⟨h4, ?_, ownsRow_setCell_below hn (by show g < g + 1; omega) _, h.le, b4.setCell h.le _⟩
  unfold World.setCell
  simp [Array.getElem?_modify, h4]
set_option maxRecDepth 100000 in
set_option maxHeartbeats 16000000 in
theorem implTurnWork_any (k : Int) (R : List RulD) (q : RulD) (Qt : List RulD) (T : Nat) (aR aQ : Option Addr) (cR cQ : Nat) (w : World) (hR : RulesIn w aR R) (hQ : RulesIn w aQ (q :: Qt)) (hcap : (q :: Qt).length ≤ cQ) (h : WorkP k R (q :: Qt) T) (hmx : MaxL w) :
    Calls Tryz.prog 83 #[workVal k aR R.length cR aQ (q :: Qt).length cQ T] w (RetWI k (turnF R (q :: Qt) T) w) := by
  obtain ⟨hqw1, hqw2⟩ := h.word q List.mem_cons_self
  obtain ⟨Q, hQe⟩ : ∃ Q, Q = q :: Qt := ⟨_, rfl⟩
  have hQn : nthR Q 0 = q := by rw [hQe]; rfl
  have HQL : Hid (Q.length = Qt.length + 1) := Lib.hid (by rw [hQe]; rfl)
  have hQp : 0 < Q.length := by have := HQL.out; omega
  have HQE := Lib.hid hQe
  rw [← hQe] at hQ h hcap ⊢
  clear hQe
  obtain ⟨bQ, oQ, rfl, hbQ, hcQ⟩ := hQ.cell (i := 0) (by omega)
  have hf := h.few
  have ht := h.turns
  have h12R : R.length ≤ 12 := h.sys.1.1.2
  have HWK := Lib.hid h
  have HCP := Lib.hid hcap
  have HL12 : Hid (R.length ≤ 1000000) := Lib.hid (by omega)
  have HL400 : Hid (Q.length ≤ 1000000) := Lib.hid (by omega)
  have HMX := Lib.hid hmx
  have HQW : Hid (wordOkB k q.1 = true ∧ wordOkB k q.2 = true) := Lib.hid ⟨hqw1, hqw2⟩
  have HWO := Lib.hid (fun W hR hQ => implWorkOk_ok k R Q T aR (some ⟨bQ, oQ, none⟩) cR cQ W hR hQ h)
  have HCL := Lib.hid (fun l a c W h1 h2 => cloneR_any l a c W h1 h2)
  have HN1 := Lib.hid (fun W h1 => implNormal_n k R aR cR q.1 W h1 h.sys.weak (by omega) hqw1)
  have HN2 := Lib.hid (fun W h1 => implNormal_n k R aR cR q.2 W h1 h.sys.weak (by omega) hqw2)
  have HB0 := Lib.hid (Below.now (alloc_belowS w (.cells #[.int .i64 k, .slice aR R.length cR, .slice (some ⟨bQ, oQ, none⟩) Q.length cQ, .int .i64 (T : Nat)] 69)) (alloc_belowS _ (.cells #[.int .i64 0, .slice none 0 0, .slice none 0 0, .int .i64 0] 69)))
  have e1 : (w.alloc (.cells #[.int .i64 k, .slice aR R.length cR, .slice (some ⟨bQ, oQ, none⟩) Q.length cQ, .int .i64 (T : Nat)] 69)).heap.size = w.heap.size + 1 := by simp
  have HX : Hid (∀ W, Below ((w.alloc (.cells #[.int .i64 k, .slice aR R.length cR, .slice (some ⟨bQ, oQ, none⟩) Q.length cQ, .int .i64 (T : Nat)] 69)).alloc (.cells #[.int .i64 0, .slice none 0 0, .slice none 0 0, .int .i64 0] 69)).heap.size ((w.alloc (.cells #[.int .i64 k, .slice aR R.length cR, .slice (some ⟨bQ, oQ, none⟩) Q.length cQ, .int .i64 (T : Nat)] 69)).alloc (.cells #[.int .i64 0, .slice none 0 0, .slice none 0 0, .int .i64 0] 69)) W → W.cell? ⟨w.heap.size, 0, none⟩ = some (.int .i64 k) ∧ W.cell? ⟨w.heap.size, 1, none⟩ = some (.slice aR R.length cR) ∧ W.cell? ⟨w.heap.size, 2, none⟩ = some (.slice (some ⟨bQ, oQ, none⟩) Q.length cQ) ∧ W.cell? ⟨w.heap.size, 3, none⟩ = some (.int .i64 (T : Nat))) := Lib.hid (fun W hW => (box_four (Below.now (alloc_belowS _ (.cells #[.int .i64 0, .slice none 0 0, .slice none 0 0, .int .i64 0] 69)) hW)).1)
  have HZ : Hid (∀ W, Below ((w.alloc (.cells #[.int .i64 k, .slice aR R.length cR, .slice (some ⟨bQ, oQ, none⟩) Q.length cQ, .int .i64 (T : Nat)] 69)).alloc (.cells #[.int .i64 0, .slice none 0 0, .slice none 0 0, .int .i64 0] 69)).heap.size ((w.alloc (.cells #[.int .i64 k, .slice aR R.length cR, .slice (some ⟨bQ, oQ, none⟩) Q.length cQ, .int .i64 (T : Nat)] 69)).alloc (.cells #[.int .i64 0, .slice none 0 0, .slice none 0 0, .int .i64 0] 69)) W → W.heap[w.heap.size + 1]? = some (.cells #[.int .i64 0, .slice none 0 0, .slice none 0 0, .int .i64 0] 69 (0, 0))) := Lib.hid (fun W hW => by
    have hz := alloc_at (w.alloc (.cells #[.int .i64 k, .slice aR R.length cR, .slice (some ⟨bQ, oQ, none⟩) Q.length cQ, .int .i64 (T : Nat)] 69)) (.cells #[.int .i64 0, .slice none 0 0, .slice none 0 0, .int .i64 0] 69)
    rw [e1] at hz
    exact (hW.block _ (by simp)).trans hz)
  have HSZ : Hid (w.heap.size + 2 ≤ ((w.alloc (.cells #[.int .i64 k, .slice aR R.length cR, .slice (some ⟨bQ, oQ, none⟩) Q.length cQ, .int .i64 (T : Nat)] 69)).alloc (.cells #[.int .i64 0, .slice none 0 0, .slice none 0 0, .int .i64 0] 69)).heap.size) := Lib.hid (by simp)
  have HRI : Hid (∀ W, Below ((w.alloc (.cells #[.int .i64 k, .slice aR R.length cR, .slice (some ⟨bQ, oQ, none⟩) Q.length cQ, .int .i64 (T : Nat)] 69)).alloc (.cells #[.int .i64 0, .slice none 0 0, .slice none 0 0, .int .i64 0] 69)).heap.size ((w.alloc (.cells #[.int .i64 k, .slice aR R.length cR, .slice (some ⟨bQ, oQ, none⟩) Q.length cQ, .int .i64 (T : Nat)] 69)).alloc (.cells #[.int .i64 0, .slice none 0 0, .slice none 0 0, .int .i64 0] 69)) W → RulesIn W aR R) := Lib.hid (fun W h => hR.later (Below.now HB0.out h))
  have HQI : Hid (∀ W, Below ((w.alloc (.cells #[.int .i64 k, .slice aR R.length cR, .slice (some ⟨bQ, oQ, none⟩) Q.length cQ, .int .i64 (T : Nat)] 69)).alloc (.cells #[.int .i64 0, .slice none 0 0, .slice none 0 0, .int .i64 0] 69)).heap.size ((w.alloc (.cells #[.int .i64 k, .slice aR R.length cR, .slice (some ⟨bQ, oQ, none⟩) Q.length cQ, .int .i64 (T : Nat)] 69)).alloc (.cells #[.int .i64 0, .slice none 0 0, .slice none 0 0, .int .i64 0] 69)) W → RulesIn W (some ⟨bQ, oQ, none⟩) Q) := Lib.hid (fun W h => hQ.later (Below.now HB0.out h))
  have hc0 := hcQ 0 (by omega)
  rw [hQn] at hc0
  have HQC : Hid (∀ W, Below ((w.alloc (.cells #[.int .i64 k, .slice aR R.length cR, .slice (some ⟨bQ, oQ, none⟩) Q.length cQ, .int .i64 (T : Nat)] 69)).alloc (.cells #[.int .i64 0, .slice none 0 0, .slice none 0 0, .int .i64 0] 69)).heap.size ((w.alloc (.cells #[.int .i64 k, .slice aR R.length cR, .slice (some ⟨bQ, oQ, none⟩) Q.length cQ, .int .i64 (T : Nat)] 69)).alloc (.cells #[.int .i64 0, .slice none 0 0, .slice none 0 0, .int .i64 0] 69)) W → W.cell? ⟨bQ, oQ, none⟩ = some (.string q.1) ∧ W.cell? ⟨bQ, oQ + 1, none⟩ = some (.string q.2)) := Lib.hid (fun W h => by
    have hb := Below.now HB0.out h
    have e := (hb.cell (p := ⟨bQ, oQ + 0 * 2, none⟩) hbQ).trans hc0.1
    have e2 := (hb.cell (p := ⟨bQ, oQ + 0 * 2 + 1, none⟩) hbQ).trans hc0.2
    simpa using ⟨e, e2⟩)
  have hq0 : ((Q.length : Int) == 0) = false := by rw [beq_eq_false_iff_ne]; omega
  have hq1 : ¬ Q.length = 0 := by omega
  have hq2 : (0 : Int) < (Q.length : Int) := by omega
  have HNQ : Hid (Q.length - 1 = Qt.length) := Lib.hid (by have := HQL.out; omega)
  have HQTL : Hid (Qt.length ≤ 400) := Lib.hid (by have := HQL.out; omega)
  have HCQ : Hid (1 ≤ Q.length ∧ Q.length ≤ cQ) := Lib.hid ⟨by omega, hcap⟩
  have hcq1 : Q.length ≤ cQ := hcap
  clear hR hQ e1 h hcQ hc0 hbQ hQn hcap hqw1 hqw2 hmx
  unfold workVal
  go_enter Tryz.func83, Tryz.ntmps83
  go_upto_region 1 with fail
  generalize ((w.alloc (.cells #[.int .i64 k, .slice aR R.length cR, .slice (some ⟨bQ, oQ, none⟩) Q.length cQ, .int .i64 (T : Nat)] 69)).alloc (.cells #[.int .i64 0, .slice none 0 0, .slice none 0 0, .int .i64 0] 69)) = w1 at *
  refine region_tail 15 (fun W => Below w1.heap.size w1 W) (fun W W2 => Below W.heap.size W W2) (fun u => by simp only [List.take_succ_cons, List.take_zero, fPut, Act.put, List.setIfInBounds_toArray, List.set_cons_succ, List.set_cons_zero, Nat.zero_add, Nat.reduceAdd]; rfl) (by kernel_rfl) (by kernel_rfl) (by kernel_rfl) (by kernel_rfl) (by kernel_rfl) (by kernel_rfl) (by kernel_rfl) (Below.drew (Below.refl _ _)) ?_
  conv => arg 7; simp only [List.take_succ_cons, List.take_zero]
  apply each_read (fun _ => Below.refl _ _) rfl
  · intro u wv hC hf
    obtain ⟨s0, s1, s2, s3⟩ := HX.out _ hC
    clear hf
    go_simp
    try rfl
  apply each_read (fun _ => Below.refl _ _) rfl
  · intro u wv hC hf
    obtain ⟨s0, s1, s2, s3⟩ := HX.out _ hC
    obtain ⟨d0_0, -⟩ := hf
    have e0 : u 0 = _ := d0_0 rfl
    clear d0_0
    go_simp
    try rfl
  conv => arg 8; simp only [List.cons_append, List.nil_append]
  apply each_read (fun _ => Below.refl _ _) rfl
  · intro u wv hC hf
    obtain ⟨s0, s1, s2, s3⟩ := HX.out _ hC
    obtain ⟨d1_0, -⟩ := hf
    have e1 : u 1 = _ := d1_0 rfl
    clear d1_0
    go_simp
    try rfl
  conv => arg 8; simp only [List.cons_append, List.nil_append]
  apply each_read (fun _ => Below.refl _ _) rfl
  · intro u wv hC hf
    obtain ⟨s0, s1, s2, s3⟩ := HX.out _ hC
    clear hf
    go_simp
    try rfl
  conv => arg 8; simp only [List.cons_append, List.nil_append]
  apply each_read (fun _ => Below.refl _ _) rfl
  · intro u wv hC hf
    obtain ⟨s0, s1, s2, s3⟩ := HX.out _ hC
    obtain ⟨d3_0, -⟩ := hf
    have e3 : u 3 = _ := d3_0 rfl
    clear d3_0
    go_simp
    try rfl
  conv => arg 8; simp only [List.cons_append, List.nil_append]
  apply each_read (fun _ => Below.refl _ _) rfl
  · intro u wv hC hf
    obtain ⟨s0, s1, s2, s3⟩ := HX.out _ hC
    obtain ⟨d4_0, -⟩ := hf
    have e4 : u 4 = _ := d4_0 rfl
    clear d4_0
    go_simp
    try rfl
  conv => arg 8; simp only [List.cons_append, List.nil_append]
  refine each_call (fun v wv => ∃ a c, v = .slice a R.length c ∧ ownsOff wv w1.heap.size 39 2 (.slice a R.length c) R.length (ruleCells R)) (fun v w w2 _ hR ⟨a, c, h1, h2⟩ => ⟨a, c, h1, h2.later hR⟩) rfl ?_ ?_
  · intro u wv hC hf
    obtain ⟨s0, s1, s2, s3⟩ := HX.out _ hC
    obtain ⟨d5_0, -⟩ := hf
    have e5 : u 5 = _ := d5_0 rfl
    clear d5_0
    apply Exists.intro; apply Exists.intro; apply And.intro
    · go_simp; exact ⟨rfl, rfl⟩
    · refine (HCL.out R _ _ _ (HRI.out _ hC) HL12.out).mono ?_
      rintro e w4 ⟨a, c, rfl, ho, hb⟩
      exact ⟨_, rfl, Below.now hC hb, hb, a, c, rfl, ho.mono hC.size⟩
  conv => arg 8; simp only [List.cons_append, List.nil_append]
  refine each_do (fun v wv => ∃ a c, v = .agg #[.int .i64 k, .slice a R.length c] ∧ ownsOff wv w1.heap.size 39 2 (.slice a R.length c) R.length (ruleCells R)) (fun v w w2 _ hR ⟨a, c, h1, h2⟩ => ⟨a, c, h1, h2.later hR⟩) rfl ?_ ?_
  · intro u wv hC hf
    obtain ⟨s0, s1, s2, s3⟩ := HX.out _ hC
    obtain ⟨d2_0, d6_1, -⟩ := hf
    have e2 : u 2 = _ := d2_0 rfl
    clear d2_0
    obtain ⟨a6, c6, e6, o6⟩ := d6_1 rfl
    refine ⟨.agg #[.int .i64 k, .slice a6 R.length c6], wv, ?_, hC, Below.refl _ _, a6, c6, rfl, o6⟩
    go_simp
    try rfl
  conv => arg 8; simp only [List.cons_append, List.nil_append]
  apply each_read (fun _ => Below.refl _ _) rfl
  · intro u wv hC hf
    obtain ⟨s0, s1, s2, s3⟩ := HX.out _ hC
    clear hf
    go_simp
    try rfl
  conv => arg 8; simp only [List.cons_append, List.nil_append]
  apply each_read (fun _ => Below.refl _ _) rfl
  · intro u wv hC hf
    obtain ⟨s0, s1, s2, s3⟩ := HX.out _ hC
    obtain ⟨d8_0, -⟩ := hf
    have e8 : u 8 = _ := d8_0 rfl
    clear d8_0
    go_simp
    try rfl
  conv => arg 8; simp only [List.cons_append, List.nil_append]
  refine each_call (fun v wv => ∃ a c, v = .slice a Q.length c ∧ ownsOff wv w1.heap.size 39 2 (.slice a Q.length c) Q.length (ruleCells Q)) (fun v w w2 _ hR ⟨a, c, h1, h2⟩ => ⟨a, c, h1, h2.later hR⟩) rfl ?_ ?_
  · intro u wv hC hf
    obtain ⟨s0, s1, s2, s3⟩ := HX.out _ hC
    obtain ⟨d9_0, d6_1, -⟩ := hf
    have e9 : u 9 = _ := d9_0 rfl
    clear d9_0
    obtain ⟨a6, c6, e6, o6⟩ := d6_1 rfl
    apply Exists.intro; apply Exists.intro; apply And.intro
    · go_simp; exact ⟨rfl, rfl⟩
    · refine (HCL.out Q _ _ _ (HQI.out _ hC) HL400.out).mono ?_
      rintro e w4 ⟨a, c, rfl, ho, hb⟩
      exact ⟨_, rfl, Below.now hC hb, hb, a, c, rfl, ho.mono hC.size⟩
  conv => arg 8; simp only [List.cons_append, List.nil_append]
  apply each_read (fun _ => Below.refl _ _) rfl
  · intro u wv hC hf
    obtain ⟨s0, s1, s2, s3⟩ := HX.out _ hC
    clear hf
    go_simp
    try rfl
  conv => arg 8; simp only [List.cons_append, List.nil_append]
  apply each_read (fun _ => Below.refl _ _) rfl
  · intro u wv hC hf
    obtain ⟨s0, s1, s2, s3⟩ := HX.out _ hC
    obtain ⟨d11_0, -⟩ := hf
    have e11 : u 11 = _ := d11_0 rfl
    clear d11_0
    go_simp
    try rfl
  conv => arg 8; simp only [List.cons_append, List.nil_append]
  refine each_do (fun v wv => ∃ a c b d, v = .agg #[.int .i64 k, .slice a R.length c, .slice b Q.length d, .int .i64 (T : Nat)] ∧ ownsOff wv w1.heap.size 39 2 (.slice a R.length c) R.length (ruleCells R) ∧ ownsOff wv w1.heap.size 39 2 (.slice b Q.length d) Q.length (ruleCells Q)) (fun v w w2 _ hR ⟨a, c, b, d, h1, h2, h3⟩ => ⟨a, c, b, d, h1, h2.later hR, h3.later hR⟩) rfl ?_ ?_
  · intro u wv hC hf
    obtain ⟨s0, s1, s2, s3⟩ := HX.out _ hC
    obtain ⟨d7_0, d10_1, d12_2, -⟩ := hf
    obtain ⟨a7, c7, e7, o7⟩ := d7_0 rfl
    obtain ⟨a10, c10, e10, o10⟩ := d10_1 rfl
    have e12 : u 12 = _ := d12_2 rfl
    clear d12_2
    refine ⟨.agg #[.int .i64 k, .slice a7 R.length c7, .slice a10 Q.length c10, .int .i64 (T : Nat)], wv, ?_, hC, Below.refl _ _, a7, c7, a10, c10, rfl, o7, o10⟩
    go_simp
    try rfl
  conv => arg 8; simp only [List.cons_append, List.nil_append]
  refine each_do (fun v wv => ∃ g, v = .pointer (some ⟨g, 0, none⟩) ∧ wv.heap[g]? = some (.cells #[.int .i64 0, .slice none 0 0, .slice none 0 0, .int .i64 0] 69 (0, 0)) ∧ w1.heap.size ≤ g) (fun v w w2 _ hR ⟨g, h1, h2, h3⟩ => ⟨g, h1, block_later h2 _ hR, h3⟩) rfl ?_ ?_
  · intro u wv hC hf
    obtain ⟨s0, s1, s2, s3⟩ := HX.out _ hC
    clear hf
    refine ⟨.pointer (some ⟨wv.heap.size, 0, none⟩), wv.alloc (.cells #[.int .i64 0, .slice none 0 0, .slice none 0 0, .int .i64 0] 69), ?_, Below.alloc hC hC.size _, alloc_belowS _ _, wv.heap.size, rfl, alloc_at wv _, hC.size⟩
    go_simp
    try rfl
  intro u w5 hb5 hall
  obtain ⟨a0, a1, a2, a3, a4, a5, a6, a7, a8, a9, a10, a11, a12, a13, a14, -⟩ := hall
  have e0 : u 0 = _ := a0
  clear a0
  have e1 : u 1 = _ := a1
  clear a1
  have e2 : u 2 = _ := a2
  clear a2
  have e3 : u 3 = _ := a3
  clear a3
  have e4 : u 4 = _ := a4
  clear a4
  have e5 : u 5 = _ := a5
  clear a5
  obtain ⟨a6, c6, e6, o6⟩ := a6
  replace e6 : u 6 = _ := e6
  obtain ⟨a7, c7, e7, o7⟩ := a7
  replace e7 : u 7 = _ := e7
  have e8 : u 8 = _ := a8
  clear a8
  have e9 : u 9 = _ := a9
  clear a9
  obtain ⟨a10, c10, e10, o10⟩ := a10
  replace e10 : u 10 = _ := e10
  have e11 : u 11 = _ := a11
  clear a11
  have e12 : u 12 = _ := a12
  clear a12
  obtain ⟨a13, c13, b13, d13, e13, o13, p13⟩ := a13
  replace e13 : u 13 = _ := e13
  obtain ⟨g14, e14, b14, l14⟩ := a14
  replace e14 : u 14 = _ := e14
  change wpList _ _ _ (List.drop 15 _) _ _
  simp only [List.drop_succ_cons, List.drop_zero]
  simp only [e0, e1, e2, e3, e4, e5, e6, e7, e8, e9, e10, e11, e12, e13, e14]
  clear e0 e1 e2 e3 e4 e5 e6 e7 e8 e9 e10 e11 e12 e13 e14
  obtain ⟨⟨f0, f1, f2, f3⟩, _, ⟨z0, z1, z2, z3⟩, hbk⟩ := put4_sets b14 (.int .i64 k) (.slice a13 R.length c13) (.slice b13 Q.length d13) (.int .i64 (T : Nat))
  have HOS : Hid (OutAt (put4 w5 g14 (.int .i64 k) (.slice a13 R.length c13) (.slice b13 Q.length d13) (.int .i64 (T : Nat))) w1.heap.size g14 k (.slice a13 R.length c13) R (.slice b13 Q.length d13) Q T) := Lib.hid ⟨hbk, put4_ownsT o13 b14 (by decide) _ _ _ _, put4_ownsT p13 b14 (by decide) _ _ _ _, p13.ne_block b14 (by decide), o13.ne_block b14 (by decide)⟩
  have HBS : Hid (Below w1.heap.size w1 (put4 w5 g14 (.int .i64 k) (.slice a13 R.length c13) (.slice b13 Q.length d13) (.int .i64 (T : Nat)))) := Lib.hid (put4_below hb5 l14 _ _ _ _)
  unfold put4 at HOS HBS
  have HL14 := Lib.hid l14
  clear hbk o13 p13 hb5 b14 o6 o7 o10 l14
  go_upto_region 2 with fail
  generalize (((w5.setCell ⟨g14, 0, none⟩ (.int .i64 k)).setCell ⟨g14, 1, none⟩ (.slice a13 R.length c13)).setCell ⟨g14, 2, none⟩ (.slice b13 Q.length d13)).setCell ⟨g14, 3, none⟩ (.int .i64 (T : Nat)) = wS at *
  clear f0 f1 f2 f3 z0 z1 z2 z3
  obtain ⟨s0, s1, s2, s3⟩ := HX.out _ HBS.out
  go_wp2_with fail
  refine (HWO.out wS (HRI.out _ HBS.out) (HQI.out _ HBS.out)).mono ?_
  rintro e w2 ⟨rfl, hb2⟩
  have HB2 := Lib.hid (Below.now HBS.out hb2)
  have HO2 := Lib.hid (HOS.out.later hb2)
  obtain ⟨s0, s1, s2, s3⟩ := HX.out _ HB2.out
  clear hb2 HBS HOS
  by_cases hT : T = 200
  · have hT2 : (((T : Nat) : Int) == 200) = true := by rw [hT]; rfl
    have HTT := Lib.hid hT
    clear hT
    have HTF : turnF R Q T = (3, R, Q, T) := by rw [HQE.out]; exact (if_pos HTT.out)
    have HTFH := Lib.hid HTF
    clear HTF
    have hzr := HZ.out _ HB2.out
    have hgs : w.heap.size + 1 < w1.heap.size := by have := HSZ.out; omega
    obtain ⟨⟨f0, f1, f2, f3⟩, ⟨u0, u1, u2, u3⟩, _⟩ := four_sets hzr (.int .i64 k) (.slice a13 R.length c13) (.slice b13 Q.length d13) (.int .i64 ((T : Nat) : Int))
    obtain ⟨⟨q0, q1, q2, q3⟩, _⟩ := four_cells hzr
    obtain ⟨⟨y0, y1, y2, y3⟩, ff⟩ := four_cells HO2.out.blk
    have F : Hid (RetWI k (turnF R Q T) w (.returned (.tuple #[workVal k a13 R.length c13 b13 Q.length d13 (T), .int .i64 ((3 : Nat) : Int)])) (set4 w2 (w.heap.size + 1) (.int .i64 k) (.slice a13 R.length c13) (.slice b13 Q.length d13) (.int .i64 ((T : Nat) : Int)))) := Lib.hid (by
      rw [HTFH.out]
      exact ⟨a13, c13, b13, d13, rfl, offRules (set4_owns HO2.out.rules hgs _ _ _ _), offRules (set4_owns HO2.out.queue hgs _ _ _ _), HO2.out.queue.cap, set4_below (Below.now HB0.out HB2.out) (by omega) _ _ _ _⟩)
    unfold workVal at F
    unfold set4 at F u0 u1 u2 u3
    clear hzr
    go_wp2_with fail
    refine bodyPost_ret (v := .tuple #[.agg #[.int .i64 k, .slice a13 R.length c13, .slice b13 Q.length d13, .int .i64 ((T : Nat) : Int)], .int .i64 3]) ?_ rfl F.out
    simp [results, Tryz.results83, go_sem, u0, u1, u2, u3]
  have hT2 : (((T : Nat) : Int) == 200) = false := by rw [beq_eq_false_iff_ne]; omega
  go_upto_region 9 with fail
  have HB8 := Lib.hid (Below.now HB2.out (alloc_belowS w2 (.cells #[.int .i64 k, .slice aR R.length cR] 33)))
  have HA5 := Lib.hid (alloc_at w2 (.cells #[.int .i64 k, .slice aR R.length cR] 33))
  have HO8 := Lib.hid (HO2.out.later (alloc_belowS w2 (.cells #[.int .i64 k, .slice aR R.length cR] 33)))
  clear s0 s1 s2 s3 HB2 HO2
  generalize w2.alloc (.cells #[.int .i64 k, .slice aR R.length cR] 33) = w8 at *
  generalize hg5 : w2.heap.size = g5 at *
  clear hg5
  have HQ8 : Hid (RulesIn w8 (if cQ = 1 then some ⟨bQ, oQ, none⟩ else some ⟨bQ, oQ + 2, none⟩) Qt) := Lib.hid (by
    have h1 := HQI.out _ HB8.out
    have h2 := HCQ.out.2
    rw [HQE.out] at h1 h2
    exact rulesTail h1 h2)
  go_cut [6] (fun v6 wx => ∃ aV cV, v6 = .slice aV Qt.length cV ∧ ownsOff wx w8.heap.size 39 2 (.slice aV Qt.length cV) Qt.length (ruleCells Qt) ∧ Below w8.heap.size w8 wx)
  case first =>
    obtain ⟨s0, s1, s2, s3⟩ := HX.out _ HB8.out
    by_cases h1 : cQ = 1
    · have HQ9 := HQ8.out
      rw [if_pos h1] at HQ9
      have HQ9 := Lib.hid HQ9
      have h0 : Qt = [] := List.eq_nil_of_length_eq_zero (by have := HCQ.out.2; have := HNQ.out; omega)
      subst h1
      subst h0
      clear HQ8
      go_wp2_with fail
      refine (HCL.out [] _ _ w8 HQ9.out (by simp)).mono ?_
      rintro e w9 ⟨aV, cV, rfl, hoV, hb9⟩
      have F := Lib.hid (And.intro hoV hb9)
      clear hoV hb9 HQ9
      go_wp2_with fail
      go_meet
      exact ⟨_, _, rfl, F.out.1, F.out.2⟩
    · have HQ9 := HQ8.out
      rw [if_neg h1] at HQ9
      have HQ9 := Lib.hid HQ9
      clear HQ8
      go_wp2_with fail
      rw [HNQ.out]
      refine (HCL.out Qt _ _ w8 HQ9.out (by have := HQTL.out; omega)).mono ?_
      rintro e w9 ⟨aV, cV, rfl, hoV, hb9⟩
      have F := Lib.hid (And.intro hoV hb9)
      clear hoV hb9 HQ9
      go_wp2_with fail
      go_meet
      exact ⟨_, _, rfl, F.out.1, F.out.2⟩
  case rest =>
  obtain ⟨aV, cV, rfl, hoV, hb9⟩ := hcut
  generalize hw9 : wc = w9 at *
  clear hw9
  have HB9 := Lib.hid (Below.now HB8.out hb9)
  have HO9 := Lib.hid (HO8.out.later hb9)
  have HV9 := Lib.hid (hoV.mono HB8.out.size)
  have HVB : Hid (∀ b, (Value.slice aV Qt.length cV).ownBlock = some b → w8.heap.size ≤ b) := Lib.hid (fun b hb => (hoV.lt b hb).1)
  have HG5 : Hid (∀ W, Below w9.heap.size w9 W → W.cell? ⟨g5, 0, none⟩ = some (.int .i64 k) ∧ W.cell? ⟨g5, 1, none⟩ = some (.slice aR R.length cR)) := Lib.hid (fun W hW => by
    have h := rec_cells (block_later HA5.out W (Below.now hb9 hW))
    exact ⟨h.1, h.2.1⟩)
  have HA9 := Lib.hid (block_later HA5.out w9 hb9)
  have HV8 : Hid (g14 < w8.heap.size ∧ g5 < w8.heap.size ∧ ∀ x : Value, (x = .slice a13 R.length c13 ∨ x = .slice b13 Q.length d13) → ∀ b, x.ownBlock = some b → b < w8.heap.size) := Lib.hid ⟨(Array.getElem?_eq_some_iff.1 HO8.out.blk).1, (Array.getElem?_eq_some_iff.1 HA5.out).1, fun x hx b hb => by
    rcases hx with rfl | rfl
    · exact (HO8.out.rules.lt b hb).2
    · exact (HO8.out.queue.lt b hb).2⟩
  have HB89 : Hid (w8.heap.size ≤ w9.heap.size) := Lib.hid hb9.size
  clear hoV hb9 HB8 HO8 HQ8
  go_upto_region 10 with fail
  refine region_tail 16 (fun W => Below w9.heap.size w9 W) (fun W W2 => Below W.heap.size W W2) (fun u => by simp only [List.take_succ_cons, List.take_zero, fPut, Act.put, List.setIfInBounds_toArray, List.set_cons_succ, List.set_cons_zero, Nat.zero_add, Nat.reduceAdd]; rfl) (by kernel_rfl) (by kernel_rfl) (by kernel_rfl) (by kernel_rfl) (by kernel_rfl) (by kernel_rfl) (by kernel_rfl) (Below.drew (Below.refl _ _)) ?_
  conv => arg 7; simp only [List.take_succ_cons, List.take_zero]
  apply each_read (fun _ => Below.refl _ _) rfl
  · intro u wv hC hf
    obtain ⟨s0, s1, s2, s3⟩ := HX.out _ (Below.now HB9.out hC)
    obtain ⟨c0, c1⟩ := HQC.out _ (Below.now HB9.out hC)
    obtain ⟨y0, y1⟩ := HG5.out _ hC
    clear hf
    go_simp
    try rfl
  apply each_read (fun _ => Below.refl _ _) rfl
  · intro u wv hC hf
    obtain ⟨s0, s1, s2, s3⟩ := HX.out _ (Below.now HB9.out hC)
    obtain ⟨c0, c1⟩ := HQC.out _ (Below.now HB9.out hC)
    obtain ⟨y0, y1⟩ := HG5.out _ hC
    clear hf
    go_simp
    try rfl
  conv => arg 8; simp only [List.cons_append, List.nil_append]
  apply each_read (fun _ => Below.refl _ _) rfl
  · intro u wv hC hf
    obtain ⟨s0, s1, s2, s3⟩ := HX.out _ (Below.now HB9.out hC)
    obtain ⟨c0, c1⟩ := HQC.out _ (Below.now HB9.out hC)
    obtain ⟨y0, y1⟩ := HG5.out _ hC
    obtain ⟨d1_0, -⟩ := hf
    have e1 : u 1 = _ := d1_0 rfl
    clear d1_0
    go_simp
    try rfl
  conv => arg 8; simp only [List.cons_append, List.nil_append]
  apply each_read (fun _ => Below.refl _ _) rfl
  · intro u wv hC hf
    obtain ⟨s0, s1, s2, s3⟩ := HX.out _ (Below.now HB9.out hC)
    obtain ⟨c0, c1⟩ := HQC.out _ (Below.now HB9.out hC)
    obtain ⟨y0, y1⟩ := HG5.out _ hC
    obtain ⟨d2_0, -⟩ := hf
    have e2 : u 2 = _ := d2_0 rfl
    clear d2_0
    go_simp
    try rfl
  conv => arg 8; simp only [List.cons_append, List.nil_append]
  apply each_read (fun _ => Below.refl _ _) rfl
  · intro u wv hC hf
    obtain ⟨s0, s1, s2, s3⟩ := HX.out _ (Below.now HB9.out hC)
    obtain ⟨c0, c1⟩ := HQC.out _ (Below.now HB9.out hC)
    obtain ⟨y0, y1⟩ := HG5.out _ hC
    obtain ⟨d3_0, -⟩ := hf
    have e3 : u 3 = _ := d3_0 rfl
    clear d3_0
    go_simp
    try rfl
  conv => arg 8; simp only [List.cons_append, List.nil_append]
  apply each_read (fun _ => Below.refl _ _) rfl
  · intro u wv hC hf
    obtain ⟨s0, s1, s2, s3⟩ := HX.out _ (Below.now HB9.out hC)
    obtain ⟨c0, c1⟩ := HQC.out _ (Below.now HB9.out hC)
    obtain ⟨y0, y1⟩ := HG5.out _ hC
    obtain ⟨d4_0, -⟩ := hf
    have e4 : u 4 = _ := d4_0 rfl
    clear d4_0
    go_simp
    try rfl
  conv => arg 8; simp only [List.cons_append, List.nil_append]
  apply each_callR rfl
  · intro u wv hC hf
    obtain ⟨s0, s1, s2, s3⟩ := HX.out _ (Below.now HB9.out hC)
    obtain ⟨c0, c1⟩ := HQC.out _ (Below.now HB9.out hC)
    obtain ⟨y0, y1⟩ := HG5.out _ hC
    obtain ⟨d0_0, d5_1, -⟩ := hf
    have e0 : u 0 = _ := d0_0 rfl
    clear d0_0
    have e5 : u 5 = _ := d5_1 rfl
    clear d5_1
    apply Exists.intro; apply Exists.intro; apply And.intro
    · go_simp; exact ⟨rfl, rfl⟩
    · refine (HN1.out _ (HRI.out _ (Below.now HB9.out hC))).mono ?_
      rintro e w4 ⟨rfl, hb⟩
      exact ⟨rfl, Below.now hC hb, hb⟩
  conv => arg 8; simp only [List.cons_append, List.nil_append]
  apply each_read (fun _ => Below.refl _ _) rfl
  · intro u wv hC hf
    obtain ⟨s0, s1, s2, s3⟩ := HX.out _ (Below.now HB9.out hC)
    obtain ⟨c0, c1⟩ := HQC.out _ (Below.now HB9.out hC)
    obtain ⟨y0, y1⟩ := HG5.out _ hC
    clear hf
    go_simp
    try rfl
  conv => arg 8; simp only [List.cons_append, List.nil_append]
  apply each_read (fun _ => Below.refl _ _) rfl
  · intro u wv hC hf
    obtain ⟨s0, s1, s2, s3⟩ := HX.out _ (Below.now HB9.out hC)
    obtain ⟨c0, c1⟩ := HQC.out _ (Below.now HB9.out hC)
    obtain ⟨y0, y1⟩ := HG5.out _ hC
    clear hf
    go_simp
    try rfl
  conv => arg 8; simp only [List.cons_append, List.nil_append]
  apply each_read (fun _ => Below.refl _ _) rfl
  · intro u wv hC hf
    obtain ⟨s0, s1, s2, s3⟩ := HX.out _ (Below.now HB9.out hC)
    obtain ⟨c0, c1⟩ := HQC.out _ (Below.now HB9.out hC)
    obtain ⟨y0, y1⟩ := HG5.out _ hC
    obtain ⟨d8_0, -⟩ := hf
    have e8 : u 8 = _ := d8_0 rfl
    clear d8_0
    go_simp
    try rfl
  conv => arg 8; simp only [List.cons_append, List.nil_append]
  apply each_read (fun _ => Below.refl _ _) rfl
  · intro u wv hC hf
    obtain ⟨s0, s1, s2, s3⟩ := HX.out _ (Below.now HB9.out hC)
    obtain ⟨c0, c1⟩ := HQC.out _ (Below.now HB9.out hC)
    obtain ⟨y0, y1⟩ := HG5.out _ hC
    obtain ⟨d9_0, -⟩ := hf
    have e9 : u 9 = _ := d9_0 rfl
    clear d9_0
    go_simp
    try rfl
  conv => arg 8; simp only [List.cons_append, List.nil_append]
  apply each_read (fun _ => Below.refl _ _) rfl
  · intro u wv hC hf
    obtain ⟨s0, s1, s2, s3⟩ := HX.out _ (Below.now HB9.out hC)
    obtain ⟨c0, c1⟩ := HQC.out _ (Below.now HB9.out hC)
    obtain ⟨y0, y1⟩ := HG5.out _ hC
    obtain ⟨d10_0, -⟩ := hf
    have e10 : u 10 = _ := d10_0 rfl
    clear d10_0
    go_simp
    try rfl
  conv => arg 8; simp only [List.cons_append, List.nil_append]
  apply each_read (fun _ => Below.refl _ _) rfl
  · intro u wv hC hf
    obtain ⟨s0, s1, s2, s3⟩ := HX.out _ (Below.now HB9.out hC)
    obtain ⟨c0, c1⟩ := HQC.out _ (Below.now HB9.out hC)
    obtain ⟨y0, y1⟩ := HG5.out _ hC
    obtain ⟨d11_0, -⟩ := hf
    have e11 : u 11 = _ := d11_0 rfl
    clear d11_0
    go_simp
    try rfl
  conv => arg 8; simp only [List.cons_append, List.nil_append]
  apply each_callR rfl
  · intro u wv hC hf
    obtain ⟨s0, s1, s2, s3⟩ := HX.out _ (Below.now HB9.out hC)
    obtain ⟨c0, c1⟩ := HQC.out _ (Below.now HB9.out hC)
    obtain ⟨y0, y1⟩ := HG5.out _ hC
    obtain ⟨d7_0, d12_1, d6_2, -⟩ := hf
    have e7 : u 7 = _ := d7_0 rfl
    clear d7_0
    have e12 : u 12 = _ := d12_1 rfl
    clear d12_1
    have e6 : u 6 = _ := d6_2 rfl
    clear d6_2
    apply Exists.intro; apply Exists.intro; apply And.intro
    · go_simp; exact ⟨rfl, rfl⟩
    · refine (HN2.out _ (HRI.out _ (Below.now HB9.out hC))).mono ?_
      rintro e w4 ⟨rfl, hb⟩
      exact ⟨rfl, Below.now hC hb, hb⟩
  conv => arg 8; simp only [List.cons_append, List.nil_append]
  apply each_read (fun _ => Below.refl _ _) rfl
  · intro u wv hC hf
    obtain ⟨s0, s1, s2, s3⟩ := HX.out _ (Below.now HB9.out hC)
    obtain ⟨c0, c1⟩ := HQC.out _ (Below.now HB9.out hC)
    obtain ⟨y0, y1⟩ := HG5.out _ hC
    obtain ⟨d6_0, d13_1, -⟩ := hf
    have e6 : u 6 = _ := d6_0 rfl
    clear d6_0
    have e13 : u 13 = _ := d13_1 rfl
    clear d13_1
    go_simp
    try rfl
  conv => arg 8; simp only [List.cons_append, List.nil_append]
  refine each_do (fun v wv => ∃ g, v = .pointer (some ⟨g, 0, none⟩) ∧ wv.heap[g]? = some (.cells #[.string ⟨#[]⟩, .string ⟨#[]⟩] 39 (0, 0)) ∧ w9.heap.size ≤ g) (fun v w w2 _ hR ⟨g, h1, h2, h3⟩ => ⟨g, h1, block_later h2 _ hR, h3⟩) rfl ?_ ?_
  · intro u wv hC hf
    obtain ⟨s0, s1, s2, s3⟩ := HX.out _ (Below.now HB9.out hC)
    obtain ⟨c0, c1⟩ := HQC.out _ (Below.now HB9.out hC)
    obtain ⟨y0, y1⟩ := HG5.out _ hC
    clear hf
    refine ⟨.pointer (some ⟨wv.heap.size, 0, none⟩), wv.alloc (.cells #[.string ⟨#[]⟩, .string ⟨#[]⟩] 39), ?_, Below.alloc hC hC.size _, alloc_belowS _ _, wv.heap.size, rfl, alloc_at wv _, hC.size⟩
    go_simp
    try rfl
  intro u wA hbA hall
  obtain ⟨a0, a1, a2, a3, a4, a5, a6, a7, a8, a9, a10, a11, a12, a13, a14, a15, -⟩ := hall
  have e0 : u 0 = _ := a0
  clear a0
  have e1 : u 1 = _ := a1
  clear a1
  have e2 : u 2 = _ := a2
  clear a2
  have e3 : u 3 = _ := a3
  clear a3
  have e4 : u 4 = _ := a4
  clear a4
  have e5 : u 5 = _ := a5
  clear a5
  have e6 : u 6 = _ := a6
  clear a6
  have e7 : u 7 = _ := a7
  clear a7
  have e8 : u 8 = _ := a8
  clear a8
  have e9 : u 9 = _ := a9
  clear a9
  have e10 : u 10 = _ := a10
  clear a10
  have e11 : u 11 = _ := a11
  clear a11
  have e12 : u 12 = _ := a12
  clear a12
  have e13 : u 13 = _ := a13
  clear a13
  have e14 : u 14 = _ := a14
  clear a14
  obtain ⟨g15, e15, b15, l15⟩ := a15
  replace e15 : u 15 = _ := e15
  change wpList _ _ _ (List.drop 16 _) _ _
  simp only [List.drop_succ_cons, List.drop_zero]
  simp only [e0, e1, e2, e3, e4, e5, e6, e7, e8, e9, e10, e11, e12, e13, e14, e15]
  clear e0 e1 e2 e3 e4 e5 e6 e7 e8 e9 e10 e11 e12 e13 e14 e15
  have HGB := Lib.hid ((hbA.setCell (p := ⟨g15, 0, none⟩) l15 (.string (nfC R q.1))).setCell (p := ⟨g15, 1, none⟩) l15 (.string (nfC R q.2)))
  have HR7 := Lib.hid (set_two b15 (.string (nfC R q.1)) (.string (nfC R q.2)))
  have HL15 := Lib.hid l15
  obtain ⟨z0, z1, f0, f1⟩ := rec_cells b15
  clear hbA b15 l15
  go_upto_region 11 with fail
  generalize (wA.setCell ⟨g15, 0, none⟩ (.string (nfC R q.1))).setCell ⟨g15, 1, none⟩ (.string (nfC R q.2)) = wB at *
  have HBB := Lib.hid (Below.now HB9.out HGB.out)
  have HOB := Lib.hid (HO9.out.later HGB.out)
  have HVW := Lib.hid (HV9.out.later HGB.out)
  have HAB := Lib.hid (block_later HA9.out wB HGB.out)
  have HVL : Hid (∀ b, (Value.slice aV Qt.length cV).ownBlock = some b → b < w9.heap.size) := Lib.hid (fun b hb => (HV9.out.lt b hb).2)
  have HTE : Hid (turnF R Q T = if nfC R q.1 = nfC R q.2 then (0, R, Qt, T + 1) else if 8 < (orF2 (nfC R q.1) (nfC R q.2)).1.size then (1, R, Q, T) else if 12 < (nextF R (orF2 (nfC R q.1) (nfC R q.2))).length then (2, R, Q, T) else if 400 < (Qt ++ goneF R (orF2 (nfC R q.1) (nfC R q.2)).1 ++ newQ (nextF R (orF2 (nfC R q.1) (nfC R q.2)))).length then (2, R, Q, T) else (0, nextF R (orF2 (nfC R q.1) (nfC R q.2)), Qt ++ goneF R (orF2 (nfC R q.1) (nfC R q.2)).1 ++ newQ (nextF R (orF2 (nfC R q.1) (nfC R q.2))), T + 1)) := Lib.hid (by rw [HQE.out]; exact if_neg hT)
  have HNR : Hid (¬ nfC R q.1 = nfC R q.2 → ¬ 8 < (orF2 (nfC R q.1) (nfC R q.2)).1.size → NewR k (orF2 (nfC R q.1) (nfC R q.2))) := Lib.hid (fun h1 h2 => orF2_new HWK.out.sys HQW.out h1 h2)
  have HTB : Hid (T < 200) := Lib.hid (by omega)
  have HB19 := Lib.hid HB9.out
  clear z0 z1 f0 f1 HN1 HN2 HB9 HO9 HV9 HA9 HQC HG5 hcq1 hT2 hT HWO
  obtain ⟨q0, q1, _, _⟩ := rec_cells HR7.out
  generalize nfC R q.1 = A at *
  generalize nfC R q.2 = B at *
  have hTw : IntKind.i64.wrap (((T : Nat) : Int) + 1) = ((T + 1 : Nat) : Int) := by rw [show (((T : Nat) : Int) + 1) = ((T + 1 : Nat) : Int) by omega]; exact IntWalk.i64_in _ (by omega)
  generalize hT1 : T + 1 = T1 at *
  clear hT1
  have HTWW := Lib.hid hTw
  cases heq : (A.toList == B.toList)
  · have hne : ¬ A = B := by rintro rfl; simp at heq
    have HNE := Lib.hid hne
    have HTE2 := Lib.hid (HTE.out.trans (if_neg hne))
    have HOR := Lib.hid (fun W => oriented_any A B W)
    clear hne HTE
    go_wp2_with fail
    refine (HOR.out _).mono ?_
    rintro e wC ⟨rfl, hbC⟩
    have hz := block_later HR7.out wC hbC
    have HGD := Lib.hid (((Below.now HGB.out hbC).setCell (p := ⟨g15, 0, none⟩) HL15.out (.string (orF2 A B).1)).setCell (p := ⟨g15, 1, none⟩) HL15.out (.string (orF2 A B).2))
    have H7D := Lib.hid (set_two hz (.string (orF2 A B).1) (.string (orF2 A B).2))
    have HOD0 := Lib.hid (HOB.out.later hbC)
    have HAD0 := Lib.hid (block_later HAB.out wC hbC)
    have HVD0 := Lib.hid (HVW.out.later hbC)
    obtain ⟨z0, z1, f0, f1⟩ := rec_cells hz
    clear heq hz hbC q0 q1 HR7 HOB HAB HVW
    go_upto_region 15 with fail
    have HN14 : Hid (g15 ≠ g14 ∧ g15 ≠ g5) := Lib.hid ⟨fun e => by have := HV8.out.1; have := HB89.out; have := HL15.out; omega, fun e => by have := HV8.out.2.1; have := HB89.out; have := HL15.out; omega⟩
    have HO15 : Hid (∀ x : Value, ∀ b, x.ownBlock = some b → b < w9.heap.size → b ≠ g15) := Lib.hid (fun x b _ h e => by have := HL15.out; omega)
    have HOD : Hid (OutAt ((wC.setCell ⟨g15, 0, none⟩ (.string (orF2 A B).1)).setCell ⟨g15, 1, none⟩ (.string (orF2 A B).2)) w1.heap.size g14 k (.slice a13 R.length c13) R (.slice b13 Q.length d13) Q T) := Lib.hid (HOD0.out.kept (o := some g15) (set_grown2 wC g15 _ _) (fun b hb => by
      cases hb
      have hB := HB89.out
      have hL := HL15.out
      exact ⟨HN14.out.1, fun e => by have := HV8.out.2.2 _ (.inl rfl) _ e; omega, fun e => by have := HV8.out.2.2 _ (.inr rfl) _ e; omega⟩))
    have HAD : Hid (((wC.setCell ⟨g15, 0, none⟩ (.string (orF2 A B).1)).setCell ⟨g15, 1, none⟩ (.string (orF2 A B).2)).heap[g5]? = some (.cells #[.int .i64 k, .slice aR R.length cR] 33 (0, 0))) := Lib.hid (by rw [heap_set_ne HN14.out.2, heap_set_ne HN14.out.2]; exact HAD0.out)
    have HVD : Hid (ownsOff ((wC.setCell ⟨g15, 0, none⟩ (.string (orF2 A B).1)).setCell ⟨g15, 1, none⟩ (.string (orF2 A B).2)) w1.heap.size 39 2 (.slice aV Qt.length cV) Qt.length (ruleCells Qt)) := Lib.hid (HVD0.out.kept (set_grown2 wC g15 _ _) (far_of fun b hb e => by cases hb; have := HVL.out _ e; have := HL15.out; omega))
    have HBD := Lib.hid (Below.now HB19.out HGD.out)
    clear HOD0 HAD0 HVD0 z0 z1 f0 f1 HGB HBB HGD
    generalize (wC.setCell ⟨g15, 0, none⟩ (.string (orF2 A B).1)).setCell ⟨g15, 1, none⟩ (.string (orF2 A B).2) = wD at *
    generalize orF2 A B = r at *
    obtain ⟨q0, q1, _, _⟩ := rec_cells H7D.out
    by_cases h8 : 8 < r.1.size
    · have HTFH := Lib.hid (HTE2.out.trans (if_pos h8))
      have h8i : (8 : Int) < (r.1.size : Int) := by omega
      clear h8
      have hzr := HZ.out _ HBD.out
      have hgs : w.heap.size + 1 < w1.heap.size := by have := HSZ.out; omega
      obtain ⟨⟨f0, f1, f2, f3⟩, ⟨u0, u1, u2, u3⟩, _⟩ := four_sets hzr (.int .i64 k) (.slice a13 R.length c13) (.slice b13 Q.length d13) (.int .i64 ((T : Nat) : Int))
      obtain ⟨⟨q0, q1, q2, q3⟩, _⟩ := four_cells hzr
      obtain ⟨⟨y0, y1, y2, y3⟩, ff⟩ := four_cells HOD.out.blk
      have F : Hid (RetWI k (turnF R Q T) w (.returned (.tuple #[workVal k a13 R.length c13 b13 Q.length d13 (T), .int .i64 ((1 : Nat) : Int)])) (set4 wD (w.heap.size + 1) (.int .i64 k) (.slice a13 R.length c13) (.slice b13 Q.length d13) (.int .i64 ((T : Nat) : Int)))) := Lib.hid (by
        rw [HTFH.out]
        exact ⟨a13, c13, b13, d13, rfl, offRules (set4_owns HOD.out.rules hgs _ _ _ _), offRules (set4_owns HOD.out.queue hgs _ _ _ _), HOD.out.queue.cap, set4_below (Below.now HB0.out HBD.out) (by omega) _ _ _ _⟩)
      unfold workVal at F
      unfold set4 at F u0 u1 u2 u3
      clear hzr
      go_wp2_with fail
      refine bodyPost_ret (v := .tuple #[.agg #[.int .i64 k, .slice a13 R.length c13, .slice b13 Q.length d13, .int .i64 ((T : Nat) : Int)], .int .i64 1]) ?_ rfl F.out
      simp [results, Tryz.results83, go_sem, u0, u1, u2, u3]
    have HTE3 := Lib.hid (HTE2.out.trans (if_neg h8))
    have HRN := Lib.hid (HNR.out HNE.out h8)
    have h8i : ¬ (8 : Int) < (r.1.size : Int) := by omega
    have h82 : ¬ (8 : Int) < (r.2.size : Int) := by have := lessS_size HRN.out.less; omega
    have HR1 : Hid (r.1.size ≠ 0) := Lib.hid (less_ne HRN.out.less)
    have HOF : Hid (∀ b, (Value.slice aV Qt.length cV).ownBlock = some b → w1.heap.size ≤ b ∧ b ≠ g14 ∧ b ≠ g5 ∧ b ≠ g15 ∧ (Value.slice a13 R.length c13).ownBlock ≠ some b ∧ (Value.slice b13 Q.length d13).ownBlock ≠ some b) := Lib.hid (fun b hb => by
      have h1 := HVB.out b hb
      have h2 := HVL.out b hb
      have h3 := HV8.out
      have h4 := HL15.out
      exact ⟨(HVD.out.lt b hb).1, by omega, by omega, by omega, fun e => by have := h3.2.2 _ (.inl rfl) _ e; omega, fun e => by have := h3.2.2 _ (.inr rfl) _ e; omega⟩)
    have HK : Hid (∀ W, wD.grownBy W (Value.slice aV Qt.length cV).ownBlock → Below w1.heap.size w1 W ∧ OutAt W w1.heap.size g14 k (.slice a13 R.length c13) R (.slice b13 Q.length d13) Q T ∧ W.heap[g5]? = some (.cells #[.int .i64 k, .slice aR R.length cR] 33 (0, 0)) ∧ W.heap[g15]? = some (.cells #[.string r.1, .string r.2] 39 (0, 0)) ∧ MaxL W) := Lib.hid (fun W hW => by
      have hb : Below w1.heap.size w1 W := Below.grown HBD.out hW HBD.out.size (fun b hb => (HOF.out b hb).1)
      exact ⟨hb, HOD.out.kept hW (fun b hb => ⟨(HOF.out b hb).2.1, (HOF.out b hb).2.2.2.2.1, (HOF.out b hb).2.2.2.2.2⟩), (hW.block g5 (Array.getElem?_eq_some_iff.1 HAD.out).1 (fun e => (HOF.out g5 e.symm).2.2.1 rfl)).trans HAD.out, (hW.block g15 (Array.getElem?_eq_some_iff.1 H7D.out).1 (fun e => (HOF.out g15 e.symm).2.2.2.1 rfl)).trans H7D.out, HMX.out.later (Below.now HB0.out hb)⟩)
    have HLA : Hid (LoopA wD wD w1.heap.size (Value.slice aV Qt.length cV).ownBlock (.slice aV Qt.length cV) (.slice none 0 0) (qA Qt R r.1 0) (keptL r.1 (R.take 0))) := Lib.hid ⟨⟨rfl, rfl, rfl, Nat.le_refl _, fun _ _ _ => rfl⟩, by show ownsOff wD _ _ _ _ (Qt ++ []).length (ruleCells (Qt ++ [])); rw [List.append_nil]; exact HVD.out, ⟨rfl, .inl ⟨rfl, rfl⟩⟩, fun b hb => .inl hb, fun b _ e => by cases e⟩
    obtain ⟨y0, y1, _, _⟩ := rec_cells HAD.out
    clear h8 HTE2 HNR HNE HOD HAD HVD HBD
    have HV0 : Hid (LoopA wD wD w1.heap.size (Value.slice aV Qt.length cV).ownBlock (.slice aV Qt.length cV) (.slice none 0 0) (qA Qt R r.1 0) (keptL r.1 (R.take 0))) := HLA
    generalize (Value.slice aV Qt.length cV).ownBlock = oV at *
    go_wp2_with fail
    clear q0 q1 HLA h8i h82 s0 s1 s2 s3 hTw HVB HVL HL15 HN14 HO15 HV8 HB89
    go_loopw [6, 8, 101] (fun v6 v8 vi wr => ∃ i : Nat, i ≤ R.length ∧ vi = .int .i64 (i : Nat) ∧ Hid (LoopA wD wr w1.heap.size oV v6 v8 (qA Qt R r.1 i) (keptL r.1 (R.take i)))) (fun _ _ vi _ => R.length - (intOf vi).toNat)
    case atStart => exact ⟨0, Nat.zero_le _, rfl, HV0⟩
    case round =>
      clear HV0 y0 y1
      obtain ⟨i, hi, rfl, HLA⟩ := hrel
      obtain ⟨a6, c6, rfl⟩ := HLA.out.qu.form
      obtain ⟨a8, c8, rfl⟩ := HLA.out.ke.form
      have HKW := Lib.hid (HK.out _ HLA.out.gr)
      obtain ⟨hq4, hk12⟩ := qA_len (x := r.1) (i := i) HQTL.out h12R
      by_cases hlt : i < R.length
      -- A1
      · obtain ⟨b, off, rfl, hb, k0, k1⟩ := rule_at (HRI.out _ HKW.out.1) (Below.refl _ _) hlt
        have hsz := (HWK.out.sys.1.2 _ (nthR_mem hlt)).1.2.1
        have HPC := Lib.hid (fun W hm => contains_any (nthR R i).1 r.1 W HR1.out (by omega) hm)
        have HYES := Lib.hid (fun h => qA_yes (Qt := Qt) (x := r.1) hlt h)
        have HNOO := Lib.hid (fun h => qA_no (Qt := Qt) (x := r.1) hlt h)
        have HNR : Hid (nthR R i = ((nthR R i).1, (nthR R i).2)) := Lib.hid rfl
        generalize hX : nthR R i = X at *
        clear hX hsz
        obtain ⟨l, q2⟩ := X
        simp only at k0 k1
        have HL5 := Lib.hid (HLA.out.later (alloc_belowS wr (.cells #[.string l, .string q2] 39)))
        obtain ⟨x0, x1, _, _⟩ := rec_cells (HK.out _ HL5.out.gr).2.2.2.1
        have HM5 := Lib.hid (HK.out _ HL5.out.gr).2.2.2.2
        have HA5b := Lib.hid (alloc_at wr (.cells #[.string l, .string q2] 39))
        clear HLA HKW
        go_wp2_with fail
        refine (HPC.out _ HM5.out).mono ?_
        rintro e w5b ⟨rfl, rfl⟩
        generalize wr.alloc (.cells #[.string l, .string q2] 39) = w5b at *
        generalize wr.heap.size = g10 at *
        obtain ⟨m0, m1, _, _⟩ := rec_cells HA5b.out
        have HL6 := Lib.hid (HL5.out.later (alloc_belowS w5b (.cells #[.string l, .string q2] 39)))
        have HSB := Lib.hid (src_box (P := Tryz.prog) Tryz.underlying25 (alloc_at w5b (.cells #[.string l, .string q2] 39)) 1)
        have HBS : Hid (w1.heap.size ≤ (w5b.alloc (.cells #[.string l, .string q2] 39)).heap.size) := Lib.hid (HK.out _ HL6.out.gr).1.size
        have HDS : Hid (wD.heap.size ≤ (w5b.alloc (.cells #[.string l, .string q2] 39)).heap.size) := Lib.hid HL6.out.gr.size
        cases hh : hasB l r.1
        · rw [hh] at HPC
          obtain ⟨hG, hK⟩ := HNOO.out hh
          have HG := Lib.hid hG
          have HKQ := Lib.hid hK
          clear hG hK hh HYES HNOO x0 x1 k0 k1
          generalize qA Qt R r.1 i = G at *
          generalize keptL r.1 (R.take i) = K at *
          go_wp2_with (at_builtin; refine wpList_append_off2 rfl (.tmp 114) (.tmp 116) (by rfl) Tryz.underlying25 Tryz.infoRule rfl (by decide) (by rfl) HL6.out.ke HDS.out (by rfl) HSB.out (by unfold maxLen; omega) (by omega) ?_; intro v2 w2 ho hg hw; have HL2 := Lib.hid (HL6.out.putK (M := [(l, q2)]) ho hg hw); obtain ⟨a9, c9, rfl⟩ := ho.form; clear ho hg hw)
          have HF : Hid (LoopA wD w2 w1.heap.size oV (.slice a6 G.length c6) (.slice a9 (K.length + 1) c9) (qA Qt R r.1 (i + 1)) (keptL r.1 (R.take (i + 1)))) := Lib.hid (by rw [HG.out, HKQ.out]; exact HL2.out)
          clear m0 m1
          go_wp2_with fail
          go_roundw
          case rel => exact ⟨i + 1, by omega, by go_num, HF⟩
          case measure => simp [intOf]; omega
        · rw [hh] at HPC
          obtain ⟨hG, hK⟩ := HYES.out hh
          have HG := Lib.hid hG
          have HKQ := Lib.hid hK
          clear hG hK hh HYES HNOO x0 x1 k0 k1
          generalize qA Qt R r.1 i = G at *
          generalize keptL r.1 (R.take i) = K at *
          go_wp2_with (at_builtin; refine wpList_append_off2 rfl (.tmp 110) (.tmp 112) (by rfl) Tryz.underlying25 Tryz.infoRule rfl (by decide) (by rfl) HL6.out.qu HBS.out (by rfl) HSB.out (by unfold maxLen; omega) (by omega) ?_; intro v2 w2 ho hg hw; have HL2 := Lib.hid (HL6.out.putG (M := [(l, q2)]) ho hg hw); obtain ⟨a9, c9, rfl⟩ := ho.form; clear ho hg hw)
          have HF : Hid (LoopA wD w2 w1.heap.size oV (.slice a9 (G.length + 1) c9) (.slice a8 K.length c8) (qA Qt R r.1 (i + 1)) (keptL r.1 (R.take (i + 1)))) := Lib.hid (by rw [HG.out, HKQ.out]; exact HL2.out)
          clear m0 m1
          go_wp2_with fail
          go_roundw
          case rel => exact ⟨i + 1, by omega, by go_num, HF⟩
          case measure => simp [intOf]; omega
      -- A2
      · obtain rfl : i = R.length := by omega
        have HGF := Lib.hid (qA_full Qt R r.1)
        have HKF : Hid (keptL r.1 (R.take R.length) = keptF R r.1) := Lib.hid (by rw [List.take_length]; rfl)
        clear hq4 hk12
        rw [HGF.out, HKF.out] at HLA ⊢
        have HGL : Hid ((Qt ++ goneF R r.1).length ≤ 412) := Lib.hid (by rw [← HGF.out]; exact (qA_len (x := r.1) (i := R.length) HQTL.out h12R).1)
        have HKL : Hid ((keptF R r.1).length ≤ 12) := Lib.hid (by rw [← HKF.out]; exact (qA_len (Qt := Qt) (x := r.1) (i := R.length) HQTL.out h12R).2)
        have HAK : Hid (allF R r = keptF R r.1 ++ [r]) := Lib.hid rfl
        have HNX : Hid (nextF R r = mapG (nfC (allF R r)) (keptF R r.1) ++ [r]) := Lib.hid rfl
        have HAS : Hid (sysW k (allF R r)) := Lib.hid (allF_sys HWK.out.sys HRN.out)
        have HAL : Hid ((allF R r).length ≤ 13) := Lib.hid (allF_len HWK.out.sys r)
        have HKO : Hid (∀ j, j < (keptF R r.1).length → wordOkB k (nthR (keptF R r.1) j).2 = true) := Lib.hid (fun j hj => (HWK.out.sys.1.2 _ (List.mem_filter.1 (nthR_mem hj)).1).1.1.2)
        clear HKW hlt hi HGF HKF
        generalize Qt ++ goneF R r.1 = G at *
        generalize keptF R r.1 = K at *
        generalize allF R r = AL at *
        generalize hW : wr = wK at *
        clear hW
        have HKB : Hid (∀ W, Below wK.heap.size wK W → Below w1.heap.size w1 W ∧ OutAt W w1.heap.size g14 k (.slice a13 R.length c13) R (.slice b13 Q.length d13) Q T ∧ W.heap[g5]? = some (.cells #[.int .i64 k, .slice aR R.length cR] 33 (0, 0)) ∧ W.heap[g15]? = some (.cells #[.string r.1, .string r.2] 39 (0, 0)) ∧ MaxL W) := Lib.hid (fun W hW => HK.out W (gbel HLA.out.gr hW))
        have HKX : Hid (∀ W, Below wK.heap.size wK W → (W.cell? ⟨g5, 0, none⟩ = some (.int .i64 k) ∧ W.cell? ⟨g5, 1, none⟩ = some (.slice aR R.length cR)) ∧ (W.cell? ⟨g15, 0, none⟩ = some (.string r.1) ∧ W.cell? ⟨g15, 1, none⟩ = some (.string r.2)) ∧ RulesIn W a8 K) := Lib.hid (fun W hW => by
          obtain ⟨_, _, h5, h7, _⟩ := HKB.out W hW
          have h5 := rec_cells h5
          have h7 := rec_cells h7
          exact ⟨⟨h5.1, h5.2.1⟩, ⟨h7.1, h7.2.1⟩, offRules (HLA.out.ke.later hW)⟩)
        have HQK := Lib.hid HLA.out.qu
        have HOV : Hid (∀ b, (Value.slice a6 G.length c6).ownBlock = some b → oV = some b ∨ wD.heap.size ≤ b) := Lib.hid HLA.out.old
        have HGR := Lib.hid HLA.out.gr
        clear HLA
        go_upto_region 25 with fail
        refine region_twoT 9 6 (fun W => Below wK.heap.size wK W) (fun W => Below wK.heap.size wK W) (fun W W2 => Below W.heap.size W W2) (fun W W2 => Below W.heap.size W W2) (fun W W2 => ∀ (k : Nat) (cs : Array Value) (fr : Nat × Nat) (T : TypeId), T ≠ 39 → W.heap[k]? = some (.cells cs T fr) → W2.heap[k]? = some (.cells cs T fr)) (fun u => by simp only [List.take_succ_cons, List.take_zero, fPut, Act.put, List.setIfInBounds_toArray, List.set_cons_succ, List.set_cons_zero, Nat.zero_add, Nat.reduceAdd]; rfl) (by kernel_rfl) (by kernel_rfl) (by kernel_rfl) (by kernel_rfl) (by kernel_rfl) (by kernel_rfl) (by kernel_rfl) (by kernel_rfl) (Below.drew (Below.refl _ _)) ?_
        conv => arg 11; simp only [List.take_succ_cons, List.take_zero]
        apply two_bothR (fun _ => Below.refl _ _) (fun _ => Below.refl _ _) (by decide) rfl
        · intro u wv hC hf
          obtain ⟨⟨y0, y1⟩, ⟨z0, z1⟩, _⟩ := HKX.out _ hC
          clear hf
          go_simp
          try rfl
        · intro u wv hC hf
          obtain ⟨⟨y0, y1⟩, ⟨z0, z1⟩, _⟩ := HKX.out _ hC
          clear hf
          go_simp
          try rfl
        conv => arg 13; simp only [List.cons_append, List.nil_append]
        conv => arg 14; simp only [List.cons_append, List.nil_append]
        apply two_bothR (fun _ => Below.refl _ _) (fun _ => Below.refl _ _) (by decide) rfl
        · intro u wv hC hf
          obtain ⟨⟨y0, y1⟩, ⟨z0, z1⟩, _⟩ := HKX.out _ hC
          obtain ⟨d0_0, -⟩ := hf
          have e0 : u 0 = _ := d0_0 rfl
          clear d0_0
          go_simp
          try rfl
        · intro u wv hC hf
          obtain ⟨⟨y0, y1⟩, ⟨z0, z1⟩, _⟩ := HKX.out _ hC
          obtain ⟨d0_0, -⟩ := hf
          have e0 : u 0 = _ := d0_0 rfl
          clear d0_0
          go_simp
          try rfl
        conv => arg 13; simp only [List.cons_append, List.nil_append]
        conv => arg 14; simp only [List.cons_append, List.nil_append]
        apply two_preR (fun _ => Below.refl _ _) (by decide) rfl (by kernel_rfl)
        · intro u wv hC hf
          obtain ⟨⟨y0, y1⟩, ⟨z0, z1⟩, _⟩ := HKX.out _ hC
          clear hf
          go_simp
          try rfl
        conv => arg 13; simp only [List.cons_append, List.nil_append]
        conv => arg 14; simp only [List.cons_append, List.nil_append]
        refine two_pre (fun v wv => ∃ a c, v = .slice a K.length c ∧ ownsOff wv wK.heap.size 39 2 (.slice a K.length c) K.length (ruleCells K)) (fun v w w2 _ hR ⟨a, c, h1, h2⟩ => ⟨a, c, h1, h2.later hR⟩) (by decide) (by kernel_rfl) (call_step _ rfl ?_) ?_
        · intro u wv hC hf
          obtain ⟨⟨y0, y1⟩, ⟨z0, z1⟩, _⟩ := HKX.out _ hC
          obtain ⟨d2_0, -⟩ := hf
          have e2 : u 2 = _ := d2_0 rfl
          clear d2_0
          apply Exists.intro; apply Exists.intro; apply And.intro
          · go_simp; exact ⟨rfl, rfl⟩
          · refine (HCL.out K a8 c8 _ ((HKX.out _ hC).2.2) (by have := HKL.out; omega)).mono ?_
            rintro e w4 ⟨a, c, rfl, ho, hb⟩
            exact ⟨_, rfl, Below.now hC hb, hb, a, c, rfl, ho.mono hC.size⟩
        conv => arg 13; simp only [List.cons_append, List.nil_append]
        conv => arg 14; simp only [List.cons_append, List.nil_append]
        apply two_preR (fun _ => Below.refl _ _) (by decide) rfl (by kernel_rfl)
        · intro u wv hC hf
          obtain ⟨⟨y0, y1⟩, ⟨z0, z1⟩, _⟩ := HKX.out _ hC
          clear hf
          go_simp
          try rfl
        conv => arg 13; simp only [List.cons_append, List.nil_append]
        conv => arg 14; simp only [List.cons_append, List.nil_append]
        refine two_pre (fun v wv => ∃ g, v = .slice (some ⟨g, 0, none⟩) 1 1 ∧ wv.heap[g]? = some (.cells #[.string r.1, .string r.2] 39 (0, 0))) (fun v w w2 _ hR ⟨g, h1, h2⟩ => ⟨g, h1, block_later h2 _ hR⟩) (by decide) (by kernel_rfl) (do_step _ rfl ?_) ?_
        · intro u wv hC hf
          obtain ⟨⟨y0, y1⟩, ⟨z0, z1⟩, _⟩ := HKX.out _ hC
          obtain ⟨d4_0, -⟩ := hf
          have e4 : u 4 = _ := d4_0 rfl
          clear d4_0
          refine ⟨.slice (some ⟨wv.heap.size, 0, none⟩) 1 1, wv.alloc (.cells #[.string r.1, .string r.2] 39), ?_, Below.alloc hC hC.size _, alloc_belowS _ _, wv.heap.size, rfl, alloc_at wv _⟩
          go_simp
          try rfl
        conv => arg 13; simp only [List.cons_append, List.nil_append]
        conv => arg 14; simp only [List.cons_append, List.nil_append]
        refine two_s (fun v wv => ∃ a c, v = .slice a (K.length + 1) c ∧ ownsOff wv wK.heap.size 39 2 (.slice a (K.length + 1) c) (K.length + 1) (ruleCells K ++ [.string r.1, .string r.2])) (fun v w w2 _ hR ⟨a, c, h1, h2⟩ => ⟨a, c, h1, h2.later hR⟩) rfl rfl ?_ ?_
        · intro u wv hC hf
          obtain ⟨⟨y0, y1⟩, ⟨z0, z1⟩, _⟩ := HKX.out _ hC
          obtain ⟨d3_0, d5_1, d3_2, -⟩ := hf
          obtain ⟨a3, c3, e3, o3⟩ := d3_0 rfl
          obtain ⟨g5b, e5, b5⟩ := d5_1 rfl
          clear d3_2
          obtain ⟨v2, w2, hr, ho, hg, _⟩ := run_append_off2 (P := Tryz.prog) (tsl := 25) (ty := 25) Tryz.underlying25 Tryz.infoRule rfl (by decide) o3 hC.size (src_box (P := Tryz.prog) Tryz.underlying25 b5 1) (by have := HKL.out; unfold maxLen; omega) (by have := HKL.out; omega)
          obtain ⟨a, c, rfl⟩ := ho.form
          refine ⟨_, w2, ?_, Below.grown hC hg hC.size (fun b hb => (o3.lt b hb).1), fun k cs fr T hT hk => grown_other o3 hg hk (fun e => hT e.symm), a, c, rfl, ho⟩
          exact exec_append rfl e3 e5 hr
        conv => arg 13; simp only [List.cons_append, List.nil_append]
        conv => arg 14; simp only [List.cons_append, List.nil_append]
        refine two_post (fun v wv => ∃ a c, v = .agg #[.int .i64 k, .slice a (K.length + 1) c] ∧ ownsOff wv wK.heap.size 39 2 (.slice a (K.length + 1) c) (K.length + 1) (ruleCells K ++ [.string r.1, .string r.2])) (fun v w w2 _ hR ⟨a, c, h1, h2⟩ => ⟨a, c, h1, h2.later hR⟩) (by decide) (by kernel_rfl) (do_step _ rfl ?_) ?_
        · intro u wv hC hf
          obtain ⟨⟨y0, y1⟩, ⟨z0, z1⟩, _⟩ := HKX.out _ hC
          obtain ⟨d1_0, d6_1, -⟩ := hf
          have e1 : u 1 = _ := d1_0 rfl
          clear d1_0
          obtain ⟨a6b, c6b, e6, o6⟩ := d6_1 rfl
          refine ⟨.agg #[.int .i64 k, .slice a6b (K.length + 1) c6b], wv, ?_, hC, Below.refl _ _, a6b, c6b, rfl, o6⟩
          go_simp
          try rfl
        conv => arg 13; simp only [List.cons_append, List.nil_append]
        conv => arg 14; simp only [List.cons_append, List.nil_append]
        refine two_both (fun v wv => ∃ g, v = .pointer (some ⟨g, 0, none⟩) ∧ wv.heap[g]? = some (.cells #[.int .i64 0, .slice none 0 0] 33 (0, 0)) ∧ wK.heap.size ≤ g) (fun v wv => ∃ g, v = .pointer (some ⟨g, 0, none⟩) ∧ wv.heap[g]? = some (.cells #[.int .i64 0, .slice none 0 0] 33 (0, 0)) ∧ wK.heap.size ≤ g) (fun v w w2 _ hR ⟨g, h1, h2, h3⟩ => ⟨g, h1, block_later h2 _ hR, h3⟩) (fun v w w2 _ hR ⟨g, h1, h2, h3⟩ => ⟨g, h1, block_later h2 _ hR, h3⟩) (by decide) (fun v w w2 _ _ hR ⟨g, h1, h2, h3⟩ => ⟨g, h1, hR _ _ _ _ (by decide) h2, h3⟩) (do_step _ rfl ?_) (do_step _ rfl ?_) ?_
        · intro u wv hC hf
          obtain ⟨⟨y0, y1⟩, ⟨z0, z1⟩, _⟩ := HKX.out _ hC
          clear hf
          refine ⟨.pointer (some ⟨wv.heap.size, 0, none⟩), wv.alloc (.cells #[.int .i64 0, .slice none 0 0] 33), ?_, Below.alloc hC hC.size _, alloc_belowS _ _, wv.heap.size, rfl, alloc_at wv _, hC.size⟩
          go_simp
          try rfl
        · intro u wv hC hf
          obtain ⟨⟨y0, y1⟩, ⟨z0, z1⟩, _⟩ := HKX.out _ hC
          clear hf
          refine ⟨.pointer (some ⟨wv.heap.size, 0, none⟩), wv.alloc (.cells #[.int .i64 0, .slice none 0 0] 33), ?_, Below.alloc hC hC.size _, alloc_belowS _ _, wv.heap.size, rfl, alloc_at wv _, hC.size⟩
          go_simp
          try rfl
        intro u w7k hb7k hall
        obtain ⟨a0, a1, a2, a3, a4, a5, a6, a7, a8, -⟩ := hall
        have e0 : u 0 = _ := a0
        clear a0
        have e1 : u 1 = _ := a1
        clear a1
        have e2 : u 2 = _ := a2
        clear a2
        clear a3
        generalize u 3 = x3
        have e4 : u 4 = _ := a4
        clear a4
        clear a5
        generalize u 5 = x5
        obtain ⟨a6b, c6b, e6, o6⟩ := a6
        replace e6 : u 6 = _ := e6
        obtain ⟨a7b, c7b, e7, o7⟩ := a7
        replace e7 : u 7 = _ := e7
        obtain ⟨g8, e8, b8, l8⟩ := a8
        replace e8 : u 8 = _ := e8
        change wpList _ _ _ (List.drop 9 _) _ _
        simp only [List.drop_succ_cons, List.drop_zero]
        simp only [e0, e1, e2, e4, e6, e7, e8]
        clear e0 e1 e2 e4 e6 e7 e8
        obtain ⟨z0, z1, f0, f1⟩ := rec_cells b8
        have HAB := Lib.hid (set_two b8 (.int .i64 k) (.slice a7b (K.length + 1) c7b))
        have HAO := Lib.hid (o7.set2 b8 (by decide) 0 1 (.int .i64 k) (.slice a7b (K.length + 1) c7b))
        have HBL := Lib.hid ((hb7k.setCell (p := ⟨g8, 0, none⟩) l8 (.int .i64 k)).setCell (p := ⟨g8, 1, none⟩) l8 (.slice a7b (K.length + 1) c7b))
        clear b8 o7 o6 l8 hb7k
        go_upto_region 26 with fail
        clear z0 z1 f0 f1
        generalize (w7k.setCell ⟨g8, 0, none⟩ (.int .i64 k)).setCell ⟨g8, 1, none⟩ (.slice a7b (K.length + 1) c7b) = wL at *
        have HLX : Hid (∀ W, Below wL.heap.size wL W → (W.cell? ⟨g5, 0, none⟩ = some (.int .i64 k) ∧ W.cell? ⟨g5, 1, none⟩ = some (.slice aR R.length cR)) ∧ (W.cell? ⟨g15, 0, none⟩ = some (.string r.1) ∧ W.cell? ⟨g15, 1, none⟩ = some (.string r.2)) ∧ RulesIn W a8 K ∧ (W.cell? ⟨g8, 0, none⟩ = some (.int .i64 k) ∧ W.cell? ⟨g8, 1, none⟩ = some (.slice a7b (K.length + 1) c7b)) ∧ RulesIn W a7b AL) := Lib.hid (fun W hW => by
          obtain ⟨h1, h2, h3⟩ := HKX.out W (Below.now HBL.out hW)
          have h4 := rec_cells (block_later HAB.out W hW)
          refine ⟨h1, h2, h3, ⟨h4.1, h4.2.1⟩, ?_⟩
          rw [HAK.out]
          have h5 := (HAO.out.later hW).cells
          unfold RulesIn
          rw [ruleCells_app]
          exact h5)
        have HALL : Hid (AL.length = K.length + 1) := Lib.hid (by rw [HAK.out, List.length_append, List.length_singleton])
        have HNA := Lib.hid (fun u W h hu => implNormal_n k AL a7b c7b u W h HAS.out HAL.out hu)
        rw [HALL.out] at HNA
        obtain ⟨⟨y0, y1⟩, _⟩ := HLX.out _ (Below.refl _ _)
        have HRC0 := Lib.hid (Rec2.start 33 39 2 (Below.refl wL.heap.size wL) (.int .i64 k))
        clear HAB HAO
        go_wp2_with fail
        generalize hg12 : wL.heap.size = g12 at *
        have HGE : Hid (∀ W, Below wL.heap.size wL W → Below g12 wL W) := Lib.hid (fun W h => by rw [← hg12]; exact h)
        clear hg12
        go_loopw [132] (fun vi wr => ∃ (i : Nat) (vN : Value), i ≤ K.length ∧ vi = .int .i64 (i : Nat) ∧ Hid (Rec2 33 39 2 wL wr g12 (.int .i64 k) vN (mapG (nfC AL) (K.take i)).length (ruleCells (mapG (nfC AL) (K.take i))))) (fun vi _ => K.length - (intOf vi).toNat)
        case atStart => exact ⟨0, _, Nat.zero_le _, rfl, HRC0⟩
        case round =>
          clear y0 y1 HRC0
          obtain ⟨i, vN, hi, rfl, HRC⟩ := hrel
          obtain ⟨aN, cN, rfl⟩ := owns_form HRC.out.own
          by_cases hlt : i < K.length
          -- B1
          · obtain ⟨b, off, rfl, hbb, k0, k1⟩ := rule_at (HLX.out wr (HGE.out _ HRC.out.below)).2.2.1 (Below.refl _ _) hlt
            have HKJ := Lib.hid (HKO.out i hlt)
            have HTK := Lib.hid (mapG_take (f := nfC AL) (K := K) hlt)
            have hml := mapG_len (nfC AL) (K.take i)
            have hGl : (mapG (nfC AL) (K.take i)).length ≤ 12 := by rw [hml, List.length_take]; have := HKL.out; omega
            have hK12 := HKL.out
            clear hml
            generalize hX : nthR K i = X at *
            clear hX
            obtain ⟨l, q2⟩ := X
            simp only at k0 k1
            generalize mapG (nfC AL) (K.take i) = M at *
            have HR5 := Lib.hid (HRC.out.later (alloc_belowS wr (.cells #[.string l, .string q2] 39)))
            have HBX := Lib.hid (alloc_at wr (.cells #[.string l, .string q2] 39))
            clear HRC
            go_upto_region 30 with fail
            clear k0 k1
            generalize wr.alloc (.cells #[.string l, .string q2] 39) = w5c at *
            generalize wr.heap.size = g10 at *
            refine region_tail 10 (fun W => Below w5c.heap.size w5c W) (fun W W2 => Below W.heap.size W W2) (fun u => by simp only [List.take_succ_cons, List.take_zero, fPut, Act.put, List.setIfInBounds_toArray, List.set_cons_succ, List.set_cons_zero, Nat.zero_add, Nat.reduceAdd]; rfl) (by kernel_rfl) (by kernel_rfl) (by kernel_rfl) (by kernel_rfl) (by kernel_rfl) (by kernel_rfl) (by kernel_rfl) (Below.drew (Below.refl _ _)) ?_
            conv => arg 7; simp only [List.take_succ_cons, List.take_zero]
            apply each_read (fun _ => Below.refl _ _) rfl
            · intro u wv hC hf
              have y1 := (HR5.out.later hC).facts.2.1
              obtain ⟨_, _, _, ⟨z0, z1⟩, hAL⟩ := HLX.out _ (HGE.out _ (HR5.out.later hC).below)
              obtain ⟨m0, m1, _, _⟩ := rec_cells (block_later HBX.out _ hC)
              clear hf
              go_simp
              try rfl
            apply each_read (fun _ => Below.refl _ _) rfl
            · intro u wv hC hf
              have y1 := (HR5.out.later hC).facts.2.1
              obtain ⟨_, _, _, ⟨z0, z1⟩, hAL⟩ := HLX.out _ (HGE.out _ (HR5.out.later hC).below)
              obtain ⟨m0, m1, _, _⟩ := rec_cells (block_later HBX.out _ hC)
              obtain ⟨d0_0, -⟩ := hf
              have e0 : u 0 = _ := d0_0 rfl
              clear d0_0
              go_simp
              try rfl
            conv => arg 8; simp only [List.cons_append, List.nil_append]
            apply each_read (fun _ => Below.refl _ _) rfl
            · intro u wv hC hf
              have y1 := (HR5.out.later hC).facts.2.1
              obtain ⟨_, _, _, ⟨z0, z1⟩, hAL⟩ := HLX.out _ (HGE.out _ (HR5.out.later hC).below)
              obtain ⟨m0, m1, _, _⟩ := rec_cells (block_later HBX.out _ hC)
              clear hf
              go_simp
              try rfl
            conv => arg 8; simp only [List.cons_append, List.nil_append]
            apply each_read (fun _ => Below.refl _ _) rfl
            · intro u wv hC hf
              have y1 := (HR5.out.later hC).facts.2.1
              obtain ⟨_, _, _, ⟨z0, z1⟩, hAL⟩ := HLX.out _ (HGE.out _ (HR5.out.later hC).below)
              obtain ⟨m0, m1, _, _⟩ := rec_cells (block_later HBX.out _ hC)
              obtain ⟨d2_0, -⟩ := hf
              have e2 : u 2 = _ := d2_0 rfl
              clear d2_0
              go_simp
              try rfl
            conv => arg 8; simp only [List.cons_append, List.nil_append]
            apply each_read (fun _ => Below.refl _ _) rfl
            · intro u wv hC hf
              have y1 := (HR5.out.later hC).facts.2.1
              obtain ⟨_, _, _, ⟨z0, z1⟩, hAL⟩ := HLX.out _ (HGE.out _ (HR5.out.later hC).below)
              obtain ⟨m0, m1, _, _⟩ := rec_cells (block_later HBX.out _ hC)
              clear hf
              go_simp
              try rfl
            conv => arg 8; simp only [List.cons_append, List.nil_append]
            apply each_read (fun _ => Below.refl _ _) rfl
            · intro u wv hC hf
              have y1 := (HR5.out.later hC).facts.2.1
              obtain ⟨_, _, _, ⟨z0, z1⟩, hAL⟩ := HLX.out _ (HGE.out _ (HR5.out.later hC).below)
              obtain ⟨m0, m1, _, _⟩ := rec_cells (block_later HBX.out _ hC)
              clear hf
              go_simp
              try rfl
            conv => arg 8; simp only [List.cons_append, List.nil_append]
            apply each_read (fun _ => Below.refl _ _) rfl
            · intro u wv hC hf
              have y1 := (HR5.out.later hC).facts.2.1
              obtain ⟨_, _, _, ⟨z0, z1⟩, hAL⟩ := HLX.out _ (HGE.out _ (HR5.out.later hC).below)
              obtain ⟨m0, m1, _, _⟩ := rec_cells (block_later HBX.out _ hC)
              obtain ⟨d5_0, -⟩ := hf
              have e5 : u 5 = _ := d5_0 rfl
              clear d5_0
              go_simp
              try rfl
            conv => arg 8; simp only [List.cons_append, List.nil_append]
            apply each_callR rfl
            · intro u wv hC hf
              have y1 := (HR5.out.later hC).facts.2.1
              obtain ⟨_, _, _, ⟨z0, z1⟩, hAL⟩ := HLX.out _ (HGE.out _ (HR5.out.later hC).below)
              obtain ⟨m0, m1, _, _⟩ := rec_cells (block_later HBX.out _ hC)
              obtain ⟨d4_0, d6_1, -⟩ := hf
              have e4 : u 4 = _ := d4_0 rfl
              clear d4_0
              have e6 : u 6 = _ := d6_1 rfl
              clear d6_1
              apply Exists.intro; apply Exists.intro; apply And.intro
              · go_simp; exact ⟨rfl, rfl⟩
              · refine (HNA.out q2 _ hAL HKJ.out).mono ?_
                rintro e w4 ⟨rfl, hb⟩
                exact ⟨rfl, Below.now hC hb, hb⟩
            conv => arg 8; simp only [List.cons_append, List.nil_append]
            apply each_read (fun _ => Below.refl _ _) rfl
            · intro u wv hC hf
              have y1 := (HR5.out.later hC).facts.2.1
              obtain ⟨_, _, _, ⟨z0, z1⟩, hAL⟩ := HLX.out _ (HGE.out _ (HR5.out.later hC).below)
              obtain ⟨m0, m1, _, _⟩ := rec_cells (block_later HBX.out _ hC)
              obtain ⟨d3_0, d7_1, -⟩ := hf
              have e3 : u 3 = _ := d3_0 rfl
              clear d3_0
              have e7 : u 7 = _ := d7_1 rfl
              clear d7_1
              go_simp
              try rfl
            conv => arg 8; simp only [List.cons_append, List.nil_append]
            refine each_do (fun v wv => ∃ g7, v = .slice (some ⟨g7, 0, none⟩) 1 1 ∧ wv.heap[g7]? = some (.cells #[.string l, .string (nfC AL q2)] 39 (0, 0))) (fun v w w2 _ hR ⟨g, h1, h2⟩ => ⟨g, h1, block_later h2 _ hR⟩) rfl ?_ ?_
            · intro u wv hC hf
              have y1 := (HR5.out.later hC).facts.2.1
              obtain ⟨_, _, _, ⟨z0, z1⟩, hAL⟩ := HLX.out _ (HGE.out _ (HR5.out.later hC).below)
              obtain ⟨m0, m1, _, _⟩ := rec_cells (block_later HBX.out _ hC)
              obtain ⟨d8_0, -⟩ := hf
              have e8 : u 8 = _ := d8_0 rfl
              clear d8_0
              refine ⟨.slice (some ⟨wv.heap.size, 0, none⟩) 1 1, wv.alloc (.cells #[.string l, .string (nfC AL q2)] 39), ?_, Below.alloc hC hC.size _, alloc_belowS _ _, wv.heap.size, rfl, alloc_at wv _⟩
              go_simp
              try rfl
            intro u w7c hb7c hall
            obtain ⟨a0, a1, a2, a3, a4, a5, a6, a7, a8, a9, -⟩ := hall
            have e0 : u 0 = _ := a0
            clear a0
            have e1 : u 1 = _ := a1
            clear a1
            have e2 : u 2 = _ := a2
            clear a2
            have e3 : u 3 = _ := a3
            clear a3
            have e4 : u 4 = _ := a4
            clear a4
            have e5 : u 5 = _ := a5
            clear a5
            have e6 : u 6 = _ := a6
            clear a6
            have e7 : u 7 = _ := a7
            clear a7
            have e8 : u 8 = _ := a8
            clear a8
            obtain ⟨g9, e9, b9⟩ := a9
            replace e9 : u 9 = _ := e9
            change wpList _ _ _ (List.drop 10 _) _ _
            simp only [List.drop_succ_cons, List.drop_zero]
            simp only [e0, e1, e2, e3, e4, e5, e6, e7, e8, e9]
            clear e0 e1 e2 e3 e4 e5 e6 e7 e8 e9
            have HR7 := Lib.hid (HR5.out.later hb7c)
            obtain ⟨r13, s13, _, _⟩ := rec_cells b9
            refine wpList_appB rfl (.tmp 137) (.tmp 145) rfl Tryz.underlying25 Tryz.infoRule rfl (by decide) rfl HR7.out.own HR7.out.lt rfl (m := 1) (news := [.string l, .string (nfC AL q2)]) (fun j u hu => by
              match j, hu with
              | 0, hu =>
                obtain rfl := Option.some.inj hu
                rw [add_off]
                exact r13
              | 1, hu =>
                obtain rfl := Option.some.inj hu
                rw [add_off]
                exact s13
              | j + 2, hu => cases hu) rfl (by decide) (fun u hu => by simp at hu; rcases hu with rfl | rfl <;> rfl) (by unfold maxLen; omega) (by omega) ?_
            intro g4 c4 w9 hn9 hg9 _
            obtain ⟨hbk, hput⟩ := HR7.out.putT hg9 hn9
            have HP9 : Hid (Rec2 33 39 2 wL (w9.setCell ⟨g12, 1, none⟩ (.slice (some ⟨g4, 0, none⟩) (M.length + 1) c4)) g12 (.int .i64 k) (.slice (some ⟨g4, 0, none⟩) (M.length + 1) c4) (mapG (nfC AL) (K.take (i + 1))).length (ruleCells (mapG (nfC AL) (K.take (i + 1))))) := Lib.hid (by
              rw [HTK.out, List.length_append, ruleCells_one1]
              exact hput)
            obtain ⟨q0, q1, f0, f1⟩ := rec_cells hbk
            clear hbk hput hn9 hg9 r13 s13 b9 hb7c
            go_wp2_with fail
            go_roundw
            case rel => exact ⟨i + 1, _, by omega, by go_num, HP9⟩
            case measure => simp [intOf]; omega
          -- B2
          · obtain rfl : i = K.length := by omega
            have hfull : mapG (nfC AL) (K.take K.length) = mapG (nfC AL) K := by rw [List.take_length]
            rw [hfull] at HRC
            have HML := Lib.hid (mapG_len (nfC AL) K)
            have HNX2 : Hid (nextF R r = mapG (nfC AL) K ++ [r]) := HNX
            clear hfull hlt hi HNX
            generalize mapG (nfC AL) K = M at *
            have hGl : M.length ≤ 12 := by have := HML.out; have := HKL.out; omega
            obtain ⟨_, y1, _, y3⟩ := HRC.out.facts
            obtain ⟨_, ⟨x0, x1⟩, _⟩ := HLX.out _ (HGE.out _ HRC.out.below)
            have HN1b : Hid ([Value.string r.1, .string r.2].length = 2) := Lib.hid rfl
            have HN2b : Hid (∀ v ∈ [Value.string r.1, .string r.2], v.oneCell' = true) := Lib.hid (fun v hv => by simp at hv; rcases hv with rfl | rfl <;> rfl)
            go_upto_region 33 with (at_builtin; refine wpList_appH rfl (.tmp 150) (.tmp 152) rfl Tryz.underlying25 Tryz.infoRule rfl (by decide) rfl HRC.out.own HRC.out.lt rfl HN1b.out HN2b.out (by unfold maxLen; omega) (by omega) ?_; intro g4 c4 w4 ho4 hg4 hr4; have HR4 := Lib.hid (HRC.out.put (Below.refl _ _) hg4 ho4); obtain ⟨_, u1, _, u3⟩ := rec_cells (HRC.out.grown (Below.refl _ _) hg4); clear ho4 hg4 hr4 y1 y3 x0 x1)
            generalize w4.setCell ⟨g12, 1, none⟩ (.slice (some ⟨g4, 0, none⟩) (M.length + 1) c4) = wM at *
            clear u1 u3 HRC
            have HBM0 : Hid (Below wK.heap.size wK wM) := Lib.hid (Below.now HBL.out HR4.out.below)
            have HKM := Lib.hid (HKB.out _ HBM0.out)
            have HNLEN : Hid ((nextF R r).length = M.length + 1) := Lib.hid (by rw [HNX2.out, List.length_append, List.length_singleton])
            obtain ⟨z0, z1, _, _⟩ := HR4.out.facts
            by_cases h12 : 12 < (nextF R r).length
            · have HTFH := Lib.hid (HTE3.out.trans (if_pos h12))
              have h12i : (12 : Int) < (M.length : Int) + 1 := by rw [HNLEN.out] at h12; omega
              have HBM := Lib.hid HKM.out.1
              have HOM := Lib.hid HKM.out.2.1
              clear h12
              have hzr := HZ.out _ HBM.out
              have hgs : w.heap.size + 1 < w1.heap.size := by have := HSZ.out; omega
              obtain ⟨⟨f0, f1, f2, f3⟩, ⟨u0, u1, u2, u3⟩, _⟩ := four_sets hzr (.int .i64 k) (.slice a13 R.length c13) (.slice b13 Q.length d13) (.int .i64 ((T : Nat) : Int))
              obtain ⟨⟨q0, q1, q2, q3⟩, _⟩ := four_cells hzr
              obtain ⟨⟨y0, y1, y2, y3⟩, ff⟩ := four_cells HOM.out.blk
              have F : Hid (RetWI k (turnF R Q T) w (.returned (.tuple #[workVal k a13 R.length c13 b13 Q.length d13 (T), .int .i64 ((2 : Nat) : Int)])) (set4 wM (w.heap.size + 1) (.int .i64 k) (.slice a13 R.length c13) (.slice b13 Q.length d13) (.int .i64 ((T : Nat) : Int)))) := Lib.hid (by
                rw [HTFH.out]
                exact ⟨a13, c13, b13, d13, rfl, offRules (set4_owns HOM.out.rules hgs _ _ _ _), offRules (set4_owns HOM.out.queue hgs _ _ _ _), HOM.out.queue.cap, set4_below (Below.now HB0.out HBM.out) (by omega) _ _ _ _⟩)
              unfold workVal at F
              unfold set4 at F u0 u1 u2 u3
              clear hzr
              go_wp2_with fail
              refine bodyPost_ret (v := .tuple #[.agg #[.int .i64 k, .slice a13 R.length c13, .slice b13 Q.length d13, .int .i64 ((T : Nat) : Int)], .int .i64 2]) ?_ rfl F.out
              simp [results, Tryz.results83, go_sem, u0, u1, u2, u3]
            have HTE4 := Lib.hid (HTE3.out.trans (if_neg h12))
            have h12i : ¬ (12 : Int) < (M.length : Int) + 1 := by rw [HNLEN.out] at h12; omega
            have HSN := Lib.hid (nextF_sys HWK.out.sys HRN.out h12)
            have HRT : Hid (ruleCells (nextF R r) = ruleCells M ++ [.string r.1, .string r.2]) := Lib.hid (by rw [HNX2.out, ruleCells_app]; rfl)
            have HR5 : Hid (Rec2 33 39 2 wL wM g12 (.int .i64 k) (.slice (some ⟨g4, 0, none⟩) (M.length + 1) c4) (M.length + 1) (ruleCells (nextF R r))) := Lib.hid (by rw [HRT.out]; exact HR4.out)
            clear h12 HTE3 HNX2 HR4 HRT
            generalize nextF R r = N at *
            have HPF := Lib.hid (fun W h => implPairs_any k N (some ⟨g4, 0, none⟩) c4 W h HSN.out)
            rw [HNLEN.out] at HPF
            have HPN := Lib.hid (owns_rules HR5.out.own)
            have hN0 : (N.length : Int) - 1 = (M.length : Int) := by rw [HNLEN.out]; omega
            have HLP := Lib.hid (fun u x y i => lastP_int (N := N) (by rw [HNLEN.out]; omega) x y u i)
            rw [hN0] at HLP
            clear hN0
            go_upto_region 36 with fail
            generalize ((M.length : Nat) : Int) = mI at *
            go_wp2_with fail
            refine (HPF.out _ HPN.out).mono ?_
            rintro e wC ⟨a2, c2, rfl, hoP, hbC⟩
            have HOP := Lib.hid hoP
            have HSZ2 : (pairsF N).length ≤ 2496 := by
              have h := pairTo_len (left8 HSN.out) HSN.out.1.1.2 (i := N.length) (j := 0) HSN.out.1.1.2 (by omega)
              rw [pairTo_done] at h
              exact h
            have HMC := Lib.hid (Below.now HBM0.out hbC)
            have HOW : Hid (∀ b, (Value.slice a6 G.length c6).ownBlock = some b → b < wK.heap.size) := Lib.hid (fun b hb => (HQK.out.lt b hb).2)
            have HR6 := Lib.hid (HR5.out.later hbC)
            have HGLT : Hid (wK.heap.size ≤ wL.heap.size ∧ wK.heap.size ≤ wM.heap.size ∧ w1.heap.size ≤ wK.heap.size) := Lib.hid ⟨HBL.out.size, HBM0.out.size, (HKB.out _ (Below.refl _ _)).1.size⟩
            have HLC0 : Hid (LoopC wC wC w1.heap.size (Value.slice a6 G.length c6).ownBlock (.slice a6 G.length c6) (qC G N ((pairsF N).take 0))) := Lib.hid ⟨⟨rfl, rfl, rfl, Nat.le_refl _, fun _ _ _ => rfl⟩, by show ownsOff wC _ _ _ _ (G ++ []).length (ruleCells (G ++ [])); rw [List.append_nil]; exact HQK.out.later HMC.out, fun b hb => .inl hb⟩
            have HFR : Hid (∀ W, wC.grownBy W (Value.slice a6 G.length c6).ownBlock → (W.cell? ⟨g12, 0, none⟩ = some (.int .i64 k) ∧ W.cell? ⟨g12, 1, none⟩ = some (.slice (some ⟨g4, 0, none⟩) (M.length + 1) c4)) ∧ ownsOff W (g12 + 1) 39 2 (.slice (some ⟨g4, 0, none⟩) (M.length + 1) c4) (M.length + 1) (ruleCells N) ∧ RowsIn prV W a2 (pairsF N) ∧ wD.grownBy W oV) := Lib.hid (fun W hW => by
              have h0 := HGLT.out
              have h00 := HR6.out.le
              have hb := (hW.block g12 (Array.getElem?_eq_some_iff.1 HR6.out.blk).1 (fun e => by have := HOW.out g12 e.symm; omega)).trans HR6.out.blk
              have h := rec_cells hb
              exact ⟨⟨h.1, h.2.1⟩, ownsOff.of_row (HR6.out.own.kept hW (far_of fun b hb e => by have h1 := HOW.out b hb; have h2 := (HR6.out.own.lt b e).1; omega)), owns_rows (HOP.out.kept hW (far_of fun b hb e => by have h1 := HOW.out b hb; have h2 := (HOP.out.lt b e).1; omega)), gstep HGR.out (gstep (grown_below HMC.out _) hW (fun k e => .inl e)) HOV.out⟩)
            have HAP : Hid (∀ j (h : j < (pairsF N).length) W, RulesIn W (some ⟨g4, 0, none⟩) N →
                (Calls Tryz.prog 89 #[.agg #[.int .i64 k, .slice (some ⟨g4, 0, none⟩) (M.length + 1) c4], .string (pairsF N)[j].1, .agg #[.int .i64 ((pairsF N)[j].2.1 : Nat), .int .i64 0]] W fun e w' => e = .returned (.tuple #[.string (leftP N (pairsF N)[j]), .bool true]) ∧ Below W.heap.size W w') ∧
                (Calls Tryz.prog 89 #[.agg #[.int .i64 k, .slice (some ⟨g4, 0, none⟩) (M.length + 1) c4], .string (pairsF N)[j].1, .agg #[.int .i64 ((pairsF N)[j].2.2.1 : Nat), .int .i64 ((pairsF N)[j].2.2.2 : Nat)]] W fun e w' => e = .returned (.tuple #[.string (rightP N (pairsF N)[j]), .bool true]) ∧ Below W.heap.size W w')) := Lib.hid (fun j h W hW => by
              have hok := pairOk HSN.out (List.getElem_mem h)
              have hz := (wordOk_iff.1 hok.word).2.1
              have h1 := implApply_any k N (some ⟨g4, 0, none⟩) c4 _ _ 0 W hW HSN.out hz hok.one
              have h2 := implApply_any k N (some ⟨g4, 0, none⟩) c4 _ _ _ W hW HSN.out hz hok.two
              rw [HNLEN.out] at h1 h2
              exact ⟨h1, h2⟩)
            have HQFU := Lib.hid (qC_full G N)
            clear z0 z1 hoP hbC HPF HPN HR5 HOP HMC HQK HOW
            generalize pairsF N = S at *
            generalize (Value.slice a6 G.length c6).ownBlock = o6 at *
            go_wp2_with fail
            go_loopw [6, 167] (fun v6 vj wr => ∃ j : Nat, j ≤ S.length ∧ vj = .int .i64 (j : Nat) ∧ Hid (LoopC wC wr w1.heap.size o6 v6 (qC G N (S.take j)))) (fun _ vj _ => S.length - (intOf vj).toNat)
            case atStart => exact ⟨0, Nat.zero_le _, rfl, HLC0⟩
            case round =>
              clear HLC0
              obtain ⟨j, hj, rfl, HLC⟩ := hrel
              obtain ⟨a6x, c6x, rfl⟩ := HLC.out.qu.form
              have hqN : (qC G N (S.take j)).length ≤ 2908 := by
                have h1 := qC_len G N (S.take j)
                have h2 : (S.take j).length ≤ S.length := List.length_take_le' _ _
                have h3 := HGL.out
                omega
              by_cases hlt : j < S.length
              -- C1
              · obtain ⟨b2, off2, rfl, hb2, hcs⟩ := RowsIn.cell prV_len (by omega) (HFR.out _ HLC.out.gr).2.2.1 hlt
                have c0 : wr.cell? ⟨b2, off2 + j * 5, none⟩ = some (.string S[j].1) := hcs j hlt 0 _ rfl
                have c1 : wr.cell? ⟨b2, off2 + j * 5 + 1, none⟩ = some (.int .i64 (S[j].2.1 : Nat)) := hcs j hlt 1 _ rfl
                have c2x : wr.cell? ⟨b2, off2 + j * 5 + 2, none⟩ = some (.int .i64 0) := hcs j hlt 2 _ rfl
                have c3 : wr.cell? ⟨b2, off2 + j * 5 + 3, none⟩ = some (.int .i64 (S[j].2.2.1 : Nat)) := hcs j hlt 3 _ rfl
                have c4x : wr.cell? ⟨b2, off2 + j * 5 + 4, none⟩ = some (.int .i64 (S[j].2.2.2 : Nat)) := hcs j hlt 4 _ rfl
                have HYES := Lib.hid (fun h => qC_yes (G := G) (N := N) hlt h)
                have HNOO := Lib.hid (fun h => qC_no (G := G) (N := N) hlt h)
                have HAJ := Lib.hid (HAP.out j hlt)
                clear hcs
                generalize S[j] = p at *
                obtain ⟨u, x, y, z⟩ := p
                have HLX3 := Lib.hid (HLP.out u x y z)
                generalize leftP N (u, x, y, z) = lp at *
                generalize rightP N (u, x, y, z) = rp at *
                simp only at c0 c1 c2x c3 c4x
                have HL5 := Lib.hid (HLC.out.later (alloc_belowS wr (.cells #[.string u, .int .i64 (x : Nat), .int .i64 0, .int .i64 (y : Nat), .int .i64 (z : Nat)] 122)))
                have HBX := Lib.hid (alloc_at wr (.cells #[.string u, .int .i64 (x : Nat), .int .i64 0, .int .i64 (y : Nat), .int .i64 (z : Nat)] 122))
                clear HLC
                go_upto_region 39 with fail
                clear c0 c1 c2x c3 c4x
                generalize wr.alloc (.cells #[.string u, .int .i64 (x : Nat), .int .i64 0, .int .i64 (y : Nat), .int .i64 (z : Nat)] 122) = w5c at *
                generalize wr.heap.size = g10 at *
                obtain ⟨m0, m1, m2, m3, m4⟩ := five_cells HBX.out
                obtain ⟨⟨z0, z1⟩, hrN, _, _⟩ := HFR.out _ HL5.out.gr
                have HRN5 := Lib.hid (hrN.cells)
                clear hrN
                cases hlast : lastP N (u, x, y, z)
                · have hx1 : ((x : Int) == mI) = false := by have h := HLX3.out; rw [hlast] at h; exact (Bool.or_eq_false_iff.1 h.symm).1
                  have hx2 : ((y : Int) == mI) = false := by have h := HLX3.out; rw [hlast] at h; exact (Bool.or_eq_false_iff.1 h.symm).2
                  have hx1n : ¬ (x : Int) = mI := by rw [beq_eq_false_iff_ne] at hx1; exact hx1
                  have hx2n : ¬ (y : Int) = mI := by rw [beq_eq_false_iff_ne] at hx2; exact hx2
                  have hx1b : ((x : Int) != mI) = true := bne_iff_ne.2 hx1n
                  have hx2b : ((y : Int) != mI) = true := bne_iff_ne.2 hx2n
                  have HNY := Lib.hid (HNOO.out hlast)
                  have HF : Hid (LoopC wC w5c w1.heap.size o6 (.slice a6x (qC G N (S.take j)).length c6x) (qC G N (S.take (j + 1)))) := Lib.hid (by rw [HNY.out]; exact HL5.out)
                  clear hlast HNY HYES HNOO HLX3
                  go_wp2_with fail
                  go_roundw
                  case rel => exact ⟨j + 1, by omega, by go_num, HF⟩
                  case measure => simp [intOf]; omega
                · have HNY := Lib.hid (HYES.out hlast)
                  have hor : ((x : Int) == mI) = true ∨ (((x : Int) == mI) = false ∧ ((y : Int) == mI) = true) := by
                    have h := HLX3.out
                    rw [hlast] at h
                    cases h1 : ((x : Int) == mI)
                    · rw [h1] at h; exact .inr ⟨rfl, by simpa using h.symm⟩
                    · exact .inl rfl
                  clear hlast HYES HNOO HLX3
                  generalize qC G N (S.take j) = X at *
                  clear HLP
                  have hor2 : (x : Int) = mI ∨ ((¬ (x : Int) = mI) ∧ (y : Int) = mI) := by
                    rcases hor with h1 | ⟨h1, h2⟩
                    · exact .inl (eq_of_beq h1)
                    · exact .inr ⟨by rw [beq_eq_false_iff_ne] at h1; exact h1, eq_of_beq h2⟩
                  clear hor
                  rcases hor2 with hx1 | ⟨hx1, hx2⟩
                  · subst hx1
                    go_wp2_with fail
                    refine (HAJ.out _ HRN5.out).1.mono ?_
                    rintro e w5d ⟨rfl, hb5⟩
                    have HL6 := Lib.hid (HL5.out.later hb5)
                    have HBX6 := Lib.hid (block_later HBX.out _ hb5)
                    clear m0 m1 m2 m3 m4 z0 z1 hb5
                    obtain ⟨m0, m1, m2, m3, m4⟩ := five_cells HBX6.out
                    obtain ⟨⟨z0, z1⟩, hrN, _, _⟩ := HFR.out _ HL6.out.gr
                    have HRN6 := Lib.hid (hrN.cells)
                    clear hrN
                    go_wp2_with fail
                    refine (HAJ.out _ HRN6.out).2.mono ?_
                    rintro e w6c ⟨rfl, hb6⟩
                    have HL7 := Lib.hid (HL6.out.later (Below.now hb6 (alloc_belowS w6c (.cells #[.string lp, .string rp] 39))))
                    have HSB := Lib.hid (src_box (P := Tryz.prog) Tryz.underlying25 (alloc_at w6c (.cells #[.string lp, .string rp] 39)) 1)
                    have HBS : Hid (w1.heap.size ≤ (w6c.alloc (.cells #[.string lp, .string rp] 39)).heap.size) := Lib.hid (HK.out _ (HFR.out _ HL7.out.gr).2.2.2).1.size
                    clear m0 m1 m2 m3 m4 z0 z1 hb6
                    go_wp2_with (at_builtin; refine wpList_append_off2 rfl (.tmp 201) (.tmp 205) (by rfl) Tryz.underlying25 Tryz.infoRule rfl (by decide) (by rfl) HL7.out.qu HBS.out (by rfl) HSB.out (by unfold maxLen; omega) (by omega) ?_; intro v2 w2 ho hg hw; have HL2 := Lib.hid (HL7.out.put (M := [(lp, rp)]) ho hg hw); obtain ⟨a9, c9, rfl⟩ := ho.form; clear ho hg hw)
                    have HF : Hid (LoopC wC w2 w1.heap.size o6 (.slice a9 (X.length + 1) c9) (qC G N (S.take (j + 1)))) := Lib.hid (by rw [HNY.out]; exact HL2.out)
                    go_wp2_with fail
                    go_roundw
                    case rel => exact ⟨j + 1, by omega, by go_num, HF⟩
                    case measure => simp [intOf]; omega
                  · subst hx2
                    have hx3 : ¬ x = y := fun e => hx1 (by rw [e])
                    have hx4 : ((x : Int) != (y : Int)) = true := bne_iff_ne.2 hx1
                    go_wp2_with fail
                    refine (HAJ.out _ HRN5.out).1.mono ?_
                    rintro e w5d ⟨rfl, hb5⟩
                    have HL6 := Lib.hid (HL5.out.later hb5)
                    have HBX6 := Lib.hid (block_later HBX.out _ hb5)
                    clear m0 m1 m2 m3 m4 z0 z1 hb5
                    obtain ⟨m0, m1, m2, m3, m4⟩ := five_cells HBX6.out
                    obtain ⟨⟨z0, z1⟩, hrN, _, _⟩ := HFR.out _ HL6.out.gr
                    have HRN6 := Lib.hid (hrN.cells)
                    clear hrN
                    go_wp2_with fail
                    refine (HAJ.out _ HRN6.out).2.mono ?_
                    rintro e w6c ⟨rfl, hb6⟩
                    have HL7 := Lib.hid (HL6.out.later (Below.now hb6 (alloc_belowS w6c (.cells #[.string lp, .string rp] 39))))
                    have HSB := Lib.hid (src_box (P := Tryz.prog) Tryz.underlying25 (alloc_at w6c (.cells #[.string lp, .string rp] 39)) 1)
                    have HBS : Hid (w1.heap.size ≤ (w6c.alloc (.cells #[.string lp, .string rp] 39)).heap.size) := Lib.hid (HK.out _ (HFR.out _ HL7.out.gr).2.2.2).1.size
                    clear m0 m1 m2 m3 m4 z0 z1 hb6
                    go_wp2_with (at_builtin; refine wpList_append_off2 rfl (.tmp 201) (.tmp 205) (by rfl) Tryz.underlying25 Tryz.infoRule rfl (by decide) (by rfl) HL7.out.qu HBS.out (by rfl) HSB.out (by unfold maxLen; omega) (by omega) ?_; intro v2 w2 ho hg hw; have HL2 := Lib.hid (HL7.out.put (M := [(lp, rp)]) ho hg hw); obtain ⟨a9, c9, rfl⟩ := ho.form; clear ho hg hw)
                    have HF : Hid (LoopC wC w2 w1.heap.size o6 (.slice a9 (X.length + 1) c9) (qC G N (S.take (j + 1)))) := Lib.hid (by rw [HNY.out]; exact HL2.out)
                    go_wp2_with fail
                    go_roundw
                    case rel => exact ⟨j + 1, by omega, by go_num, HF⟩
                    case measure => simp [intOf]; omega
              -- C2
              · obtain rfl : j = S.length := by omega
                rw [HQFU.out] at HLC hqN ⊢
                generalize G ++ newQ N = GG at *
                obtain ⟨⟨z0, z1⟩, hrN, _, hgw⟩ := HFR.out _ HLC.out.gr
                have HKE := Lib.hid (HK.out _ hgw)
                have HNO := Lib.hid hrN
                have HBr := Lib.hid HKE.out.1
                clear hrN hgw hlt hj
                by_cases h4 : 400 < GG.length
                · have HTFH := Lib.hid (HTE4.out.trans (if_pos h4))
                  have h4i : (400 : Int) < (GG.length : Int) := by omega
                  have HOr := Lib.hid HKE.out.2.1
                  clear h4 z0 z1
                  have hzr := HZ.out _ HBr.out
                  have hgs : w.heap.size + 1 < w1.heap.size := by have := HSZ.out; omega
                  obtain ⟨⟨f0, f1, f2, f3⟩, ⟨u0, u1, u2, u3⟩, _⟩ := four_sets hzr (.int .i64 k) (.slice a13 R.length c13) (.slice b13 Q.length d13) (.int .i64 ((T : Nat) : Int))
                  obtain ⟨⟨q0, q1, q2, q3⟩, _⟩ := four_cells hzr
                  obtain ⟨⟨y0, y1, y2, y3⟩, ff⟩ := four_cells HOr.out.blk
                  have F : Hid (RetWI k (turnF R Q T) w (.returned (.tuple #[workVal k a13 R.length c13 b13 Q.length d13 (T), .int .i64 ((2 : Nat) : Int)])) (set4 wr (w.heap.size + 1) (.int .i64 k) (.slice a13 R.length c13) (.slice b13 Q.length d13) (.int .i64 ((T : Nat) : Int)))) := Lib.hid (by
                    rw [HTFH.out]
                    exact ⟨a13, c13, b13, d13, rfl, offRules (set4_owns HOr.out.rules hgs _ _ _ _), offRules (set4_owns HOr.out.queue hgs _ _ _ _), HOr.out.queue.cap, set4_below (Below.now HB0.out HBr.out) (by omega) _ _ _ _⟩)
                  unfold workVal at F
                  unfold set4 at F u0 u1 u2 u3
                  clear hzr
                  go_wp2_with fail
                  refine bodyPost_ret (v := .tuple #[.agg #[.int .i64 k, .slice a13 R.length c13, .slice b13 Q.length d13, .int .i64 ((T : Nat) : Int)], .int .i64 2]) ?_ rfl F.out
                  simp [results, Tryz.results83, go_sem, u0, u1, u2, u3]
                · have HTFH := Lib.hid (HTE4.out.trans (if_neg h4))
                  have h4i : ¬ (400 : Int) < (GG.length : Int) := by omega
                  have hTw := HTWW.out
                  rw [← HNLEN.out] at z1 HNO
                  obtain ⟨s0, s1, s2, s3⟩ := HX.out _ HBr.out
                  have hzr := HZ.out _ HBr.out
                  have hgs : w.heap.size + 1 < w1.heap.size := by have := HSZ.out; omega
                  have hgs2 : w.heap.size + 1 < g12 + 1 := by have := HSZ.out; have := HGLT.out; have := HR6.out.le; omega
                  obtain ⟨⟨f0, f1, f2, f3⟩, ⟨u0, u1, u2, u3⟩, _⟩ := four_sets hzr (.int .i64 k) (.slice (some ⟨g4, 0, none⟩) N.length c4) (.slice a6x GG.length c6x) (.int .i64 ((T1 : Nat) : Int))
                  obtain ⟨⟨q0, q1, q2, q3⟩, _⟩ := four_cells hzr
                  have F : Hid (RetWI k (turnF R Q T) w (.returned (.tuple #[workVal k (some ⟨g4, 0, none⟩) N.length c4 a6x GG.length c6x T1, .int .i64 ((0 : Nat) : Int)])) (set4 wr (w.heap.size + 1) (.int .i64 k) (.slice (some ⟨g4, 0, none⟩) N.length c4) (.slice a6x GG.length c6x) (.int .i64 ((T1 : Nat) : Int)))) := Lib.hid (by
                    rw [HTFH.out]
                    exact ⟨_, c4, _, c6x, rfl, offRules (set4_owns HNO.out hgs2 _ _ _ _), offRules (set4_owns HLC.out.qu hgs _ _ _ _), HLC.out.qu.cap, set4_below (Below.now HB0.out HBr.out) (by omega) _ _ _ _⟩)
                  unfold workVal at F
                  unfold set4 at F u0 u1 u2 u3
                  clear hzr h4
                  go_wp2_with fail
                  refine bodyPost_ret (v := .tuple #[.agg #[.int .i64 k, .slice (some ⟨g4, 0, none⟩) N.length c4, .slice a6x GG.length c6x, .int .i64 ((T1 : Nat) : Int)], .int .i64 0]) ?_ rfl F.out
                  simp [results, Tryz.results83, go_sem, u0, u1, u2, u3]
  · have HTFH := Lib.hid (HTE.out.trans (if_pos (by have h := beq_iff_eq.1 heq; exact ba_lists (by rw [← Lib.toList_data, ← Lib.toList_data]; exact h))))
    clear HTE HNR
    obtain ⟨s0, s1, s2, s3⟩ := HX.out _ HBB.out
    obtain ⟨⟨y0, y1, y2, y3⟩, ff⟩ := four_cells HOB.out.blk
    go_upto_region 12 with fail
    have HG14 : Hid (w1.heap.size ≤ g14) := Lib.hid HL14.out
    have hne0 : ¬ g14 = w.heap.size := by have := HG14.out; have := HSZ.out; omega
    have hne1 : ¬ w.heap.size = g14 := by omega
    go_region
    have HDW : Hid (Below ((wB.setCell ⟨g14, 2, none⟩ (.slice aV Qt.length cV)).setCell ⟨g14, 3, none⟩ (.int .i64 (T1 : Nat))).heap.size ((wB.setCell ⟨g14, 2, none⟩ (.slice aV Qt.length cV)).setCell ⟨g14, 3, none⟩ (.int .i64 (T1 : Nat))) ((wB.setCell ⟨g14, 2, none⟩ (.slice aV Qt.length cV)).setCell ⟨g14, 3, none⟩ (.int .i64 (T1 : Nat))).drew) := Lib.hid (Below.drew (Below.refl _ _))
    have HOE := Lib.hid ((outTurn (T := T1) HOB.out.blk HOB.out.rules HVW.out).later HDW.out)
    have HBG := Lib.hid (Below.now ((HBB.out.setCell (p := ⟨g14, 2, none⟩) HG14.out (.slice aV Qt.length cV)).setCell (p := ⟨g14, 3, none⟩) HG14.out (.int .i64 (T1 : Nat))) HDW.out)
    clear y0 y1 y2 y3 ff heq q0 q1 s0 s1 s2 s3 hTw HR7 HAB HVW HGB HBB HOB HDW hne0 hne1
    generalize ((wB.setCell ⟨g14, 2, none⟩ (.slice aV Qt.length cV)).setCell ⟨g14, 3, none⟩ (.int .i64 (T1 : Nat))).drew = wG at *
    have hzr := HZ.out _ HBG.out
    have hgs : w.heap.size + 1 < w1.heap.size := by have := HSZ.out; omega
    obtain ⟨⟨f0, f1, f2, f3⟩, ⟨u0, u1, u2, u3⟩, _⟩ := four_sets hzr (.int .i64 k) (.slice a13 R.length c13) (.slice aV Qt.length cV) (.int .i64 ((T1 : Nat) : Int))
    obtain ⟨⟨q0, q1, q2, q3⟩, _⟩ := four_cells hzr
    obtain ⟨⟨y0, y1, y2, y3⟩, ff⟩ := four_cells HOE.out.blk
    have F : Hid (RetWI k (turnF R Q T) w (.returned (.tuple #[workVal k a13 R.length c13 aV Qt.length cV (T1), .int .i64 ((0 : Nat) : Int)])) (set4 wG (w.heap.size + 1) (.int .i64 k) (.slice a13 R.length c13) (.slice aV Qt.length cV) (.int .i64 ((T1 : Nat) : Int)))) := Lib.hid (by
      rw [HTFH.out]
      exact ⟨a13, c13, aV, cV, rfl, offRules (set4_owns HOE.out.rules hgs _ _ _ _), offRules (set4_owns HOE.out.queue hgs _ _ _ _), HOE.out.queue.cap, set4_below (Below.now HB0.out HBG.out) (by omega) _ _ _ _⟩)
    unfold workVal at F
    unfold set4 at F u0 u1 u2 u3
    clear hzr
    go_wp2_with fail
    refine bodyPost_ret (v := .tuple #[.agg #[.int .i64 k, .slice a13 R.length c13, .slice aV Qt.length cV, .int .i64 ((T1 : Nat) : Int)], .int .i64 0]) ?_ rfl F.out
    simp [results, Tryz.results83, go_sem, u0, u1, u2, u3]
end Go.Proofs.YtgoeadgpbidgiaaGreatDoor
