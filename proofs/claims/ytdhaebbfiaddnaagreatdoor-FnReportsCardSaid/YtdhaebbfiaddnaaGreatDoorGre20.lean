/-
  What the reference draws: an ordered system.
-/
import Derived.Test.YtdhaebbfiaddnaaGreatDoorGre11
import Derived.Test.YtdhaebbfiaddnaaGreatDoorGre18
import Derived.Test.YtdhaebbfiaddnaaGreatDoorGre19
import Derived.Test.YtdhaebbfiaddnaaGreatDoorGre14
import Derived.Test.YtdhaebbfiaddnaaGreatDoorGre04
namespace Go.Proofs.YtdhaebbfiaddnaaGreatDoor
open Go.RowKit
set_option linter.unusedVariables false
set_option maxRecDepth 100000 in
set_option maxHeartbeats 1000000 in
theorem specStepsOf_bad (k : Int) (R : List RulD) (a : Option Addr) (cap : Nat) (w0 : ByteArray) (w : World) (hl : RulesIn w a R) (hlen : R.length ≤ 2 ^ 40) (hz : SzR R) (hn : ¬ rulesP k R) :
    Calls Tryz.prog 168 #[.agg #[.int .i64 k, .slice a R.length cap], .string w0] w fun e w' => e = .returned (.slice none 0 0) ∧ Below w.heap.size w w' := by
  have HL := Lib.hid hl
  have HN := Lib.hid hn
  have HRO := Lib.hid (fun W h => specRulesOk_any k R a cap W h hlen hz)
  have HA := Lib.hid (fun o => alloc_belowS w o)
  clear hl hz hn
  go_enter Tryz.func168, Tryz.ntmps168
  go_wp2_with fail
  refine (HRO.out _ (HL.out.later (HA.out _))).mono ?_
  rintro e w1 ⟨bb, hbb, rfl, hb1⟩
  have HW1 := Lib.hid (Below.now (HA.out _) hb1)
  have hbf : bb = false := by
    cases bb with
    | false => rfl
    | true => exact absurd (hbb.1 rfl) HN.out
  subst hbf
  clear hbb hb1
  go_wp2_with fail
  go_ret
  exact ⟨rfl, HW1.out⟩
set_option maxRecDepth 100000 in
set_option maxHeartbeats 1000000 in
theorem specFirstStep_bad (k : Int) (R : List RulD) (a : Option Addr) (cap : Nat) (w0 : ByteArray) (w : World) (hl : RulesIn w a R) (hlen : R.length ≤ 2 ^ 40) (hz : SzR R) (hn : ¬ rulesP k R) :
    Calls Tryz.prog 160 #[.agg #[.int .i64 k, .slice a R.length cap], .string w0] w fun e w' => e = .returned (.tuple #[.agg #[.int .i64 0, .int .i64 0], .bool false]) ∧ Below w.heap.size w w' := by
  have HL := Lib.hid hl
  have HSO := Lib.hid (fun W h => specStepsOf_bad k R a cap w0 W h hlen hz hn)
  have HA2 := Lib.hid (fun o o2 => Below.now (alloc_belowS w o) (alloc_belowS (w.alloc o) o2))
  have e1 : (w.alloc (.cells #[.int .i64 k, .slice a R.length cap] 25)).heap.size = w.heap.size + 1 := by simp
  have HBX := Lib.hid (fun W2 (h : Below ((w.alloc (.cells #[.int .i64 k, .slice a R.length cap] 25)).alloc (.cells #[.int .i64 0, .int .i64 0] 30)).heap.size ((w.alloc (.cells #[.int .i64 k, .slice a R.length cap] 25)).alloc (.cells #[.int .i64 0, .int .i64 0] 30)) W2) => box_facts h)
  rw [e1] at HBX
  clear hl hz hn e1
  go_enter Tryz.func160, Tryz.ntmps160
  go_wp2_with fail
  refine (HSO.out _ (HL.out.later (HA2.out _ _))).mono ?_
  rintro e w1 ⟨rfl, hb1⟩
  obtain ⟨⟨b0, b1⟩, f0, f1⟩ := HBX.out w1 hb1
  have HW1 := Lib.hid (Below.now (HA2.out _ _) hb1)
  have HSZ : Hid (w.heap.size ≤ w.heap.size + 1) := Lib.hid (by omega)
  clear hb1
  go_wp2_with fail
  refine bodyPost_ret (v := .tuple #[.agg #[.int .i64 0, .int .i64 0], .bool false]) ?_ rfl ?_
  · simp [results, Tryz.results160, go_sem, b0, b1]
  · exact ⟨rfl, (HW1.out.setCell HSZ.out _).setCell HSZ.out _⟩
set_option maxRecDepth 100000 in
set_option maxHeartbeats 1000000 in
theorem l04Trace_bad (k : Int) (R : List RulD) (a : Option Addr) (cap : Nat) (w0 : ByteArray) (w : World) (hl : RulesIn w a R) (hlen : R.length ≤ 2 ^ 40) (hz : SzR R) (hn : ¬ rulesP k R) :
    Calls Tryz.prog 147 #[.agg #[.int .i64 k, .slice a R.length cap], .string w0] w fun e w' => ∃ v, e = .returned (.tuple #[v, .string w0]) ∧ Below w.heap.size w w' := by
  have HL := Lib.hid hl
  have HFS := Lib.hid (fun W h => specFirstStep_bad k R a cap w0 W h hlen hz hn)
  have hb1 := alloc_belowS w (.cells #[.int .i64 k, .slice a R.length cap] 25)
  have HBX := Lib.hid (fun W2 (h : Below (w.alloc (.cells #[.int .i64 k, .slice a R.length cap] 25)).heap.size (w.alloc (.cells #[.int .i64 k, .slice a R.length cap] 25)) W2) => box_two h)
  clear hl hz hn
  go_enter Tryz.func147, Tryz.ntmps147
  go_wp2_with fail
  have HW1 := Lib.hid hb1
  generalize w.alloc (.cells #[.int .i64 k, .slice a R.length cap] 25) = w1 at *
  clear hb1
  go_loopw [1, 6] (fun vw vo wr => vw = .string w0 ∧ (∃ g, vo = .slice (some ⟨g, 0, none⟩) 0 0) ∧ Below w1.heap.size w1 wr) (fun _ _ _ => 0)
  case atStart => exact ⟨rfl, ⟨_, rfl⟩, alloc_belowS _ _⟩
  case round =>
    obtain ⟨rfl, ⟨g, rfl⟩, hbd⟩ := hrel
    obtain ⟨s0, s1⟩ := HBX.out wr hbd
    have HB := Lib.hid hbd
    clear hbd
    go_wp2_with fail
    refine (HFS.out wr (HL.out.later (Below.now HW1.out HB.out))).mono ?_
    rintro e w2 ⟨rfl, hb2⟩
    have HB2 := Lib.hid (Below.now HW1.out (Below.now HB.out hb2))
    clear hb2
    go_wp2_with fail
    go_ret2
    exact ⟨_, rfl, Below.now HB2.out (alloc_belowS _ _)⟩
/-- the words behind an insertion: reduced, if the rules are not too many -/
noncomputable def phiF (R : List RulD) (r : RulD) (u : ByteArray) : ByteArray := if (allF R r).length ≤ 12 then nfC (allF R r) u else u
theorem l04Trace_all (k : Int) (R : List RulD) (r : RulD) (a : Option Addr) (cap : Nat) (u : ByteArray) (w : World) (hl : RulesIn w a (allF R r)) (hs : sysP k R) (hr : NewR k r) (hu : wordOkB k u = true) :
    Calls Tryz.prog 147 #[.agg #[.int .i64 k, .slice a (allF R r).length cap], .string u] w fun e w' => ∃ v, e = .returned (.tuple #[v, .string (phiF R r u)]) ∧ Below w.heap.size w w' := by
  have ha := allF_sys hs hr
  have hlen := allF_len hs r
  unfold phiF
  by_cases h : (allF R r).length ≤ 12
  · rw [if_pos h]
    have hsys : sysP k (allF R r) := ⟨⟨⟨ha.1.1, h⟩, ha.1.2⟩, ha.2⟩
    exact (l04Trace_any k (allF R r) a cap u w hl hsys hu).mono fun e w' ⟨v, x, hx, he, hb⟩ => ⟨v, by rw [nfC_eq hx]; exact he, hb⟩
  · rw [if_neg h]
    refine l04Trace_bad k (allF R r) a cap u w hl (by omega) (fun j hj => ?_) (fun hp => h hp.1.2)
    have h1 := (ha.1.2 _ (nthR_mem hj)).1.2
    unfold maxLen
    omega
end Go.Proofs.YtdhaebbfiaddnaaGreatDoor
namespace Go.Proofs.YtdhaebbfiaddnaaGreatDoor
open Go.RowKit
set_option linter.unusedVariables false
/-- the sides of those pairs among some that have to do with the last rule -/
def newL (N : List RulD) (l : List PairD) : List RulD := (l.filter (lastP N)).map (sidesF N)
theorem newL_take {N : List RulD} {S : List PairD} {q : Nat} (h : q < S.length) : newL N (S.take (q + 1)) = newL N (S.take q) ++ newL N [S[q]] := by
  unfold newL
  rw [List.take_succ_eq_append_getElem h, List.filter_append, List.map_append]
theorem newL_yes {N : List RulD} {p : PairD} (h : lastP N p = true) : newL N [p] = [sidesF N p] := by simp [newL, h]
theorem newL_no {N : List RulD} {p : PairD} (h : lastP N p = false) : newL N [p] = [] := by simp [newL, h]
theorem newL_len (N : List RulD) (l : List PairD) : (newL N l).length ≤ l.length := by
  unfold newL
  rw [List.length_map]
  exact List.length_filter_le _ _
theorem ruleCells_one1 (l : List RulD) (x y : ByteArray) : ruleCells (l ++ [(x, y)]) = ruleCells l ++ [.string x, .string y] := by rw [ruleCells_app]; rfl
theorem lastP_int {N : List RulD} (h : 0 < N.length) (x y : Nat) (u : ByteArray) (i : Nat) : lastP N (u, x, y, i) = (((x : Int) == (N.length : Int) - 1) || ((y : Int) == (N.length : Int) - 1)) := by
  have key : ∀ z : Nat, decide (z = N.length - 1) = ((z : Int) == (N.length : Int) - 1) := fun z => by
    rw [Bool.eq_iff_iff, decide_eq_true_eq, beq_iff_eq]
    omega
  unfold lastP
  rw [← key, ← key]
end Go.Proofs.YtdhaebbfiaddnaaGreatDoor
namespace Go.Proofs.YtdhaebbfiaddnaaGreatDoor
open Go.RowKit
set_option linter.unusedVariables false
theorem off_emptyAt {W : World} {g base : Nat} {T : TypeId} {size : Nat} (h : W.heap[g]? = some (.cells #[] T (0, 0))) (hb : base ≤ g) : ownsOff W base T size (.slice (some ⟨g, 0, none⟩) 0 0) 0 [] :=
  ⟨by simp, .inr ⟨g, 0, 0, #[], rfl, hb, h, Nat.le_refl _, Nat.zero_le _, by simp, by simp⟩⟩
theorem src_box {P : Program} {W : World} {g : Nat} {x y : ByteArray} {T : TypeId} {tx e' : TypeId} (hk : P.underlying tx = some (.slice e')) (h : W.heap[g]? = some (.cells #[.string x, .string y] T (0, 0))) (c : Nat) : Go.Src P 2 tx (.slice (some ⟨g, 0, none⟩) 1 c) 1 [.string x, .string y] W := by
  refine Go.Src.ofSlice W hk ⟨g, 0, none⟩ 1 c _ rfl (fun j u hu => ?_) (fun u hu => by simp at hu; rcases hu with rfl | rfl <;> rfl)
  rw [add_off, Nat.zero_add, cell_of_row W g j _ T (0, 0) h]
  simpa using hu
/-- what the first loop has made: the rules that fell out, and those that are kept -/
structure InsSt (w1 wr : World) (g : Nat) (k : Int) (v6 vL : Value) (G K : List RulD) : Prop where
  gone : Bld 36 2 w1 wr v6 G.length (ruleCells G)
  rec2 : Rec2 25 36 2 w1 wr g (.int .i64 k) vL K.length (ruleCells K)
  far : ∀ b, v6.ownBlock = some b → b ≠ g ∧ vL.ownBlock ≠ some b
theorem InsSt.later {w1 wr wr' : World} {g : Nat} {k : Int} {v6 vL : Value} {G K : List RulD} (h : InsSt w1 wr g k v6 vL G K) (hb : Below wr.heap.size wr wr') : InsSt w1 wr' g k v6 vL G K := ⟨h.gone.later hb, h.rec2.later hb, h.far⟩
theorem Rec2.keptG {TT T : TypeId} {size : Nat} {w wr wr' : World} {g : Nat} {x v : Value} {n : Nat} {xs : List Value} {own : Option Nat} (h : Rec2 TT T size w wr g x v n xs) (hg : wr.grownBy wr' own) (h1 : own ≠ some g) (h2 : ∀ b, v.ownBlock = some b → own ≠ some b) (h3 : ∀ b, own = some b → w.heap.size ≤ b) : Rec2 TT T size w wr' g x v n xs := by
  refine ⟨(hg.block g h.lt (fun e => h1 e.symm)).trans h.blk, h.own.kept hg ?_, h.le, h.below.grown hg h.below.size h3⟩
  cases hv : v.ownBlock with
  | none => exact .inl rfl
  | some b => exact .inr (fun e => h2 b hv e.symm)
/-- a rule falls out -/
theorem InsSt.putG {w1 wr w' : World} {g : Nat} {k : Int} {v6 v' vL : Value} {G K : List RulD} {x y : ByteArray} {ob : Obj} (h : InsSt w1 wr g k v6 vL G K) (hb : Bld 36 2 w1 w' v' (G.length + 1) (ruleCells G ++ [.string x, .string y])) (hg : (wr.alloc ob).grownBy w' v6.ownBlock)
    (ho : v'.ownBlock = v6.ownBlock ∨ v'.ownBlock = some (wr.alloc ob).heap.size) : InsSt w1 w' g k v' vL (G ++ [(x, y)]) K := by
  have hal := alloc_belowS wr ob
  have h2 := h.later hal
  refine ⟨by rw [List.length_append, ruleCells_one1]; exact hb, h2.rec2.keptG hg (fun e => (h.far g e).1 rfl) (fun b hb2 e => (h.far b e).2 hb2) (fun b e => (h.gone.1.lt b e).1), fun b e => ?_⟩
  rcases ho with ho | ho
  · exact h.far b (ho ▸ e)
  · rw [ho] at e
    cases e
    refine ⟨fun e2 => ?_, fun e2 => ?_⟩
    · have := h2.rec2.lt
      omega
    · have := (h2.rec2.own.lt _ e2).2
      omega
/-- a rule is kept -/
theorem InsSt.putK {w1 wr w' : World} {g : Nat} {k : Int} {v6 v' vL : Value} {G K : List RulD} {x y : ByteArray} {ob : Obj} (h : InsSt w1 wr g k v6 vL G K) (hb : w'.ownsRow (g + 1) 36 2 v' (K.length + 1) (ruleCells K ++ [.string x, .string y])) (hg : (wr.alloc ob).grownBy w' vL.ownBlock)
    (ho : v'.ownBlock = vL.ownBlock ∨ v'.ownBlock = some (wr.alloc ob).heap.size) : InsSt w1 (w'.setCell ⟨g, 1, none⟩ v') g k v6 v' G (K ++ [(x, y)]) := by
  have hal := alloc_belowS wr ob
  have h2 := h.later hal
  have hr := h.rec2.put (Below.refl _ _) hg hb
  refine ⟨?_, by rw [List.length_append, ruleCells_one1]; exact hr, fun b e => ?_⟩
  · have hk : Bld 36 2 w1 w' v6 G.length (ruleCells G) := by
      refine ⟨h2.gone.1.kept hg ?_, h2.gone.2.grown hg h2.gone.2.size (fun b e => by have := (h2.rec2.own.lt b e).1; have := h2.rec2.le; omega)⟩
      cases hv : v6.ownBlock with
      | none => exact .inl rfl
      | some b => exact .inr (fun e => (h.far b hv).2 e.symm)
    refine ⟨hk.1.kept (setGrownB w' g 1 v') ?_, hk.2.setCell h2.rec2.le _⟩
    cases hv : v6.ownBlock with
    | none => exact .inl rfl
    | some b => exact .inr (fun e => (h.far b hv).1 (Option.some.inj e))
  · refine ⟨(h.far b e).1, ?_⟩
    rcases ho with ho | ho
    · rw [ho]; exact (h.far b e).2
    · rw [ho]
      intro e2
      have := (h2.gone.1.lt b e).2
      have := Option.some.inj e2
      omega
/-- the rules that fall out, and those that are kept, among some -/
def goneL (x : ByteArray) (l : List RulD) : List RulD := l.filter fun p => hasB p.1 x
def keptL (x : ByteArray) (l : List RulD) : List RulD := l.filter fun p => !hasB p.1 x
theorem goneL_take {x : ByteArray} {R : List RulD} {i : Nat} (h : i < R.length) (hb : hasB (nthR R i).1 x = true) : goneL x (R.take (i + 1)) = goneL x (R.take i) ++ [nthR R i] ∧ keptL x (R.take (i + 1)) = keptL x (R.take i) := by
  rw [nthR_lt h] at hb ⊢
  unfold goneL keptL
  rw [List.take_succ_eq_append_getElem h, List.filter_append, List.filter_append]
  simp [hb]
theorem keptL_take {x : ByteArray} {R : List RulD} {i : Nat} (h : i < R.length) (hb : hasB (nthR R i).1 x = false) : goneL x (R.take (i + 1)) = goneL x (R.take i) ∧ keptL x (R.take (i + 1)) = keptL x (R.take i) ++ [nthR R i] := by
  rw [nthR_lt h] at hb ⊢
  unfold goneL keptL
  rw [List.take_succ_eq_append_getElem h, List.filter_append, List.filter_append]
  simp [hb]
theorem goneL_len (x : ByteArray) (l : List RulD) : (goneL x l).length ≤ l.length ∧ (keptL x l).length ≤ l.length := ⟨List.length_filter_le _ _, List.length_filter_le _ _⟩
/-- what l06Insert hands back: the next rules (if there are not too many), and those that fell out -/
def RetIns (k : Int) (R : List RulD) (r : RulD) (w : World) (e : Ending) (w' : World) : Prop :=
  ∃ (N : List RulD) (aN aG : Option Addr) (cN cG : Nat), N.length = (nextF R r).length ∧ (¬ 12 < (nextF R r).length → N = nextF R r) ∧ e = .returned (.tuple #[.agg #[.int .i64 k, .slice aN N.length cN], .slice aG (goneF R r.1).length cG]) ∧
    w'.ownsRow w.heap.size 36 2 (.slice aN N.length cN) N.length (ruleCells N) ∧ w'.ownsRow w.heap.size 36 2 (.slice aG (goneF R r.1).length cG) (goneF R r.1).length (ruleCells (goneF R r.1)) ∧ Below w.heap.size w w'
theorem drew_at {W : World} {n : Nat} {x : Obj} (h : W.heap[n]? = some x) : W.drew.heap[n]? = some x := h
theorem drewN_at {W : World} {n : Nat} {x : Obj} (m : Nat) (h : W.heap[n]? = some x) : (W.drewN m).heap[n]? = some x := h
/-- a fact that is shown first -/
theorem cut_in {P G : Prop} (h : P) (k : P → G) : G := k h
/-- a block of another type stays when a slice of one's own is appended to -/
theorem grown_other {W W' : World} {base : Nat} {T T' : TypeId} {size : Nat} {v : Value} {n : Nat} {xs : List Value} (h : ownsOff W base T size v n xs) (hg : W.grownBy W' v.ownBlock) {i : Nat} {cs : Array Value} {fr : Nat × Nat} (hi : W.heap[i]? = some (.cells cs T' fr)) (hne : T ≠ T') : W'.heap[i]? = some (.cells cs T' fr) := by
  rw [hg.block i (Array.getElem?_eq_some_iff.1 hi).1 (fun e => ?_)]
  · exact hi
  · rcases h.2 with ⟨rfl, _⟩ | ⟨g, o, cap, cur, rfl, _, hgg, _⟩
    · simp [Value.ownBlock] at e
    · simp only [Value.ownBlock, Option.some.injEq] at e
      subst e
      rw [hgg] at hi
      simp only [Option.some.injEq, Obj.cells.injEq] at hi
      exact hne hi.2.1
theorem block_later {W : World} {i : Nat} {o : Obj} (h : W.heap[i]? = some o) : ∀ W', Below W.heap.size W W' → W'.heap[i]? = some o := fun W' hW => (hW.block i (Array.getElem?_eq_some_iff.1 h).1).trans h
theorem alloc_next (W : World) (o : Obj) {n : Nat} (h : n = W.heap.size) : (W.alloc o).heap[n]? = some o := by subst h; exact alloc_at W o
theorem alloc_oldI (W : World) (o : Obj) {n : Nat} {x : Obj} (h : W.heap[n]? = some x) : (W.alloc o).heap[n]? = some x := (block_later h) _ (alloc_belowS W o)
/-- another block is set -/
theorem Rec2.setFar {TT T : TypeId} {size : Nat} {w wr : World} {g : Nat} {x v : Value} {n : Nat} {xs : List Value} (h : Rec2 TT T size w wr g x v n xs) {b : Nat} (o : Nat) (u : Value) (h1 : b ≠ g) (h2 : v.ownBlock ≠ some b) (h3 : w.heap.size ≤ b) : Rec2 TT T size w (wr.setCell ⟨b, o, none⟩ u) g x v n xs :=
  h.keptG (setGrownB wr b o u) (fun e => h1 (Option.some.inj e)) (fun c hc e => h2 (by rw [hc, ← e])) (fun c e => by have := Option.some.inj e; omega)
/-- rules, their right sides turned -/
def mapG (f : ByteArray → ByteArray) (l : List RulD) : List RulD := l.map fun p => (p.1, f p.2)
theorem mapG_take {f : ByteArray → ByteArray} {K : List RulD} {i : Nat} (h : i < K.length) : mapG f (K.take (i + 1)) = mapG f (K.take i) ++ [((nthR K i).1, f (nthR K i).2)] := by
  unfold mapG
  rw [List.take_succ_eq_append_getElem h, List.map_append, nthR_lt h]
  rfl
theorem mapG_len (f : ByteArray → ByteArray) (l : List RulD) : (mapG f l).length = l.length := by unfold mapG; rw [List.length_map]
theorem alloc_three (w : World) (A B C : Obj) : (((w.alloc A).alloc B).alloc C).heap[w.heap.size]? = some A ∧ (((w.alloc A).alloc B).alloc C).heap[w.heap.size + 1]? = some B ∧ (((w.alloc A).alloc B).alloc C).heap[w.heap.size + 2]? = some C := by
  obtain ⟨h1, h2⟩ := alloc_two w A B
  have h3 := alloc_at ((w.alloc A).alloc B) C
  have e : ((w.alloc A).alloc B).heap.size = w.heap.size + 2 := by simp
  have hb := alloc_belowS ((w.alloc A).alloc B) C
  rw [e] at h3
  exact ⟨(hb.block _ (by rw [e]; omega)).trans h1, (hb.block _ (by rw [e]; omega)).trans h2, h3⟩
end Go.Proofs.YtdhaebbfiaddnaaGreatDoor
namespace Go.Proofs.YtdhaebbfiaddnaaGreatDoor
open Go.RowKit
set_option linter.unusedVariables false
theorem CurOk.grownO {w w' : World} {B : Nat} {a : Option Addr} {l : List UInt8} {cap : Nat} {own : Option Nat} (h : CurOk w B a l cap) (hg : w.grownBy w' own) (h1 : own ≠ some B) (h2 : l ≠ [] → ∀ x, a = some x → own ≠ some x.block) : CurOk w' B a l cap := by
  refine ⟨?_, ?_, h.ne, h.len⟩
  · obtain ⟨i, hh, hb, hi⟩ := h.at_
    exact ⟨i, hh, (hg.block B h.lt (fun e => h1 e.symm)).trans hb, hi⟩
  · rcases h.bytes with hb | ⟨b, off, ha, hc⟩
    · exact .inl hb
    · refine .inr ⟨b, off, ha, fun i hi => ?_⟩
      rw [World.cell?_of_block (w := w) (hg.block b (World.block_lt_of_cell? w _ (hc i hi)) (fun e => h2 (fun e2 => by subst e2; simp at hi) _ ha e.symm))]
      exact hc i hi
/-- a system that is being drawn -/
structure DrwAt (B : Nat) (a : Option Addr) (l : List UInt8) (cap : Nat) (w0 w wr : World) (k : Nat) (v : Value) (R : List RulD) : Prop where
  rc : Rec2 25 36 2 w0 wr (w.heap.size + 1) (.int .i64 (k : Nat)) v R.length (ruleCells R)
  cur : CurOk wr B a l cap
  zero : wr.heap[w.heap.size]? = some (.cells #[.int .i64 0, .slice none 0 0] 25 (0, 0))
  k1 : 1 ≤ k ∧ k ≤ 3
  ok : ∀ r ∈ R, ruleP k r ∧ lessS r.2 r.1 = true
  lt : B < w.heap.size ∧ w0.heap.size ≤ B
  far : l ≠ [] → ∀ x, a = some x → x.block < w.heap.size
section
variable {B : Nat} {a : Option Addr} {l : List UInt8} {cap : Nat} {w0 w wr : World} {k : Nat} {v : Value} {R : List RulD}
theorem DrwAt.later {w' : World} (h : DrwAt B a l cap w0 w wr k v R) (hb : Below wr.heap.size wr w') : DrwAt B a l cap w0 w w' k v R :=
  ⟨h.rc.later hb, h.cur.later hb, block_later h.zero _ hb, h.k1, h.ok, h.lt, h.far⟩
theorem DrwAt.next {w' : World} (h : DrwAt B a l cap w0 w wr k v R) (hc : CurOk w' B a l cap) (hg : wr.grownBy w' (some B)) : DrwAt B a l cap w0 w w' k v R := by
  have h1 := h.lt
  have h2 := h.rc.lt
  refine ⟨h.rc.keptG hg (fun e => by have := Option.some.inj e; omega) (fun b hb e => by have := (h.rc.own.lt b hb).1; have := Option.some.inj e; omega) (fun b e => by have := Option.some.inj e; omega), hc, ?_, h.k1, h.ok, h.lt, h.far⟩
  exact (hg.block _ (by omega) (fun e => by have := Option.some.inj e; omega)).trans h.zero
theorem DrwAt.start (hc : CurOk w B a l cap) (hb : Below w0.heap.size w0 w) (hB : w0.heap.size ≤ B) : DrwAt B a l cap w0 w ((w.alloc (.cells #[.int .i64 0, .slice none 0 0] 25)).alloc (.cells #[.int .i64 ((2 : Nat) : Int), .slice none 0 0] 25)) 2 (.slice none 0 0) [] := by
  have h1 := Rec2.start 25 36 2 (w := w0) (hb.alloc hb.size (.cells #[.int .i64 0, .slice none 0 0] 25)) (.int .i64 ((2 : Nat) : Int))
  have e : (w.alloc (.cells #[.int .i64 0, .slice none 0 0] 25)).heap.size = w.heap.size + 1 := by simp
  rw [e] at h1
  exact ⟨h1, (hc.alloc _).alloc _, (alloc_two w _ _).1, by omega, fun r hr => by simp at hr, ⟨hc.lt, hB⟩, curNe hc.bytes⟩
theorem DrwAt.setK (h : DrwAt B a l cap w0 w wr k (.slice none 0 0) []) {k' : Nat} (hk : 1 ≤ k' ∧ k' ≤ 3) : DrwAt B a l cap w0 w (wr.setCell ⟨w.heap.size + 1, 0, none⟩ (.int .i64 (k' : Nat))) k' (.slice none 0 0) [] := by
  have h1 := h.lt
  have h2 := h.rc.blk
  refine ⟨⟨?_, World.ownsRow_nil _ _ _ _, h.rc.le, h.rc.below.setCell h.rc.le _⟩, h.cur.grownO (setGrownB wr _ 0 _) (fun e => by have := Option.some.inj e; omega) (fun hne x hx e => by have := h.far hne x hx; have := Option.some.inj e; omega), ?_, hk, fun r hr => by simp at hr, h.lt, h.far⟩
  · unfold World.setCell
    rw [Array.getElem?_modify, if_pos rfl, h2]
    rfl
  · unfold World.setCell
    rw [Array.getElem?_modify, if_neg (by show ¬ w.heap.size + 1 = w.heap.size; omega)]
    exact h.zero
theorem DrwAt.put (h : DrwAt B a l cap w0 w wr k v R) {p : RulD} (hp : ruleP k p ∧ lessS p.2 p.1 = true) {w4 : World} {ob : Obj} {v' : Value} (hg : (wr.alloc ob).grownBy w4 v.ownBlock) (ho : w4.ownsRow (w.heap.size + 1 + 1) 36 2 v' (R.length + 1) (ruleCells R ++ [.string p.1, .string p.2])) :
    DrwAt B a l cap w0 w (w4.setCell ⟨w.heap.size + 1, 1, none⟩ v') k v' (R ++ [p]) := by
  have h1 := h.lt
  have hlt := h.rc.lt
  have hr : Rec2 25 36 2 w0 (w4.setCell ⟨w.heap.size + 1, 1, none⟩ v') (w.heap.size + 1) (.int .i64 (k : Nat)) v' (R ++ [p]).length (ruleCells (R ++ [p])) := by
    rw [List.length_append, ruleCells_app, show ruleCells [p] = [Value.string p.1, .string p.2] from rfl]
    exact h.rc.put (Below.refl _ _) hg ho
  have hb : ∀ b, v.ownBlock = some b → w.heap.size + 1 + 1 ≤ b := fun b hb => (h.rc.own.lt b hb).1
  have hc1 : CurOk w4 B a l cap := (h.cur.alloc ob).grownO hg (fun e => by have := hb _ e; omega) (fun hne x hx e => by have := h.far hne x hx; have := hb _ e; omega)
  have hz1 : w4.heap[w.heap.size]? = some (.cells #[.int .i64 0, .slice none 0 0] 25 (0, 0)) := (hg.block _ (by simp; omega) (fun e => by have := hb _ e.symm; omega)).trans (alloc_oldI wr ob h.zero)
  refine ⟨hr, hc1.grownO (setGrownB w4 _ 1 _) (fun e => by have := Option.some.inj e; omega) (fun hne x hx e => by have := h.far hne x hx; have := Option.some.inj e; omega), ?_, h.k1, ?_, h.lt, h.far⟩
  · unfold World.setCell
    rw [Array.getElem?_modify, if_neg (by show ¬ w.heap.size + 1 = w.heap.size; omega)]
    exact hz1
  · intro r hr
    rcases List.mem_append.1 hr with h3 | h3
    · exact h.ok r h3
    · obtain rfl : r = p := by simpa using h3
      exact hp
end
/-- the given systems -/
def syss : List ByteArray := [⟨#[49, 32, 97, 97, 97, 62, 46]⟩, ⟨#[50, 32, 97, 97, 62, 46, 32, 98, 98, 62, 46, 32, 98, 97, 62, 97, 98]⟩, ⟨#[50, 32, 97, 97, 62, 46, 32, 98, 98, 62, 46, 32, 98, 97, 98, 62, 97, 98, 97]⟩, ⟨#[50, 32, 98, 97, 62, 97, 98]⟩, ⟨#[50, 32, 97, 98, 62, 46]⟩, ⟨#[50, 32, 97, 97, 62, 97, 32, 98, 98, 62, 98]⟩, ⟨#[50, 32, 97, 97, 62, 46, 32, 98, 98, 98, 62, 46, 32, 97, 98, 98, 62, 98, 97, 32, 97, 98, 97, 62, 98, 98, 32, 98, 97, 98, 62, 97, 32, 98, 98, 97, 62, 97, 98]⟩, ⟨#[49, 32, 97, 97, 97, 97, 62, 97, 97]⟩, ⟨#[50, 32, 97, 97, 62, 98]⟩, ⟨#[50, 32, 98, 97, 62, 97, 98, 32, 98, 98, 62, 98]⟩, ⟨#[51, 32, 98, 97, 62, 97, 98, 32, 99, 97, 62, 97, 99, 32, 99, 98, 62, 98, 99]⟩]
theorem syss_ok : ∀ i, i < 11 → (nthS syss i).size ≤ 1000 := by decide +kernel
def RetDrw (B : Nat) (a : Option Addr) (l : List UInt8) (cap : Nat) (w0 : World) (e : Ending) (w' : World) : Prop := ∃ (k : Int) (R : List RulD) (aR : Option Addr) (cR : Nat),
  sysP k R ∧ e = .returned (.agg #[.int .i64 k, .slice aR R.length cR]) ∧ RulesIn w' aR R ∧ CurOk w' B a l cap ∧ Below w0.heap.size w0 w'
end Go.Proofs.YtdhaebbfiaddnaaGreatDoor
