/-
  l06Insert of the reference.
-/
import Derived.Test.YtgoeadgpbidgiaaGreatClp15
import Derived.Test.YtgoeadgpbidgiaaGreatClp07
import Derived.Test.YtgoeadgpbidgiaaGreatClp16
import Derived.Test.YtgoeadgpbidgiaaGreatClp09
namespace Go.Proofs.YtgoeadgpbidgiaaGreat
open Go.RowKit
set_option linter.unusedVariables false
theorem off_emptyAt {W : World} {g base : Nat} {T : TypeId} {size : Nat} (h : W.heap[g]? = some (.cells #[] T (0, 0))) (hb : base ≤ g) : ownsOff W base T size (.slice (some ⟨g, 0, none⟩) 0 0) 0 [] :=
  ⟨by simp, .inr ⟨g, 0, 0, #[], rfl, hb, h, Nat.le_refl _, Nat.zero_le _, by simp, by simp⟩⟩
theorem src_box {P : Program} {W : World} {g : Nat} {x y : ByteArray} {T : TypeId} {tx e' : TypeId} (hk : P.underlying tx = some (.slice e')) (h : W.heap[g]? = some (.cells #[.string x, .string y] T (0, 0))) (c : Nat) : Go.Src P 2 tx (.slice (some ⟨g, 0, none⟩) 1 c) 1 [.string x, .string y] W := by
  refine Go.Src.ofSlice W hk ⟨g, 0, none⟩ 1 c _ rfl (fun j u hu => ?_) (fun u hu => by simp at hu; rcases hu with rfl | rfl <;> rfl)
  rw [add_off, Nat.zero_add, cell_of_row W g j _ T (0, 0) h]
  simpa using hu
/-- what the first loop has made: the rules that fell out, and those that are kept -/
structure InsSt (w1 wr : World) (g : Nat) (k : Int) (v6 vL : Value) (G K : List RulD) : Prop where
  gone : Bld 67 2 w1 wr v6 G.length (ruleCells G)
  rec2 : Rec2 25 67 2 w1 wr g (.int .i64 k) vL K.length (ruleCells K)
  far : ∀ b, v6.ownBlock = some b → b ≠ g ∧ vL.ownBlock ≠ some b
theorem InsSt.later {w1 wr wr' : World} {g : Nat} {k : Int} {v6 vL : Value} {G K : List RulD} (h : InsSt w1 wr g k v6 vL G K) (hb : Below wr.heap.size wr wr') : InsSt w1 wr' g k v6 vL G K := ⟨h.gone.later hb, h.rec2.later hb, h.far⟩
theorem Rec2.keptG {TT T : TypeId} {size : Nat} {w wr wr' : World} {g : Nat} {x v : Value} {n : Nat} {xs : List Value} {own : Option Nat} (h : Rec2 TT T size w wr g x v n xs) (hg : wr.grownBy wr' own) (h1 : own ≠ some g) (h2 : ∀ b, v.ownBlock = some b → own ≠ some b) (h3 : ∀ b, own = some b → w.heap.size ≤ b) : Rec2 TT T size w wr' g x v n xs := by
  refine ⟨(hg.block g h.lt (fun e => h1 e.symm)).trans h.blk, h.own.kept hg ?_, h.le, h.below.grown hg h.below.size h3⟩
  cases hv : v.ownBlock with
  | none => exact .inl rfl
  | some b => exact .inr (fun e => h2 b hv e.symm)
/-- a rule falls out -/
theorem InsSt.putG {w1 wr w' : World} {g : Nat} {k : Int} {v6 v' vL : Value} {G K : List RulD} {x y : ByteArray} {ob : Obj} (h : InsSt w1 wr g k v6 vL G K) (hb : Bld 67 2 w1 w' v' (G.length + 1) (ruleCells G ++ [.string x, .string y])) (hg : (wr.alloc ob).grownBy w' v6.ownBlock)
    (ho : v'.ownBlock = v6.ownBlock ∨ v'.ownBlock = some (wr.alloc ob).heap.size) : InsSt w1 w' g k v' vL (G ++ [(x, y)]) K := by
  have hal := alloc_belowS wr ob
  have h2 := h.later hal
  refine ⟨by rw [List.length_append, ruleCells_one1]; exact hb, h2.rec2.keptG hg (fun e => (h.far g e).1 rfl) (fun b hb2 e => (h.far b e).2 hb2) (fun b e => (h.gone.1.lt b e).1), fun b e => ?_⟩
  rcases ho with ho | ho
  · exact h.far b (ho ▸ e)
  · rw [ho] at e
    cases e
    refine ⟨fun e2 => ?_, fun e2 => ?_⟩
    · have := h2.rec2.lt
      omega
    · have := (h2.rec2.own.lt _ e2).2
      omega
/-- a rule is kept -/
theorem InsSt.putK {w1 wr w' : World} {g : Nat} {k : Int} {v6 v' vL : Value} {G K : List RulD} {x y : ByteArray} {ob : Obj} (h : InsSt w1 wr g k v6 vL G K) (hb : w'.ownsRow (g + 1) 67 2 v' (K.length + 1) (ruleCells K ++ [.string x, .string y])) (hg : (wr.alloc ob).grownBy w' vL.ownBlock)
    (ho : v'.ownBlock = vL.ownBlock ∨ v'.ownBlock = some (wr.alloc ob).heap.size) : InsSt w1 (w'.setCell ⟨g, 1, none⟩ v') g k v6 v' G (K ++ [(x, y)]) := by
  have hal := alloc_belowS wr ob
  have h2 := h.later hal
  have hr := h.rec2.put (Below.refl _ _) hg hb
  refine ⟨?_, by rw [List.length_append, ruleCells_one1]; exact hr, fun b e => ?_⟩
  · have hk : Bld 67 2 w1 w' v6 G.length (ruleCells G) := by
      refine ⟨h2.gone.1.kept hg ?_, h2.gone.2.grown hg h2.gone.2.size (fun b e => by have := (h2.rec2.own.lt b e).1; have := h2.rec2.le; omega)⟩
      cases hv : v6.ownBlock with
      | none => exact .inl rfl
      | some b => exact .inr (fun e => (h.far b hv).2 e.symm)
    refine ⟨hk.1.kept (setGrownB w' g 1 v') ?_, hk.2.setCell h2.rec2.le _⟩
    cases hv : v6.ownBlock with
    | none => exact .inl rfl
    | some b => exact .inr (fun e => (h.far b hv).1 (Option.some.inj e))
  · refine ⟨(h.far b e).1, ?_⟩
    rcases ho with ho | ho
    · rw [ho]; exact (h.far b e).2
    · rw [ho]
      intro e2
      have := (h2.gone.1.lt b e).2
      have := Option.some.inj e2
      omega
/-- the rules that fall out, and those that are kept, among some -/
def goneL (x : ByteArray) (l : List RulD) : List RulD := l.filter fun p => hasB p.1 x
def keptL (x : ByteArray) (l : List RulD) : List RulD := l.filter fun p => !hasB p.1 x
theorem goneL_take {x : ByteArray} {R : List RulD} {i : Nat} (h : i < R.length) (hb : hasB (nthR R i).1 x = true) : goneL x (R.take (i + 1)) = goneL x (R.take i) ++ [nthR R i] ∧ keptL x (R.take (i + 1)) = keptL x (R.take i) := by
  rw [nthR_lt h] at hb ⊢
  unfold goneL keptL
  rw [List.take_succ_eq_append_getElem h, List.filter_append, List.filter_append]
  simp [hb]
theorem keptL_take {x : ByteArray} {R : List RulD} {i : Nat} (h : i < R.length) (hb : hasB (nthR R i).1 x = false) : goneL x (R.take (i + 1)) = goneL x (R.take i) ∧ keptL x (R.take (i + 1)) = keptL x (R.take i) ++ [nthR R i] := by
  rw [nthR_lt h] at hb ⊢
  unfold goneL keptL
  rw [List.take_succ_eq_append_getElem h, List.filter_append, List.filter_append]
  simp [hb]
theorem goneL_len (x : ByteArray) (l : List RulD) : (goneL x l).length ≤ l.length ∧ (keptL x l).length ≤ l.length := ⟨List.length_filter_le _ _, List.length_filter_le _ _⟩
/-- what l06Insert hands back: the next rules (if there are not too many), and those that fell out -/
def RetIns (k : Int) (R : List RulD) (r : RulD) (w : World) (e : Ending) (w' : World) : Prop :=
  ∃ (N : List RulD) (aN aG : Option Addr) (cN cG : Nat), N.length = (nextF R r).length ∧ (¬ 12 < (nextF R r).length → N = nextF R r) ∧ e = .returned (.tuple #[.agg #[.int .i64 k, .slice aN N.length cN], .slice aG (goneF R r.1).length cG]) ∧
    w'.ownsRow w.heap.size 67 2 (.slice aN N.length cN) N.length (ruleCells N) ∧ w'.ownsRow w.heap.size 67 2 (.slice aG (goneF R r.1).length cG) (goneF R r.1).length (ruleCells (goneF R r.1)) ∧ Below w.heap.size w w'
theorem drew_at {W : World} {n : Nat} {x : Obj} (h : W.heap[n]? = some x) : W.drew.heap[n]? = some x := h
theorem drewN_at {W : World} {n : Nat} {x : Obj} (m : Nat) (h : W.heap[n]? = some x) : (W.drewN m).heap[n]? = some x := h
/-- a fact that is shown first -/
theorem cut_in {P G : Prop} (h : P) (k : P → G) : G := k h
/-- a block of another type stays when a slice of one's own is appended to -/
theorem grown_other {W W' : World} {base : Nat} {T T' : TypeId} {size : Nat} {v : Value} {n : Nat} {xs : List Value} (h : ownsOff W base T size v n xs) (hg : W.grownBy W' v.ownBlock) {i : Nat} {cs : Array Value} {fr : Nat × Nat} (hi : W.heap[i]? = some (.cells cs T' fr)) (hne : T ≠ T') : W'.heap[i]? = some (.cells cs T' fr) := by
  rw [hg.block i (Array.getElem?_eq_some_iff.1 hi).1 (fun e => ?_)]
  · exact hi
  · rcases h.2 with ⟨rfl, _⟩ | ⟨g, o, cap, cur, rfl, _, hgg, _⟩
    · simp [Value.ownBlock] at e
    · simp only [Value.ownBlock, Option.some.injEq] at e
      subst e
      rw [hgg] at hi
      simp only [Option.some.injEq, Obj.cells.injEq] at hi
      exact hne hi.2.1
theorem block_later {W : World} {i : Nat} {o : Obj} (h : W.heap[i]? = some o) : ∀ W', Below W.heap.size W W' → W'.heap[i]? = some o := fun W' hW => (hW.block i (Array.getElem?_eq_some_iff.1 h).1).trans h
theorem alloc_next (W : World) (o : Obj) {n : Nat} (h : n = W.heap.size) : (W.alloc o).heap[n]? = some o := by subst h; exact alloc_at W o
theorem alloc_oldI (W : World) (o : Obj) {n : Nat} {x : Obj} (h : W.heap[n]? = some x) : (W.alloc o).heap[n]? = some x := (block_later h) _ (alloc_belowS W o)
/-- another block is set -/
theorem Rec2.setFar {TT T : TypeId} {size : Nat} {w wr : World} {g : Nat} {x v : Value} {n : Nat} {xs : List Value} (h : Rec2 TT T size w wr g x v n xs) {b : Nat} (o : Nat) (u : Value) (h1 : b ≠ g) (h2 : v.ownBlock ≠ some b) (h3 : w.heap.size ≤ b) : Rec2 TT T size w (wr.setCell ⟨b, o, none⟩ u) g x v n xs :=
  h.keptG (setGrownB wr b o u) (fun e => h1 (Option.some.inj e)) (fun c hc e => h2 (by rw [hc, ← e])) (fun c e => by have := Option.some.inj e; omega)
/-- rules, their right sides turned -/
def mapG (f : ByteArray → ByteArray) (l : List RulD) : List RulD := l.map fun p => (p.1, f p.2)
theorem mapG_take {f : ByteArray → ByteArray} {K : List RulD} {i : Nat} (h : i < K.length) : mapG f (K.take (i + 1)) = mapG f (K.take i) ++ [((nthR K i).1, f (nthR K i).2)] := by
  unfold mapG
  rw [List.take_succ_eq_append_getElem h, List.map_append, nthR_lt h]
  rfl
theorem mapG_len (f : ByteArray → ByteArray) (l : List RulD) : (mapG f l).length = l.length := by unfold mapG; rw [List.length_map]
theorem alloc_three (w : World) (A B C : Obj) : (((w.alloc A).alloc B).alloc C).heap[w.heap.size]? = some A ∧ (((w.alloc A).alloc B).alloc C).heap[w.heap.size + 1]? = some B ∧ (((w.alloc A).alloc B).alloc C).heap[w.heap.size + 2]? = some C := by
  obtain ⟨h1, h2⟩ := alloc_two w A B
  have h3 := alloc_at ((w.alloc A).alloc B) C
  have e : ((w.alloc A).alloc B).heap.size = w.heap.size + 2 := by simp
  have hb := alloc_belowS ((w.alloc A).alloc B) C
  rw [e] at h3
  exact ⟨(hb.block _ (by rw [e]; omega)).trans h1, (hb.block _ (by rw [e]; omega)).trans h2, h3⟩
set_option maxRecDepth 100000 in
set_option maxHeartbeats 4000000 in
theorem l06Insert_any (k : Int) (R : List RulD) (r : RulD) (a : Option Addr) (cap : Nat) (w : World) (hl : RulesIn w a R) (hs : sysP k R) (hr : NewR k r) :
    Calls Tryz.prog 103 #[.agg #[.int .i64 k, .slice a R.length cap], .agg #[.string r.1, .string r.2]] w (RetIns k R r w) := by
  have h12 : R.length ≤ 12 := hs.1.1.2
  have hrl := less_ne hr.less
  have hr8 := hr.short
  have HPF := Lib.hid (fun i (hi : i < R.length) W => specPlacesOf_any (nthR R i).1 r.1 W (by omega) (by have := (hs.1.2 _ (nthR_mem hi)).1.2.1; omega) (by omega))
  have HL := Lib.hid hl
  have HS := Lib.hid hs
  have HR := Lib.hid hr
  have HW1 : Hid (Below w.heap.size w (((w.alloc (.cells #[.int .i64 k, .slice a R.length cap] 25)).alloc (.cells #[.string r.1, .string r.2] 67)).alloc (.cells #[.int .i64 0, .slice none 0 0] 25))) := Lib.hid (Below.now (Below.now (alloc_belowS w _) (alloc_belowS _ _)) (alloc_belowS _ _))
  have hA := alloc_three w (.cells #[.int .i64 k, .slice a R.length cap] 25) (.cells #[.string r.1, .string r.2] 67) (.cells #[.int .i64 0, .slice none 0 0] 25)
  have hsz1 : (((w.alloc (.cells #[.int .i64 k, .slice a R.length cap] 25)).alloc (.cells #[.string r.1, .string r.2] 67)).alloc (.cells #[.int .i64 0, .slice none 0 0] 25)).heap.size = w.heap.size + 3 := by simp
  have HGO : Hid (goneF R r.1 = goneL r.1 (R.take R.length) ∧ keptF R r.1 = keptL r.1 (R.take R.length)) := Lib.hid (by rw [List.take_length]; exact ⟨rfl, rfl⟩)
  clear hl hs hr
  go_enter Tryz.func103, Tryz.ntmps103
  go_wp2_with fail
  generalize hw1 : ((w.alloc (.cells #[.int .i64 k, .slice a R.length cap] 25)).alloc (.cells #[.string r.1, .string r.2] 67)).alloc (.cells #[.int .i64 0, .slice none 0 0] 25) = w1 at *
  clear hw1
  have HBX : Hid (∀ W, Below w1.heap.size w1 W → (W.cell? ⟨w.heap.size, 0, none⟩ = some (.int .i64 k) ∧ W.cell? ⟨w.heap.size, 1, none⟩ = some (.slice a R.length cap)) ∧ (W.cell? ⟨w.heap.size + 1, 0, none⟩ = some (.string r.1) ∧ W.cell? ⟨w.heap.size + 1, 1, none⟩ = some (.string r.2)) ∧
      W.cell? ⟨w.heap.size + 1 + 1, 0, none⟩ = some (.int .i64 0) ∧ W.cell? ⟨w.heap.size + 1 + 1, 1, none⟩ = some (.slice none 0 0) ∧ W.frozen? ⟨w.heap.size + 1 + 1, 0, none⟩ = false ∧ W.frozen? ⟨w.heap.size + 1 + 1, 1, none⟩ = false) := Lib.hid (fun W hW => by
    have b1 := rec_cells ((hW.block _ (by omega)).trans hA.1)
    have b2 := rec_cells ((hW.block _ (by omega)).trans hA.2.1)
    have b3 := rec_cells ((hW.block _ (by omega)).trans hA.2.2)
    exact ⟨⟨b1.1, b1.2.1⟩, ⟨b2.1, b2.2.1⟩, b3⟩)
  have HSZ := Lib.hid hsz1
  have hal := alloc_belowS w1 (.cells #[] 67)
  have HIS : Hid (InsSt w1 ((w1.alloc (.cells #[] 67)).alloc (.cells #[.int .i64 k, .slice none 0 0] 25)) (w.heap.size + 3 + 1) k (.slice (some ⟨w.heap.size + 3, 0, none⟩) 0 0) (.slice none 0 0) (goneL r.1 (R.take 0)) (keptL r.1 (R.take 0))) := Lib.hid (by
    have e : (w1.alloc (.cells #[] 67)).heap.size = w.heap.size + 3 + 1 := by simp [hsz1]
    have h1 := (Bld.empty 67 2 w1).later (alloc_belowS (w1.alloc (.cells #[] 67)) (.cells #[.int .i64 k, .slice none 0 0] 25))
    have h2 := Rec2.start 25 67 2 hal (.int .i64 k)
    rw [hsz1] at h1
    rw [e] at h2
    exact ⟨h1, h2, fun b hb => by simp [Value.ownBlock] at hb; exact ⟨by omega, by simp [Value.ownBlock]⟩⟩)
  have HIB : Hid (Below w1.heap.size w1 ((w1.alloc (.cells #[] 67)).alloc (.cells #[.int .i64 k, .slice none 0 0] 25))) := Lib.hid (Below.now hal (alloc_belowS _ _))
  obtain ⟨⟨s0, s1⟩, _, _⟩ := HBX.out w1 (Below.refl _ _)
  have p0 := fun o => (HBX.out _ (alloc_belowS w1 o)).1.1
  have p1 := fun o => (HBX.out _ (alloc_belowS w1 o)).1.2
  have p2 := fun o o2 => (HBX.out _ (Below.now (alloc_belowS w1 o) (alloc_belowS (w1.alloc o) o2))).1.2
  clear hA hal
  go_loopw [6, 21] (fun v6 vi wr => ∃ (i : Nat) (vL : Value), i ≤ R.length ∧ vi = .int .i64 (i : Nat) ∧ Hid (InsSt w1 wr (w.heap.size + 3 + 1) k v6 vL (goneL r.1 (R.take i)) (keptL r.1 (R.take i)))) (fun _ vi _ => R.length - (intOf vi).toNat)
  case atStart => exact ⟨0, _, Nat.zero_le _, rfl, HIS⟩
  case round =>
    clear HIS HIB p0 p1 p2 s0 s1
    obtain ⟨i, vL, hi, rfl, HIS⟩ := hrel
    obtain ⟨a6, c6, rfl⟩ := owns_form HIS.out.gone.1
    have HIB := Lib.hid HIS.out.gone.2
    obtain ⟨hl1, hl2⟩ := goneL_len r.1 (R.take i)
    have hl3 : (R.take i).length ≤ i := by rw [List.length_take]; omega
    by_cases hlt : i < R.length
    · obtain ⟨b, off, rfl, hb, k0, k1⟩ := rule_at HL.out (Below.now HW1.out HIB.out) hlt
      have HPC := Lib.hid (fun W => HPF.out i hlt W)
      have HTK1 := Lib.hid (fun h => goneL_take (x := r.1) (R := R) hlt h)
      have HTK2 := Lib.hid (fun h => keptL_take (x := r.1) (R := R) hlt h)
      have HBE : Hid (hasB (nthR R i).1 r.1 = !(placesF (nthR R i).1 r.1).isEmpty) := Lib.hid rfl
      have HNR : Hid (nthR R i = ((nthR R i).1, (nthR R i).2)) := Lib.hid rfl
      generalize hX : nthR R i = X at *
      clear hX
      obtain ⟨l, q⟩ := X
      simp only at k0 k1
      have p0 := fun o => (HBX.out _ (Below.now HIB.out (alloc_belowS wr o))).2.1.1
      have HN1 : Hid ([Value.string l, .string q].length = 1 * 2) := Lib.hid rfl
      have HN2 : Hid (∀ v ∈ [Value.string l, .string q], v.oneCell' = true) := Lib.hid (fun v hv => by simp at hv; rcases hv with rfl | rfl <;> rfl)
      generalize placesF l r.1 = P at *
      go_wp2_with fail
      refine (HPC.out _).mono ?_
      rintro e w5 ⟨a5, c5, rfl, ho5, hb5⟩
      have HIS5 := Lib.hid (HIS.out.later (Below.now (alloc_belowS wr _) hb5))
      obtain ⟨m0, m1⟩ := box_two hb5
      clear ho5 hb5 p0 k0 k1 HPC
      cases hh : hasB l r.1
      · obtain rfl : P = [] := by have h := HBE.out; rw [hh] at h; exact List.isEmpty_iff.1 (by simpa using h.symm)
        obtain ⟨hG, hK⟩ := HTK2.out hh
        have HG := Lib.hid hG
        have HK := Lib.hid hK
        clear hG hK hh HTK1 HTK2
        generalize goneL r.1 (R.take i) = G at *
        generalize keptL r.1 (R.take i) = K at *
        obtain ⟨aL, cL, rfl⟩ := owns_form HIS5.out.rec2.own
        obtain ⟨_, y1, _, y3⟩ := HIS5.out.rec2.facts
        go_wp2_with (at_builtin; refine wpList_appH rfl (.tmp 37) (.tmp 39) rfl Tryz.underlying23 Tryz.infoRule rfl (by decide) rfl HIS5.out.rec2.own HIS5.out.rec2.lt rfl HN1.out HN2.out (by unfold maxLen; omega) (by omega) ?_; intro g4 c4 w4 ho4 hg4 hr4; obtain ⟨_, x1, _, x3⟩ := rec_cells (HIS5.out.rec2.grown (Below.refl _ _) hg4))
        have HIS4 : Hid (InsSt w1 (w4.setCell ⟨w.heap.size + 3 + 1, 1, none⟩ (.slice (some ⟨g4, 0, none⟩) (K.length + 1) c4)) (w.heap.size + 3 + 1) k (.slice a6 G.length c6) (.slice (some ⟨g4, 0, none⟩) (K.length + 1) c4) (goneL r.1 (R.take (i + 1))) (keptL r.1 (R.take (i + 1)))) := Lib.hid (by rw [HG.out, HK.out]; exact HIS5.out.putK ho4 hg4 hr4)
        clear ho4 hg4 hr4 y1 y3 m0 m1 x1 x3
        go_wp2_with fail
        go_roundw
        case rel => exact ⟨i + 1, _, by omega, by go_num, HIS4⟩
        case measure => simp [intOf]; omega
      · have hpos : (0 : Int) < (P.length : Int) := by
          have h := HBE.out
          rw [hh] at h
          cases P with
          | nil => simp at h
          | cons x P => simp only [List.length_cons]; omega
        obtain ⟨hG, hK⟩ := HTK1.out hh
        have HG := Lib.hid hG
        have HK := Lib.hid hK
        clear hG hK hh HTK1 HTK2
        generalize goneL r.1 (R.take i) = G at *
        generalize keptL r.1 (R.take i) = K at *
        have HB6 := Lib.hid (HIS5.out.gone.later (alloc_belowS w5 (.cells #[.string l, .string q] 67)))
        go_wp2_with (at_builtin; refine wpList_appM rfl (.tmp 32) (.tmp 34) rfl Tryz.underlying23 Tryz.infoRule rfl (by decide) rfl HB6.out rfl (Src.lit _) HN1.out HN2.out (by unfold maxLen; omega) (by omega) ?_; intro v4 w4 hb4 hg4 ho4)
        have HIS4 : Hid (InsSt w1 w4 (w.heap.size + 3 + 1) k v4 vL (goneL r.1 (R.take (i + 1))) (keptL r.1 (R.take (i + 1)))) := Lib.hid (by rw [HG.out, HK.out]; exact HIS5.out.putG hb4 hg4 ho4)
        clear hb4 hg4 ho4 m0 m1
        go_wp2_with fail
        go_roundw
        case rel => exact ⟨i + 1, _, by omega, by go_num, HIS4⟩
        case measure => simp [intOf]; omega
    · obtain rfl : i = R.length := by omega
      have HIS2 : Hid (InsSt w1 wr (w.heap.size + 3 + 1) k (.slice a6 (goneL r.1 (R.take R.length)).length c6) vL (goneF R r.1) (keptF R r.1)) := Lib.hid (by rw [HGO.out.1, HGO.out.2]; exact HIS.out)
      rw [← HGO.out.1] at HIS2 ⊢
      clear HIS hl1 hl2 hl3
      obtain ⟨aL, cL, rfl⟩ := owns_form HIS2.out.rec2.own
      have HLK := Lib.hid (owns_rules HIS2.out.rec2.own)
      have hKl : (keptF R r.1).length ≤ 12 := by have := (goneL_len r.1 R).2; unfold keptF; unfold keptL at this; omega
      generalize hW : wr = wm at *
      clear hW
      have HSX : Hid (∀ W, Below wm.heap.size wm W → W.cell? ⟨w.heap.size, 0, none⟩ = some (.int .i64 k) ∧ W.cell? ⟨w.heap.size + 3 + 1, 1, none⟩ = some (.slice aL (keptF R r.1).length cL) ∧ W.cell? ⟨w.heap.size + 1, 0, none⟩ = some (.string r.1) ∧ W.cell? ⟨w.heap.size + 1, 1, none⟩ = some (.string r.2)) := Lib.hid (fun W hW => by
        have h1 := HBX.out W (Below.now HIB.out hW)
        exact ⟨h1.1.1, (HIS2.out.rec2.later hW).facts.2.1, h1.2.1⟩)
      obtain ⟨s0, s1, s2, s3⟩ := HSX.out wm (Below.refl _ _)
      have N3 : Hid (0 + (keptF R r.1).length ≤ maxLen) := Lib.hid (by unfold maxLen; omega)
      have N4 : Hid ((0 + (keptF R r.1).length) * 32 ≤ 140737488355328) := Lib.hid (by omega)
      have M3 : Hid ((keptF R r.1).length + 1 ≤ maxLen) := Lib.hid (by unfold maxLen; omega)
      have M4 : Hid (((keptF R r.1).length + 1) * 32 ≤ 140737488355328) := Lib.hid (by omega)
      go_wp2_with fail
      go_upto_region 10 with fail
      go_cut [10] (fun v wx => ∃ gO aO cO, v = .pointer (some ⟨gO, 0, none⟩) ∧ wx.heap[gO]? = some (.cells #[.int .i64 k, .slice aO ((keptF R r.1).length + 1) cO] 25 (0, 0)) ∧ ownsOff wx wm.heap.size 67 2 (.slice aO ((keptF R r.1).length + 1) cO) ((keptF R r.1).length + 1) (ruleCells (keptF R r.1) ++ [.string r.1, .string r.2]) ∧ Below wm.heap.size wm wx)
      case first =>
        generalize keptF R r.1 = K at *
        go_region_held3 (fun w' => w'.cell? ⟨w.heap.size, 0, none⟩ = some (.int .i64 k) ∧ w'.cell? ⟨w.heap.size + 3 + 1, 1, none⟩ = some (.slice aL K.length cL) ∧ w'.cell? ⟨w.heap.size + 1, 0, none⟩ = some (.string r.1) ∧ w'.cell? ⟨w.heap.size + 1, 1, none⟩ = some (.string r.2)) (first | (refine HSX.out _ ?_; ((repeat (first | exact Below.refl _ _ | refine Below.drew ?_ | refine below_drewN ?_ _ | refine Below.alloc ?_ (by simp; try omega) _)); done)) | (refine HSX.out _ (Below.now K2.out ?_); ((repeat (first | exact Below.refl _ _ | refine Below.drew ?_ | refine below_drewN ?_ _ | refine Below.alloc ?_ (by simp; try omega) _)); done)) | (refine HSX.out _ (Below.now K3.out ?_); ((repeat (first | exact Below.refl _ _ | refine Below.drew ?_ | refine below_drewN ?_ _ | refine Below.alloc ?_ (by simp; try omega) _)); done)) | exact HSX.out _ ((K3.out.setCell (by have := K2.out.size; simp; try omega) _).setCell (by have := K2.out.size; simp; try omega) _) | go_keep) (first
          | (refine step_append_off rfl (.tmp 45) (.tmp 47) (by rfl) Tryz.underlying23 Tryz.infoRule rfl (by decide) (by rfl) (off_emptyAt (base := wm.heap.size) ?_ ?_) (by simp; try omega) (by rfl) (src_rules Tryz.underlying23 (HLK.out.later (by repeat (first | exact Below.refl _ _ | refine Below.drew ?_ | refine below_drewN ?_ _ | refine Below.alloc ?_ (by simp; try omega) _))) cL) N3.out N4.out ?_; (focus ((repeat (with_reducible first | refine drew_at ?_ | refine drewN_at _ ?_ | (refine alloc_next _ _ ?_; (simp; done)) | refine alloc_oldI _ _ ?_)); done)); (focus (first | omega | (simp; done) | (simp; omega))); intro v2 w2 ho2 hg2; rw [Nat.zero_add, List.nil_append] at ho2; obtain ⟨va, vc, rfl⟩ := ho2.form; have k2 : Below wm.heap.size wm w2 := Below.grown (by repeat (first | exact Below.refl _ _ | refine Below.drew ?_ | refine below_drewN ?_ _ | refine Below.alloc ?_ (by simp; try omega) _)) hg2 (by simp; try omega) (fun k hk => by simp [Value.ownBlock] at hk; omega); have HO2 := Lib.hid ho2; have K2 := Lib.hid k2; obtain ⟨t0, t1, t2, t3⟩ := HSX.out w2 k2; (first | (refine cut_in (P := w2.heap[wm.heap.size]? = some (.cells #[.int .i64 0, .slice none 0 0] 25 (0, 0))) ?_ ?_; (focus (refine (hg2.block _ ?_ ?_).trans ?_; (focus (first | omega | (simp <;> omega))); (focus (simp [Value.ownBlock] <;> omega)); (focus ((repeat (with_reducible first | refine drew_at ?_ | refine drewN_at _ ?_ | (refine alloc_next _ _ ?_; (simp; done)) | refine alloc_oldI _ _ ?_)); done)))); intro Y0; have Y := Lib.hid (block_later Y0); clear Y0) | (refine cut_in (P := w2.heap[wm.heap.size + 1]? = some (.cells #[.int .i64 0, .slice none 0 0] 25 (0, 0))) ?_ ?_; (focus (refine (hg2.block _ ?_ ?_).trans ?_; (focus (first | omega | (simp <;> omega))); (focus (simp [Value.ownBlock] <;> omega)); (focus ((repeat (with_reducible first | refine drew_at ?_ | refine drewN_at _ ?_ | (refine alloc_next _ _ ?_; (simp; done)) | refine alloc_oldI _ _ ?_)); done)))); intro Y0; have Y := Lib.hid (block_later Y0); clear Y0) | (refine cut_in (P := w2.heap[wm.heap.size + 2]? = some (.cells #[.int .i64 0, .slice none 0 0] 25 (0, 0))) ?_ ?_; (focus (refine (hg2.block _ ?_ ?_).trans ?_; (focus (first | omega | (simp <;> omega))); (focus (simp [Value.ownBlock] <;> omega)); (focus ((repeat (with_reducible first | refine drew_at ?_ | refine drewN_at _ ?_ | (refine alloc_next _ _ ?_; (simp; done)) | refine alloc_oldI _ _ ?_)); done)))); intro Y0; have Y := Lib.hid (block_later Y0); clear Y0) | skip); (first | (refine cut_in (P := w2.heap[wm.heap.size]? = some (.cells #[.string r.1, .string r.2] 67 (0, 0))) ?_ ?_; (focus (refine (hg2.block _ ?_ ?_).trans ?_; (focus (first | omega | (simp <;> omega))); (focus (simp [Value.ownBlock] <;> omega)); (focus ((repeat (with_reducible first | refine drew_at ?_ | refine drewN_at _ ?_ | (refine alloc_next _ _ ?_; (simp; done)) | refine alloc_oldI _ _ ?_)); done)))); intro Y0; have Z := Lib.hid (block_later Y0); clear Y0) | (refine cut_in (P := w2.heap[wm.heap.size + 1]? = some (.cells #[.string r.1, .string r.2] 67 (0, 0))) ?_ ?_; (focus (refine (hg2.block _ ?_ ?_).trans ?_; (focus (first | omega | (simp <;> omega))); (focus (simp [Value.ownBlock] <;> omega)); (focus ((repeat (with_reducible first | refine drew_at ?_ | refine drewN_at _ ?_ | (refine alloc_next _ _ ?_; (simp; done)) | refine alloc_oldI _ _ ?_)); done)))); intro Y0; have Z := Lib.hid (block_later Y0); clear Y0) | (refine cut_in (P := w2.heap[wm.heap.size + 2]? = some (.cells #[.string r.1, .string r.2] 67 (0, 0))) ?_ ?_; (focus (refine (hg2.block _ ?_ ?_).trans ?_; (focus (first | omega | (simp <;> omega))); (focus (simp [Value.ownBlock] <;> omega)); (focus ((repeat (with_reducible first | refine drew_at ?_ | refine drewN_at _ ?_ | (refine alloc_next _ _ ?_; (simp; done)) | refine alloc_oldI _ _ ?_)); done)))); intro Y0; have Z := Lib.hid (block_later Y0); clear Y0) | skip); clear ho2 hg2 k2)
          | (refine step_append_off rfl (.tmp 48) (.tmp 50) (by rfl) Tryz.underlying23 Tryz.infoRule rfl (by decide) (by rfl) (HO2.out.later (by repeat (first | exact Below.refl _ _ | refine Below.drew ?_ | refine below_drewN ?_ _ | refine Below.alloc ?_ (by simp; try omega) _))) (by have := K2.out.size; simp; try omega) (by rfl) (src_box (x := r.1) (y := r.2) (T := 67) Tryz.underlying23 ?_ 1) M3.out M4.out ?_; (focus (first | exact Z.out _ (by repeat (first | exact Below.refl _ _ | refine Below.drew ?_ | refine below_drewN ?_ _ | refine Below.alloc ?_ (by simp; try omega) _)) | ((repeat (with_reducible first | refine drew_at ?_ | refine drewN_at _ ?_ | (refine alloc_next _ _ ?_; (simp; done)) | refine alloc_oldI _ _ ?_)); done))); intro v3 w3 ho3 hg3; obtain ⟨vb, vd, rfl⟩ := ho3.form; have k3 : Below wm.heap.size wm w3 := Below.grown (Below.now K2.out (by repeat (first | exact Below.refl _ _ | refine Below.drew ?_ | refine below_drewN ?_ _ | refine Below.alloc ?_ (by simp; try omega) _))) hg3 (by have := K2.out.size; simp; try omega) (fun k hk => (HO2.out.lt k hk).1); have HO3 := Lib.hid ho3; have K3 := Lib.hid k3; obtain ⟨q0, q1, q2, q3⟩ := HSX.out w3 k3; (first | (refine cut_in (P := w3.heap[wm.heap.size]? = some (.cells #[.int .i64 0, .slice none 0 0] 25 (0, 0))) ?_ ?_; (focus (refine grown_other (HO2.out.later (by repeat (first | exact Below.refl _ _ | refine Below.drew ?_ | refine below_drewN ?_ _ | refine Below.alloc ?_ (by simp; try omega) _))) hg3 ?_ (by decide); (first | exact Y.out _ (by repeat (first | exact Below.refl _ _ | refine Below.drew ?_ | refine below_drewN ?_ _ | refine Below.alloc ?_ (by simp; try omega) _)) | ((repeat (with_reducible first | refine drew_at ?_ | refine drewN_at _ ?_ | (refine alloc_next _ _ ?_; (simp; done)) | refine alloc_oldI _ _ ?_)); done)))); intro YS; obtain ⟨x0, x1, x2, x3⟩ := rec_cells YS; have XS := Lib.hid YS; clear YS) | (refine cut_in (P := w3.heap[wm.heap.size + 1]? = some (.cells #[.int .i64 0, .slice none 0 0] 25 (0, 0))) ?_ ?_; (focus (refine grown_other (HO2.out.later (by repeat (first | exact Below.refl _ _ | refine Below.drew ?_ | refine below_drewN ?_ _ | refine Below.alloc ?_ (by simp; try omega) _))) hg3 ?_ (by decide); (first | exact Y.out _ (by repeat (first | exact Below.refl _ _ | refine Below.drew ?_ | refine below_drewN ?_ _ | refine Below.alloc ?_ (by simp; try omega) _)) | ((repeat (with_reducible first | refine drew_at ?_ | refine drewN_at _ ?_ | (refine alloc_next _ _ ?_; (simp; done)) | refine alloc_oldI _ _ ?_)); done)))); intro YS; obtain ⟨x0, x1, x2, x3⟩ := rec_cells YS; have XS := Lib.hid YS; clear YS) | (refine cut_in (P := w3.heap[wm.heap.size + 2]? = some (.cells #[.int .i64 0, .slice none 0 0] 25 (0, 0))) ?_ ?_; (focus (refine grown_other (HO2.out.later (by repeat (first | exact Below.refl _ _ | refine Below.drew ?_ | refine below_drewN ?_ _ | refine Below.alloc ?_ (by simp; try omega) _))) hg3 ?_ (by decide); (first | exact Y.out _ (by repeat (first | exact Below.refl _ _ | refine Below.drew ?_ | refine below_drewN ?_ _ | refine Below.alloc ?_ (by simp; try omega) _)) | ((repeat (with_reducible first | refine drew_at ?_ | refine drewN_at _ ?_ | (refine alloc_next _ _ ?_; (simp; done)) | refine alloc_oldI _ _ ?_)); done)))); intro YS; obtain ⟨x0, x1, x2, x3⟩ := rec_cells YS; have XS := Lib.hid YS; clear YS) | (refine cut_in (P := w3.heap[w2.heap.size]? = some (.cells #[.int .i64 0, .slice none 0 0] 25 (0, 0))) ?_ ?_; (focus (refine grown_other (HO2.out.later (by repeat (first | exact Below.refl _ _ | refine Below.drew ?_ | refine below_drewN ?_ _ | refine Below.alloc ?_ (by simp; try omega) _))) hg3 ?_ (by decide); (first | exact Y.out _ (by repeat (first | exact Below.refl _ _ | refine Below.drew ?_ | refine below_drewN ?_ _ | refine Below.alloc ?_ (by simp; try omega) _)) | ((repeat (with_reducible first | refine drew_at ?_ | refine drewN_at _ ?_ | (refine alloc_next _ _ ?_; (simp; done)) | refine alloc_oldI _ _ ?_)); done)))); intro YS; obtain ⟨x0, x1, x2, x3⟩ := rec_cells YS; have XS := Lib.hid YS; clear YS) | (refine cut_in (P := w3.heap[w2.heap.size + 1]? = some (.cells #[.int .i64 0, .slice none 0 0] 25 (0, 0))) ?_ ?_; (focus (refine grown_other (HO2.out.later (by repeat (first | exact Below.refl _ _ | refine Below.drew ?_ | refine below_drewN ?_ _ | refine Below.alloc ?_ (by simp; try omega) _))) hg3 ?_ (by decide); (first | exact Y.out _ (by repeat (first | exact Below.refl _ _ | refine Below.drew ?_ | refine below_drewN ?_ _ | refine Below.alloc ?_ (by simp; try omega) _)) | ((repeat (with_reducible first | refine drew_at ?_ | refine drewN_at _ ?_ | (refine alloc_next _ _ ?_; (simp; done)) | refine alloc_oldI _ _ ?_)); done)))); intro YS; obtain ⟨x0, x1, x2, x3⟩ := rec_cells YS; have XS := Lib.hid YS; clear YS) | skip); clear ho3 hg3 k3))
        all_goals
          clear t0 t1 t2 t3 q0 q1 q2 q3
          (try (clear x0 x1 x2 x3))
          go_wp2_with fail
          go_meet
          first
            | exact ⟨_, _, _, rfl, alloc_at w3 _, HO3.out.later (alloc_belowS w3 _), Below.now K3.out (alloc_belowS w3 _)⟩
            | exact ⟨_, _, _, rfl, set_two XS.out _ _, HO3.out.set2 XS.out (by decide) _ _ _ _, (K3.out.setCell (by have := K2.out.size; simp; try omega) _).setCell (by have := K2.out.size; simp; try omega) _⟩
      case rest =>
        obtain ⟨gO, aO, cO, rfl, hgO, hoO, hbc⟩ := hcut
        have HBC := Lib.hid hbc
        have HAO : Hid (RulesIn wc aO (allF R r)) := Lib.hid (by
          have h := hoO.cells
          rw [← ruleCells_one1] at h
          exact h)
        have HAL : Hid ((allF R r).length = (keptF R r.1).length + 1) := Lib.hid (by unfold allF; rw [List.length_append, List.length_singleton])
        rw [← HAL.out] at hgO
        have HGO2 := Lib.hid (fun W hW => rec_cells (block_later hgO W hW))
        have HTR := Lib.hid (fun u W (hu : wordOkB k u = true) h => l04Trace_all k R r aO cO u W h HS.out HR.out hu)
        have HKW : Hid (∀ i, i < (keptF R r.1).length → wordOkB k (nthR (keptF R r.1) i).2 = true) := Lib.hid (fun i hi => (HS.out.1.2 _ (List.mem_filter.1 (nthR_mem hi)).1).1.1.2)
        have HNF : Hid (∀ N, N = mapG (phiF R r) (keptF R r.1) ++ [r] → N.length = (nextF R r).length ∧ (¬ 12 < (nextF R r).length → N = nextF R r)) := Lib.hid (fun N hN => by
          have hl := nextF_len R r
          have hm := mapG_len (phiF R r) (keptF R r.1)
          refine ⟨by rw [hN, List.length_append, List.length_singleton, hm, hl], fun h => ?_⟩
          rw [hN]
          unfold nextF mapF mapG
          have e : phiF R r = nfC (allF R r) := funext fun u => by
            unfold phiF
            rw [if_pos (by have := HAL.out; omega)]
          rw [e])
        have HLK2 := Lib.hid (HLK.out.later hbc)
        have HRC : Hid (Rec2 25 67 2 wc (wc.alloc (.cells #[.int .i64 k, .slice none 0 0] 25)) wc.heap.size (.int .i64 k) (.slice none 0 0) (mapG (phiF R r) ((keptF R r.1).take 0)).length (ruleCells (mapG (phiF R r) ((keptF R r.1).take 0)))) := Lib.hid (Rec2.start 25 67 2 (Below.refl _ _) (.int .i64 k))
        have HCB : Hid (∀ W, Below wc.heap.size wc W → Below w1.heap.size w1 W) := Lib.hid (fun W hW => Below.now HIB.out (Below.now hbc hW))
        obtain ⟨⟨s0, _⟩, _, _⟩ := HBX.out wc (HCB.out _ (Below.refl _ _))
        have p1 := fun o => (HSX.out _ (Below.now hbc (alloc_belowS wc o))).2.1
        clear s1 s2 s3 hgO hoO hbc
        generalize hK : keptF R r.1 = K at *
        have HK := Lib.hid hK
        clear hK
        go_wp2_with fail
        go_loopw [59] (fun vi wr => ∃ (i : Nat) (vN : Value), i ≤ K.length ∧ vi = .int .i64 (i : Nat) ∧ Hid (Rec2 25 67 2 wc wr wc.heap.size (.int .i64 k) vN (mapG (phiF R r) (K.take i)).length (ruleCells (mapG (phiF R r) (K.take i))))) (fun vi _ => K.length - (intOf vi).toNat)
        case atStart => exact ⟨0, _, Nat.zero_le _, rfl, HRC⟩
        case round =>
          clear HRC p1 s0
          obtain ⟨i, vN, hi, rfl, HRC⟩ := hrel
          obtain ⟨aN, cN, rfl⟩ := owns_form HRC.out.own
          have hml := mapG_len (phiF R r) (K.take i)
          have hGl : (mapG (phiF R r) (K.take i)).length ≤ 12 := by rw [hml, List.length_take]; omega
          clear hml
          by_cases hlt : i < K.length
          · obtain ⟨b, off, rfl, hb, k0, k1⟩ := rule_at HLK2.out HRC.out.below hlt
            have HTC := Lib.hid (fun W hW => HTR.out (nthR K i).2 W (HKW.out i hlt) hW)
            have HTK := Lib.hid (mapG_take (f := phiF R r) (K := K) hlt)
            generalize hX : nthR K i = X at *
            clear hX
            obtain ⟨l, q⟩ := X
            simp only at k0 k1
            generalize phiF R r q = q2 at *
            have p0 := fun o => (HGO2.out _ (Below.now HRC.out.below (alloc_belowS wr o))).1
            have p1 := fun o => (HGO2.out _ (Below.now HRC.out.below (alloc_belowS wr o))).2.1
            have HAW := Lib.hid (fun o => HAO.out.later (Below.now HRC.out.below (alloc_belowS wr o)))
            have HN1 : Hid ([Value.string l, .string q2].length = 1 * 2) := Lib.hid rfl
            have HN2 : Hid (∀ v ∈ [Value.string l, .string q2], v.oneCell' = true) := Lib.hid (fun v hv => by simp at hv; rcases hv with rfl | rfl <;> rfl)
            go_wp2_with fail
            refine (HTC.out _ (HAW.out _)).mono ?_
            rintro e w5 ⟨vt, rfl, hb5⟩
            have HR5 := Lib.hid (HRC.out.later (Below.now (alloc_belowS wr _) hb5))
            obtain ⟨⟨m0, m1⟩, f0, f1⟩ := box_facts hb5
            have hsz := HRC.out.lt
            have hbk : (Value.slice aN (mapG (phiF R r) (K.take i)).length cN).ownBlock ≠ some wr.heap.size := fun e => by have := (HRC.out.own.lt _ e).2; omega
            have HR6 : Hid (Rec2 25 67 2 wc (w5.setCell ⟨wr.heap.size, 1, none⟩ (.string q2)) wc.heap.size (.int .i64 k) (.slice aN (mapG (phiF R r) (K.take i)).length cN) (mapG (phiF R r) (K.take i)).length (ruleCells (mapG (phiF R r) (K.take i)))) := Lib.hid (HR5.out.setFar 1 (.string q2) (by omega) hbk HRC.out.below.size)
            have hbl : w5.heap[wr.heap.size]? = some (.cells #[.string l, .string q] 67 (0, 0)) := (hb5.block _ (by simp)).trans (alloc_at wr _)
            have hbl2 : (w5.setCell ⟨wr.heap.size, 1, none⟩ (.string q2)).heap[wr.heap.size]? = some (.cells #[.string l, .string q2] 67 (0, 0)) := by
              unfold World.setCell
              simp [Array.getElem?_modify, hbl]
            obtain ⟨n0, n1, _, _⟩ := rec_cells hbl2
            obtain ⟨_, y1, _, y3⟩ := HR6.out.facts
            clear hb5 p0 p1 k0 k1 HTC HAW hbk hbl hbl2
            generalize mapG (phiF R r) (K.take i) = G at *
            go_upto_region 16 with fail
            generalize w5.setCell ⟨wr.heap.size, 1, none⟩ (.string q2) = w6 at *
            go_wp2_with (at_builtin; refine wpList_appH rfl (.tmp 72) (.tmp 74) rfl Tryz.underlying23 Tryz.infoRule rfl (by decide) rfl HR6.out.own HR6.out.lt rfl HN1.out HN2.out (by unfold maxLen; omega) (by omega) ?_; intro g4 c4 w4 ho4 hg4 hr4; obtain ⟨_, x1, _, x3⟩ := rec_cells (HR6.out.grown (Below.refl _ _) hg4))
            have HR4 : Hid (Rec2 25 67 2 wc (w4.setCell ⟨wc.heap.size, 1, none⟩ (.slice (some ⟨g4, 0, none⟩) (G.length + 1) c4)) wc.heap.size (.int .i64 k) (.slice (some ⟨g4, 0, none⟩) (G.length + 1) c4) (mapG (phiF R r) (K.take (i + 1))).length (ruleCells (mapG (phiF R r) (K.take (i + 1))))) := Lib.hid (by
              rw [HTK.out, List.length_append, ruleCells_one1]; exact HR6.out.put (Below.refl _ _) hg4 ho4)
            clear ho4 hg4 hr4 y1 y3 m0 m1 f0 f1 n0 n1 x1 x3
            go_wp2_with fail
            go_roundw
            case rel => exact ⟨i + 1, _, by omega, by go_num, HR4⟩
            case measure => simp [intOf]; omega
          · obtain rfl : i = K.length := by omega
            have hfull : mapG (phiF R r) (K.take K.length) = mapG (phiF R r) K := by rw [List.take_length]
            rw [hfull] at HRC hGl
            have HR0 := Lib.hid (HNF.out _ rfl)
            obtain ⟨_, ⟨d0, d1⟩, _⟩ := HBX.out wr (HCB.out _ HRC.out.below)
            obtain ⟨_, y1, _, y3⟩ := HRC.out.facts
            have HN1 : Hid ([Value.string r.1, .string r.2].length = 1 * 2) := Lib.hid rfl
            have HN2 : Hid (∀ v ∈ [Value.string r.1, .string r.2], v.oneCell' = true) := Lib.hid (fun v hv => by simp at hv; rcases hv with rfl | rfl <;> rfl)
            have HGN := Lib.hid HIS2.out.gone
            clear hfull
            generalize hG : mapG (phiF R r) K = G at *
            have HG := Lib.hid hG
            clear hG
            go_upto_region 19 with (at_builtin; refine wpList_appH rfl (.tmp 79) (.tmp 81) rfl Tryz.underlying23 Tryz.infoRule rfl (by decide) rfl HRC.out.own HRC.out.lt rfl HN1.out HN2.out (by unfold maxLen; omega) (by omega) ?_; intro g4 c4 w4 ho4 hg4 hr4; obtain ⟨_, x1, _, x3⟩ := rec_cells (HRC.out.grown (Below.refl _ _) hg4))
            have HR4 := Lib.hid (HRC.out.put (Below.refl _ _) hg4 ho4)
            clear ho4 hg4 hr4 y1 y3 d0 d1 x1 x3
            generalize w4.setCell ⟨wc.heap.size, 1, none⟩ (.slice (some ⟨g4, 0, none⟩) (G.length + 1) c4) = w7 at *
            obtain ⟨y0, y1, _, _⟩ := HR4.out.facts
            obtain ⟨_, _, u0, u1, z0, z1⟩ := HBX.out w7 (HCB.out _ HR4.out.below)
            have hsz := HSZ.out
            have hwc : w.heap.size + 3 ≤ wc.heap.size := by have := (HCB.out wc (Below.refl _ _)).size; omega
            have F : Hid (RetIns k R r w (.returned (.tuple #[.agg #[.int .i64 k, .slice (some ⟨g4, 0, none⟩) (G.length + 1) c4], .slice a6 (goneF R r.1).length c6])) ((w7.setCell ⟨w.heap.size + 1 + 1, 0, none⟩ (.int .i64 k)).setCell ⟨w.heap.size + 1 + 1, 1, none⟩ (.slice (some ⟨g4, 0, none⟩) (G.length + 1) c4))) := Lib.hid (by
              have h1 := HR0.out
              have hl : (G ++ [r]).length = G.length + 1 := by rw [List.length_append, List.length_singleton]
              have ho := HR4.out.own
              have hgn := HGN.out.later (Below.now HBC.out HR4.out.below)
              refine ⟨G ++ [r], some ⟨g4, 0, none⟩, a6, c4, c6, h1.1, h1.2, by rw [hl], ?_, ?_, ?_⟩
              · rw [hl, ruleCells_one1]
                exact owns_mono (ownsRow_setCell_below (ownsRow_setCell_below ho (by show w.heap.size + 1 + 1 < wc.heap.size + 1; omega) _) (by show w.heap.size + 1 + 1 < wc.heap.size + 1; omega) _) (by omega)
              · exact owns_mono (ownsRow_setCell_below (ownsRow_setCell_below hgn.1 (by show w.heap.size + 1 + 1 < w1.heap.size; omega) _) (by show w.heap.size + 1 + 1 < w1.heap.size; omega) _) (by omega)
              · exact ((Below.now HW1.out (HCB.out _ HR4.out.below)).setCell (by show w.heap.size ≤ w.heap.size + 1 + 1; omega) _).setCell (by show w.heap.size ≤ w.heap.size + 1 + 1; omega) _)
            go_wp2_with fail
            refine bodyPost_ret (v := .tuple #[.agg #[.int .i64 k, .slice (some ⟨g4, 0, none⟩) (G.length + 1) c4], .slice a6 (goneF R r.1).length c6]) ?_ rfl F.out
            simp [results, Tryz.results103, go_sem, u0, u1]
end Go.Proofs.YtgoeadgpbidgiaaGreat
