/-
  One row appended to a copy of another, in a region that draws its order.
-/
import Derived.Test.YtggfhephdcnpcaaGreatGrp20
import Derived.Test.YtggfhephdcnpcaaGreatGrp22
import Derived.Test.YtggfhephdcnpcaaGreatGrp15
import Derived.Maps.OwnSet
import Derived.Laws.EntriesVeiled
import Derived.Test.YtggfhephdcnpcaaGreatGrp02
import Derived.Test.YtggfhephdcnpcaaGreatGrp04
import Derived.Test.YtggfhephdcnpcaaGreatGrp06
namespace Go.Proofs.YtggfhephdcnpcaaGreat
open Go.RowKit Go.Maps Go.WideMaps
set_option linter.unusedVariables false
theorem wpList_insert_ownG {H : Type} {P : Program} (w : World) {ops : Array Oper} {rest : List Oper} {o : Oper} {a : Act} {Q : Exit → Act → World → Prop}
    (hg : o.guard = none) (m x v : Operand) (t : TypeId) (hop : o.op = Op.insert t m x v)
    (k e : TypeId) (K : Keyed P k) (ht : P.underlying t = some (.map k e)) (R : Value → Option (DataW H × List MemPlace)) (b n : Nat) (D : DataW H)
    (hm : a.eval m = .map (some b)) (hown : w.ownsMap P k R b n D) (hn : n < maxLen) (key val : Value) (kl : Lit) (hx : a.eval x = key) (hv : a.eval v = val) (hkey : keyOf P k key = some kl)
    (d : DataW H) (ps : List MemPlace) (hval : R val = some (d, ps))
    (hK : ∀ w', w'.ownsMap P k R b (n + 1) (D.put kl d) → w.grownBy w' (some b) → wpList P ops Q rest (a.put o.dst undef) w') :
    wpList P ops Q (o :: rest) a w := by
  refine wpList_plain hg fun K' hK' => ?_
  obtain ⟨w', hrun, r1, r2⟩ := hown.update K ht hn hkey hval
  unfold Oper.wp
  simp [execOp, hop, hm, hx, hv, hrun, Result.andThen]
  exact hK' _ _ (hK w' r1 r2)
theorem keySG : Keyed Tryz.prog 9 := string_keyed Tryz.underlying9
theorem keyOkG (s : ByteArray) (h : s.size ≤ maxLen) : keyOf Tryz.prog 9 (.string s) = some (keyL s) := keyOf_string_mk Tryz.underlying9 h
theorem zeroIntG (w : World) : (zeroValue 3).run Tryz.prog w = .ok (.int .i64 0) w := by kernel_rfl
abbrev OwnM (w : World) (b m : Nat) (D : DataW Unit) : Prop := w.ownsMap Tryz.prog 9 (plainElem (H := Unit) Tryz.prog 3) b m D
theorem belowGrown {w w' : World} (h : Below w.heap.size w w') : w.grownBy w' none := ⟨h.os, h.tape, h.output, h.size, fun k hk _ => h.block k hk⟩
theorem own_ne_map {w : World} {base : Nat} {T : TypeId} {size : Nat} {v : Value} {n : Nat} {xs : List Value} {b m : Nat} {D : DataW Unit} (h : w.ownsRow base T size v n xs) (hm : OwnM w b m D) : some b ≠ v.ownBlock := fun e => by
  obtain ⟨es, clock, hb, _⟩ := hm
  rcases h.2 with ⟨rfl, _⟩ | ⟨g, cap, cur, rfl, _, hg, _⟩
  · cases e
  · simp only [Value.ownBlock, Option.some.injEq] at e
    subst e
    rw [hb] at hg; cases hg
theorem own_ne_iter {w : World} {base : Nat} {T : TypeId} {size : Nat} {v : Value} {n : Nat} {xs : List Value} {b r m : Nat} {D : DataW Unit} {left : Lit → Bool} {cnt : Nat} (h : w.ownsRow base T size v n xs) (hm : w.ranges Tryz.prog 9 (plainElem (H := Unit) Tryz.prog 3) b r m D left cnt) : some r ≠ v.ownBlock := fun e => by
  obtain ⟨_, _, _, _, _, _, _, _, _, hit, _⟩ := hm
  rcases h.2 with ⟨rfl, _⟩ | ⟨g, cap, cur, rfl, _, hg, _⟩
  · cases e
  · simp only [Value.ownBlock, Option.some.injEq] at e
    subst e
    rw [hit] at hg; cases hg
theorem bldMap {T : TypeId} {w wr wr' : World} {v : Value} {n : Nat} {xs : List Value} {b : Nat} (h : Bld T 1 w wr v n xs) (hg : wr.grownBy wr' (some b)) (hne : some b ≠ v.ownBlock) (hb : w.heap.size ≤ b) : Bld T 1 w wr' v n xs :=
  keptB h hg (fun k hk e => hne (by rw [hk]; exact e)) (fun k hk => by cases hk; exact hb)
theorem invKG (key : Value) (kl : Lit) (h : keyOf Tryz.prog 9 key = some kl) : ∃ x, key = Value.string x := by
  obtain ⟨s, h1, _⟩ := string_of_keyOf Tryz.underlying9 h
  exact ⟨s, h1⟩
theorem invVG (v : Value) (y : DataW Unit × List MemPlace) (h : plainElem (H := Unit) Tryz.prog 3 v = some y) : ∃ c, v = Value.int .i64 c := by
  obtain ⟨c, h1, _⟩ := plainElem_int_inv Tryz.underlying3 h
  exact ⟨c, h1⟩
theorem wf64 {c : Nat} (h : c ≤ 34359738368) : (Lit.int .i64 (c : Int)).wf = true := by
  have h1 : IntKind.i64.min = -9223372036854775808 := by decide
  have h2 : IntKind.i64.max = 9223372036854775807 := by decide
  simp only [Lit.wf, h1, h2, Bool.and_eq_true, decide_eq_true_eq]; omega
end Go.Proofs.YtggfhephdcnpcaaGreat
namespace Go.Proofs.YtggfhephdcnpcaaGreat
open Go.RowKit Go.Maps Go.WideMaps
set_option linter.unusedVariables false
theorem ownM_tight {w : World} {b m : Nat} {D : DataW Unit} (h : OwnM w b m D) : OwnM w b (Maps.size D) D := by
  obtain ⟨es, clock, h1, h2, h3, rfl⟩ := h
  exact ⟨es, clock, h1, h2, by rw [Maps.size_eq, length_sorted, List.length_map, Array.length_toList]; exact Nat.le_refl _, rfl⟩
/-- what the closure hands back -/
def RetH (R : List RulD) (k : Nat) (way : List ByteArray) (e0 : ByteArray) (b : Nat) (W : World) (e : Ending) (W' : World) : Prop :=
  ∃ h, HtIs R k e0 h ∧ e = .returned (.int .i64 h) ∧ W.grownBy W' (some b) ∧ (0 ≤ h → ∃ m D, OwnM W' b m D ∧ HMap R k way D)
theorem wfI {h : Int} (h1 : -1 ≤ h) (h2 : h ≤ 21845) : (Lit.int .i64 h).wf = true := by
  have h3 : IntKind.i64.min = -9223372036854775808 := by decide
  have h4 : IntKind.i64.max = 9223372036854775807 := by decide
  simp only [Lit.wf, h3, h4, Bool.and_eq_true, decide_eq_true_eq]; omega
end Go.Proofs.YtggfhephdcnpcaaGreat
namespace Go.Proofs.YtggfhephdcnpcaaGreat
open Go.RowKit Go.Maps Go.WideMaps
set_option linter.unusedVariables false
theorem wf64A {c : Nat} (h : c ≤ 9223372036854775807) : (Lit.int .i64 (c : Int)).wf = true := by
  have h1 : IntKind.i64.min = -9223372036854775808 := by decide
  have h2 : IntKind.i64.max = 9223372036854775807 := by decide
  simp only [Lit.wf, h1, h2, Bool.and_eq_true, decide_eq_true_eq]; omega
theorem WayG.leT {R : List RulD} {k n : Nat} {W V : WayD} (hap : ApartW W) {i j : Nat} (hW : WayAt R k n W) (hi : i < W.length) {left : Lit → Bool} (hl : left (keyL W[i].1) = true) (hj : j ≤ k) (h : WayG R k (doneW left W) j W[i].1 W[i].2 V) : wsum R k 0 V ≤ paths R k (n + 1) ⟨#[]⟩ := by
  rw [h.eq 0]
  have h1 := doneW_step R k (0 + 1) hap hi hl
  have h0 := doneW_le R k (0 + 1) (fun z => left z && !z.sameKey (keyL W[i].1)) W
  rw [h1, paths_succ] at h0
  have h2 := pTo_mono R k 0 W[i].1 hj
  have h3 : W[i].2 * pTo R k 0 W[i].1 j ≤ W[i].2 * pTo R k 0 W[i].1 k := Nat.mul_le_mul_left _ h2
  have h4 := hW.eq (0 + 1)
  have h6 : n + (0 + 1) = n + 1 := by omega
  rw [h6] at h4
  omega
theorem WayG.le0T {R : List RulD} {k n : Nat} {W V : WayD} (hW : WayAt R k n W) {left : Lit → Bool} {e : ByteArray} {c : Nat} (h : WayG R k (doneW left W) 0 e c V) : wsum R k 0 V ≤ paths R k (n + 1) ⟨#[]⟩ := by
  rw [h.eq 0, pTo_zero]
  have h0 := doneW_le R k (0 + 1) left W
  have h4 := hW.eq (0 + 1)
  have h6 : n + (0 + 1) = n + 1 := by omega
  rw [h6] at h4
  omega
end Go.Proofs.YtggfhephdcnpcaaGreat
namespace Go.Proofs.YtggfhephdcnpcaaGreat
open Go.RowKit Go.Maps Go.WideMaps
set_option linter.unusedVariables false
/-- a height that is handed back -/
def RetHt (R : List RulD) (k : Nat) (e0 : ByteArray) (w : World) (e : Ending) (w' : World) : Prop := ∃ h, HtIs R k e0 h ∧ e = .returned (.int .i64 h) ∧ Below w.heap.size w w'
end Go.Proofs.YtggfhephdcnpcaaGreat
namespace Go.Proofs.YtggfhephdcnpcaaGreat
open Go.RowKit
set_option linter.unusedVariables false
/-- what LongestReduced is -/
def LngIs (k : Int) (R : List RulD) (h : Int) : Prop := (¬ sysP k R ∧ h = -1) ∨ (sysP k R ∧ HtIs R k.toNat ⟨#[]⟩ h)
theorem LngIs.uniq {k : Int} {R : List RulD} {h h' : Int} (a : LngIs k R h) (b : LngIs k R h') : h = h' := by
  rcases a with ⟨a1, a2⟩ | ⟨a1, a2⟩ <;> rcases b with ⟨b1, b2⟩ | ⟨b1, b2⟩
  · rw [a2, b2]
  · exact absurd b1 a1
  · exact absurd a1 b1
  · exact a2.uniq b2
def RetLg (k : Int) (R : List RulD) (w : World) (e : Ending) (w' : World) : Prop := ∃ h, LngIs k R h ∧ e = .returned (.int .i64 h) ∧ Below w.heap.size w w'
/-- the words of less than j letters -/
def pSum (R : List RulD) (k j : Nat) : Nat := ((List.range j).map fun m => paths R k m ⟨#[]⟩).sum
theorem pSum_succ (R : List RulD) (k j : Nat) : pSum R k (j + 1) = pSum R k j + paths R k j ⟨#[]⟩ := by
  unfold pSum; rw [List.range_succ, List.map_append, List.sum_append]; simp
theorem pSum_mono (R : List RulD) (k : Nat) {i j : Nat} (h : i ≤ j) : pSum R k i ≤ pSum R k j := by
  induction h with
  | refl => exact Nat.le_refl _
  | step _ ih => rw [pSum_succ]; omega
theorem pSum_at (R : List RulD) (k : Nat) {i j : Nat} (h : i < j) : paths R k i ⟨#[]⟩ ≤ pSum R k j := by
  have h1 := pSum_mono R k (show i + 1 ≤ j from h)
  rw [pSum_succ] at h1; omega
theorem pSum_top {R : List RulD} {k n : Nat} (G : SysG R k) (h : HtIs R k ⟨#[]⟩ (n : Int)) : pSum R k (n + 1) ≤ topB := by
  rcases h with ⟨h1, _⟩ | ⟨m, h1, _, h3⟩
  · omega
  · have : m = n := by omega
    subst this
    exact paths_all G h3
/-- what CountAll is -/
def CntIs (k : Int) (R : List RulD) (c : Int) : Prop := ∃ h, LngIs k R h ∧ ((h < 0 ∧ c = -1) ∨ (0 ≤ h ∧ c = ((pSum R k.toNat (h.toNat + 1) : Nat) : Int)))
theorem CntIs.uniq {k : Int} {R : List RulD} {c c' : Int} (a : CntIs k R c) (b : CntIs k R c') : c = c' := by
  obtain ⟨h, a1, a2⟩ := a
  obtain ⟨h', b1, b2⟩ := b
  obtain rfl := a1.uniq b1
  rcases a2 with ⟨a2, a3⟩ | ⟨a2, a3⟩ <;> rcases b2 with ⟨b2, b3⟩ | ⟨b2, b3⟩
  · rw [a3, b3]
  · omega
  · omega
  · rw [a3, b3]
def RetCn (k : Int) (R : List RulD) (w : World) (e : Ending) (w' : World) : Prop := ∃ c, CntIs k R c ∧ e = .returned (.int .i64 c) ∧ Below w.heap.size w w'
end Go.Proofs.YtggfhephdcnpcaaGreat
namespace Go.Proofs.YtggfhephdcnpcaaGreat
open Go.RowKit
set_option linter.unusedVariables false
theorem alloc_new (w : World) (o : Obj) : (w.alloc o).heap[w.heap.size]? = some o := by
  unfold World.alloc; simp
theorem alloc_old (w : World) (o : Obj) {k : Nat} (h : k < w.heap.size) : (w.alloc o).heap[k]? = w.heap[k]? := by
  unfold World.alloc; rw [Array.getElem?_push_lt h, Array.getElem?_eq_getElem h]
theorem alloc_size (w : World) (o : Obj) : (w.alloc o).heap.size = w.heap.size + 1 := by simp
theorem two_lo (w : World) (o o' : Obj) : ((w.alloc o).alloc o').heap[w.heap.size]? = some o := by
  rw [alloc_old _ _ (by rw [alloc_size]; omega)]; exact alloc_new _ _
theorem two_hi (w : World) (o o' : Obj) : ((w.alloc o).alloc o').heap[w.heap.size + 1]? = some o' := by
  rw [← alloc_size w o]; exact alloc_new _ _
theorem bld_at {T : TypeId} {wr W : World} {H : Nat} (hb : Below wr.heap.size wr W) (hH : W.heap[H]? = some (.cells #[] T (0, 0))) (hge : wr.heap.size ≤ H) : Bld T 1 wr W (.slice (some ⟨H, 0, none⟩) 0 0) 0 [] :=
  ⟨⟨rfl, .inr ⟨H, 0, #[], rfl, hge, hH, Nat.le_refl _, Nat.zero_le _, rfl, rfl⟩⟩, hb⟩
theorem src_at {T : TypeId} {W : World} {H : Nat} {y : Value} (hH : W.heap[H]? = some (.cells #[y] T (0, 0))) : Src W (.slice (some ⟨H, 0, none⟩) 1 1) 1 [y] := by
  refine .inr ⟨_, _, rfl, fun j u hu => ?_⟩
  have hj : j = 0 := by have := (List.getElem?_eq_some_iff.1 hu).1; simp at this; omega
  subst hj
  rw [add_off]
  simp at hu
  simp [World.cell?, hH, hu]
theorem Src.grown {w w' : World} {H m c : Nat} {own : Option Nat} {news : List Value} (h : Src w (.slice (some ⟨H, 0, none⟩) m c) m news) (hg : w.grownBy w' own) (hH : H < w.heap.size) (hne : own ≠ some H) : Src w' (.slice (some ⟨H, 0, none⟩) m c) m news := by
  rcases h with ⟨h, _⟩ | ⟨ad, c', hx, hc⟩
  · cases h
  · simp only [Value.slice.injEq, Option.some.injEq, true_and] at hx
    obtain ⟨rfl, rfl⟩ := hx
    refine .inr ⟨_, _, rfl, fun j u hu => ?_⟩
    rw [add_off]
    have h1 := hc j u hu
    rw [add_off] at h1
    rw [World.cell?_of_block (w := w) (hg.block H hH (fun e => hne e.symm))]
    exact h1
section
variable {P : Program}
/-- the same where the operation is guarded -/
theorem step_appM_g {ops : Array Oper} {o : Oper} {a : Act} {K : Act → World → Prop} {Q : Exit → Act → World → Prop} {E : Prop} {T tsl : TypeId} {z : Value} {size bytes : Nat} (hw : Region.wanted o (yielded ops a.tmps) = true) (s x : Operand)
    (ho : o.op = .call { callee := .builtin .append, args := #[s, x], argTypes := #[tsl, tsl] }) (ht : P.underlying tsl = some (.slice T)) (hinfo : (P.info? T).map (fun i => (i.zero, i.size, i.bytes)) = some (some z, size, bytes))
    (hzs : z.cells.size = size) (hpos : 0 < size) {w wr : World} {v u : Value} {n m : Nat} {xs news : List Value} (hs : a.eval s = v) (hb : Bld T size w wr v n xs) (hx : a.eval x = u) (hsrc : Src wr u m news)
    (hn : news.length = m * size) (h1 : ∀ u ∈ news, u.oneCell' = true) (h63 : n + m ≤ maxLen) (hbytes : (n + m) * bytes ≤ 140737488355328)
    (hK : ∀ v' w', Bld T size w w' v' (n + m) (xs ++ news) → wr.grownBy w' v.ownBlock → (v'.ownBlock = v.ownBlock ∨ v'.ownBlock = some wr.heap.size) → K (a.put o.dst v') w') : if Region.wanted o (yielded ops a.tmps) = true then Oper.wp P o a wr K Q else E := by
  rw [if_pos hw]
  obtain ⟨v', w', hr, h2, h3, h4⟩ := run_appM (ty := o.type) ht hinfo hzs hpos hb hsrc hn h1 h63 hbytes
  unfold Oper.wp execOp
  simp only [ho, resolve, invoke, builtin, Sem.run_bind, Sem.run_pure, Result.andThen_ok, List.map_toArray, List.map_cons, List.map_nil, hs, hx, hr]
  exact hK _ _ h2 h3 h4
theorem step_appM_gby {ops : Array Oper} {o : Oper} {a : Act} {K : Act → World → Prop} {Q : Exit → Act → World → Prop} {E : Prop} {T tsl : TypeId} {z : Value} {bytes : Nat} (hg : Region.wanted o (yielded ops a.tmps) = true) (s x : Operand)
    (ho : o.op = .call { callee := .builtin .append, args := #[s, x], argTypes := #[tsl, tsl] }) (ht : P.underlying tsl = some (.slice T)) (hinfo : (P.info? T).map (fun i => (i.zero, i.size, i.bytes)) = some (some z, 1, bytes))
    (hzs : z.cells.size = 1) {w wr : World} {H H2 : Nat} {u y : Value} {m : Nat} {news : List Value} (hs : a.eval s = .slice (some ⟨H, 0, none⟩) 0 0) (hb : Bld T 1 w wr (.slice (some ⟨H, 0, none⟩) 0 0) 0 []) (hx : a.eval x = u) (hsrc : Src wr u m news)
    (hy : Src wr (.slice (some ⟨H2, 0, none⟩) 1 1) 1 [y]) (hH : H ≠ H2) (hH2 : H2 < wr.heap.size)
    (hn : news.length = m) (h1 : ∀ u ∈ news, u.oneCell' = true) (h63 : m ≤ maxLen) (hbytes : m * bytes ≤ 140737488355328)
    (hK : ∀ v' w', Bld T 1 w w' v' m news → Src w' (.slice (some ⟨H2, 0, none⟩) 1 1) 1 [y] → K (a.put o.dst v') w') : if Region.wanted o (yielded ops a.tmps) = true then Oper.wp P o a wr K Q else E := by
  refine step_appM_g hg s x ho ht hinfo hzs (by omega) hs hb hx hsrc (by omega) h1 (by omega) (by rw [Nat.zero_add]; exact hbytes) fun v' w' h2 hgr _ => ?_
  rw [Nat.zero_add, List.nil_append] at h2
  exact hK v' w' h2 (hy.grown hgr hH2 (fun e => hH (by simpa [Value.ownBlock] using e)))
end
theorem owns_strsIn2 {w : World} {base : Nat} {T : TypeId} {a : Option Addr} {n cap : Nat} {l : List ByteArray} (h : w.ownsRow base T 1 (.slice a n cap) n (strVals l)) : StrsIn w a l := owns_cells h
theorem strsIn_app {w : World} {base g n cap : Nat} {T : TypeId} {l : List ByteArray} {x : ByteArray} (h : w.ownsRow base T 1 (.slice (some ⟨g, 0, none⟩) n cap) n (strVals l ++ [.string x])) : StrsIn w (some ⟨g, 0, none⟩) (l ++ [x]) := by
  refine owns_strsIn2 (n := n) (cap := cap) (base := base) (T := T) ?_
  unfold strVals at *
  rw [List.map_append]; exact h
end Go.Proofs.YtggfhephdcnpcaaGreat
