/-
  A region that draws its order, walked once: each operation keeps a class of worlds and yields a value of which something is known; what is known stays in later worlds.
-/
import Derived.Test.YtoddpmdjjgnpgaaGreatDoorGra08
import Derived.Test.YtoddpmdjjgnpgaaGreatDoorGra06
import Derived.Test.YtoddpmdjjgnpgaaGreatDoorGra09
import Derived.Test.YtoddpmdjjgnpgaaGreatDoorGra07
import Derived.Test.YtoddpmdjjgnpgaaGreatDoorGra03
import Derived.Test.YtoddpmdjjgnpgaaGreatDoorGra01
import Derived.Orders
namespace Go.Proofs.YtoddpmdjjgnpgaaGreatDoor
open Go.RowKit
set_option linter.unusedVariables false
/-- what the first loop has made: the rules that fell out, and those that are kept -/
structure InsSt (w1 wr : World) (g : Nat) (k : Int) (v6 vL : Value) (G K : List RulD) : Prop where
  gone : Bld 120 2 w1 wr v6 G.length (ruleCells G)
  rec2 : Rec2 25 120 2 w1 wr g (.int .i64 k) vL K.length (ruleCells K)
  far : ∀ b, v6.ownBlock = some b → b ≠ g ∧ vL.ownBlock ≠ some b
theorem InsSt.later {w1 wr wr' : World} {g : Nat} {k : Int} {v6 vL : Value} {G K : List RulD} (h : InsSt w1 wr g k v6 vL G K) (hb : Below wr.heap.size wr wr') : InsSt w1 wr' g k v6 vL G K := ⟨h.gone.later hb, h.rec2.later hb, h.far⟩
theorem Rec2.keptG {TT T : TypeId} {size : Nat} {w wr wr' : World} {g : Nat} {x v : Value} {n : Nat} {xs : List Value} {own : Option Nat} (h : Rec2 TT T size w wr g x v n xs) (hg : wr.grownBy wr' own) (h1 : own ≠ some g) (h2 : ∀ b, v.ownBlock = some b → own ≠ some b) (h3 : ∀ b, own = some b → w.heap.size ≤ b) : Rec2 TT T size w wr' g x v n xs := by
  refine ⟨(hg.block g h.lt (fun e => h1 e.symm)).trans h.blk, h.own.kept hg ?_, h.le, h.below.grown hg h.below.size h3⟩
  cases hv : v.ownBlock with
  | none => exact .inl rfl
  | some b => exact .inr (fun e => h2 b hv e.symm)
theorem block_later {W : World} {i : Nat} {o : Obj} (h : W.heap[i]? = some o) : ∀ W', Below W.heap.size W W' → W'.heap[i]? = some o := fun W' hW => (hW.block i (Array.getElem?_eq_some_iff.1 h).1).trans h
theorem alloc_oldI (W : World) (o : Obj) {n : Nat} {x : Obj} (h : W.heap[n]? = some x) : (W.alloc o).heap[n]? = some x := (block_later h) _ (alloc_belowS W o)
/-- another block is set -/
theorem Rec2.setFar {TT T : TypeId} {size : Nat} {w wr : World} {g : Nat} {x v : Value} {n : Nat} {xs : List Value} (h : Rec2 TT T size w wr g x v n xs) {b : Nat} (o : Nat) (u : Value) (h1 : b ≠ g) (h2 : v.ownBlock ≠ some b) (h3 : w.heap.size ≤ b) : Rec2 TT T size w (wr.setCell ⟨b, o, none⟩ u) g x v n xs :=
  h.keptG (setGrownB wr b o u) (fun e => h1 (Option.some.inj e)) (fun c hc e => h2 (by rw [hc, ← e])) (fun c e => by have := Option.some.inj e; omega)
end Go.Proofs.YtoddpmdjjgnpgaaGreatDoor
namespace Go.Proofs.YtoddpmdjjgnpgaaGreatDoor
open Go.RowKit
set_option linter.unusedVariables false
theorem CurOk.grownO {w w' : World} {B : Nat} {a : Option Addr} {l : List UInt8} {cap : Nat} {own : Option Nat} (h : CurOk w B a l cap) (hg : w.grownBy w' own) (h1 : own ≠ some B) (h2 : l ≠ [] → ∀ x, a = some x → own ≠ some x.block) : CurOk w' B a l cap := by
  refine ⟨?_, ?_, h.ne, h.len⟩
  · obtain ⟨i, hh, hb, hi⟩ := h.at_
    exact ⟨i, hh, (hg.block B h.lt (fun e => h1 e.symm)).trans hb, hi⟩
  · rcases h.bytes with hb | ⟨b, off, ha, hc⟩
    · exact .inl hb
    · refine .inr ⟨b, off, ha, fun i hi => ?_⟩
      rw [World.cell?_of_block (w := w) (hg.block b (World.block_lt_of_cell? w _ (hc i hi)) (fun e => h2 (fun e2 => by subst e2; simp at hi) _ ha e.symm))]
      exact hc i hi
theorem grown_since {w wr w' : World} {B : Nat} {own : Option Nat} (h : w.grownBy wr (some B)) (hg : wr.grownBy w' own) (ho : ∀ b, own = some b → w.heap.size ≤ b) : w.grownBy w' (some B) :=
  ⟨hg.os.trans h.os, hg.tape.trans h.tape, hg.output.trans h.output, Nat.le_trans h.size hg.size, fun k hk hne => (hg.block k (Nat.lt_of_lt_of_le hk h.size) (fun e => by have := ho k e.symm; omega)).trans (h.block k hk hne)⟩
theorem grown_self (w : World) (r : Option Nat) : w.grownBy w r := ⟨rfl, rfl, rfl, Nat.le_refl _, fun _ _ _ => rfl⟩
theorem grown_below {w wr w' : World} {B : Nat} (h : w.grownBy wr (some B)) (hb : Below wr.heap.size wr w') : w.grownBy w' (some B) :=
  grown_since (own := none) h ⟨hb.os, hb.tape, hb.output, hb.size, fun k hk _ => hb.block k hk⟩ (fun b e => by cases e)
/-- a system that is being drawn -/
structure DrwAt (B : Nat) (a : Option Addr) (l : List UInt8) (cap : Nat) (w0 w wr : World) (k : Nat) (v : Value) (R : List RulD) : Prop where
  rc : Rec2 25 120 2 w0 wr (w.heap.size + 1) (.int .i64 (k : Nat)) v R.length (ruleCells R)
  cur : CurOk wr B a l cap
  zero : wr.heap[w.heap.size]? = some (.cells #[.int .i64 0, .slice none 0 0] 25 (0, 0))
  k1 : 1 ≤ k ∧ k ≤ 3
  ok : ∀ r ∈ R, ruleP k r ∧ lessS r.2 r.1 = true
  sz : ∀ r ∈ R, r.1.size ≤ 4
  lt : B < w.heap.size ∧ w0.heap.size ≤ B
  far : l ≠ [] → ∀ x, a = some x → x.block < w.heap.size
  gr : w.grownBy wr (some B)
section
variable {B : Nat} {a : Option Addr} {l : List UInt8} {cap : Nat} {w0 w wr : World} {k : Nat} {v : Value} {R : List RulD}
theorem DrwAt.later {w' : World} (h : DrwAt B a l cap w0 w wr k v R) (hb : Below wr.heap.size wr w') : DrwAt B a l cap w0 w w' k v R :=
  ⟨h.rc.later hb, h.cur.later hb, block_later h.zero _ hb, h.k1, h.ok, h.sz, h.lt, h.far, grown_below h.gr hb⟩
theorem DrwAt.next {w' : World} (h : DrwAt B a l cap w0 w wr k v R) (hc : CurOk w' B a l cap) (hg : wr.grownBy w' (some B)) : DrwAt B a l cap w0 w w' k v R := by
  have h1 := h.lt
  have h2 := h.rc.lt
  refine ⟨h.rc.keptG hg (fun e => by have := Option.some.inj e; omega) (fun b hb e => by have := (h.rc.own.lt b hb).1; have := Option.some.inj e; omega) (fun b e => by have := Option.some.inj e; omega), hc, ?_, h.k1, h.ok, h.sz, h.lt, h.far, grown_tr h.gr hg⟩
  exact (hg.block _ (by omega) (fun e => by have := Option.some.inj e; omega)).trans h.zero
theorem DrwAt.start (hc : CurOk w B a l cap) (hb : Below w0.heap.size w0 w) (hB : w0.heap.size ≤ B) : DrwAt B a l cap w0 w ((w.alloc (.cells #[.int .i64 0, .slice none 0 0] 25)).alloc (.cells #[.int .i64 ((2 : Nat) : Int), .slice none 0 0] 25)) 2 (.slice none 0 0) [] := by
  have h1 := Rec2.start 25 120 2 (w := w0) (hb.alloc hb.size (.cells #[.int .i64 0, .slice none 0 0] 25)) (.int .i64 ((2 : Nat) : Int))
  have e : (w.alloc (.cells #[.int .i64 0, .slice none 0 0] 25)).heap.size = w.heap.size + 1 := by simp
  rw [e] at h1
  exact ⟨h1, (hc.alloc _).alloc _, (alloc_two w _ _).1, by omega, fun r hr => by simp at hr, fun r hr => by simp at hr, ⟨hc.lt, hB⟩, curNe hc.bytes, grown_alloc (grown_alloc (grown_self w _) _) _⟩
theorem DrwAt.setK (h : DrwAt B a l cap w0 w wr k (.slice none 0 0) []) {k' : Nat} (hk : 1 ≤ k' ∧ k' ≤ 3) : DrwAt B a l cap w0 w (wr.setCell ⟨w.heap.size + 1, 0, none⟩ (.int .i64 (k' : Nat))) k' (.slice none 0 0) [] := by
  have h1 := h.lt
  have h2 := h.rc.blk
  refine ⟨⟨?_, World.ownsRow_nil _ _ _ _, h.rc.le, h.rc.below.setCell h.rc.le _⟩, h.cur.grownO (setGrownB wr _ 0 _) (fun e => by have := Option.some.inj e; omega) (fun hne x hx e => by have := h.far hne x hx; have := Option.some.inj e; omega), ?_, hk, fun r hr => by simp at hr, fun r hr => by simp at hr, h.lt, h.far, grown_since h.gr (setGrownB wr _ 0 _) (fun b e => by have := Option.some.inj e; omega)⟩
  · unfold World.setCell
    rw [Array.getElem?_modify, if_pos rfl, h2]
    rfl
  · unfold World.setCell
    rw [Array.getElem?_modify, if_neg (by show ¬ w.heap.size + 1 = w.heap.size; omega)]
    exact h.zero
theorem DrwAt.put (h : DrwAt B a l cap w0 w wr k v R) {p : RulD} (hp : (ruleP k p ∧ lessS p.2 p.1 = true) ∧ p.1.size ≤ 4) {w4 : World} {ob : Obj} {v' : Value} (hg : (wr.alloc ob).grownBy w4 v.ownBlock) (ho : w4.ownsRow (w.heap.size + 1 + 1) 120 2 v' (R.length + 1) (ruleCells R ++ [.string p.1, .string p.2])) :
    DrwAt B a l cap w0 w (w4.setCell ⟨w.heap.size + 1, 1, none⟩ v') k v' (R ++ [p]) := by
  have h1 := h.lt
  have hlt := h.rc.lt
  have hr : Rec2 25 120 2 w0 (w4.setCell ⟨w.heap.size + 1, 1, none⟩ v') (w.heap.size + 1) (.int .i64 (k : Nat)) v' (R ++ [p]).length (ruleCells (R ++ [p])) := by
    rw [List.length_append, ruleCells_app, show ruleCells [p] = [Value.string p.1, .string p.2] from rfl]
    exact h.rc.put (Below.refl _ _) hg ho
  have hb : ∀ b, v.ownBlock = some b → w.heap.size + 1 + 1 ≤ b := fun b hb => (h.rc.own.lt b hb).1
  have hc1 : CurOk w4 B a l cap := (h.cur.alloc ob).grownO hg (fun e => by have := hb _ e; omega) (fun hne x hx e => by have := h.far hne x hx; have := hb _ e; omega)
  have hz1 : w4.heap[w.heap.size]? = some (.cells #[.int .i64 0, .slice none 0 0] 25 (0, 0)) := (hg.block _ (by simp; omega) (fun e => by have := hb _ e.symm; omega)).trans (alloc_oldI wr ob h.zero)
  refine ⟨hr, hc1.grownO (setGrownB w4 _ 1 _) (fun e => by have := Option.some.inj e; omega) (fun hne x hx e => by have := h.far hne x hx; have := Option.some.inj e; omega), ?_, h.k1, ?_, ?_, h.lt, h.far, grown_since (grown_since (grown_alloc h.gr ob) hg (fun b e => by have := hb b e; omega)) (setGrownB w4 _ 1 _) (fun b e => by have := Option.some.inj e; omega)⟩
  · unfold World.setCell
    rw [Array.getElem?_modify, if_neg (by show ¬ w.heap.size + 1 = w.heap.size; omega)]
    exact hz1
  · intro r hr
    rcases List.mem_append.1 hr with h3 | h3
    · exact h.ok r h3
    · obtain rfl : r = p := by simpa using h3
      exact hp.1
  · intro r hr
    rcases List.mem_append.1 hr with h3 | h3
    · exact h.sz r h3
    · obtain rfl : r = p := by simpa using h3
      exact hp.2
end
/-- the given systems -/
def syss : List ByteArray := [⟨#[49, 32, 97, 97, 97, 62, 46]⟩, ⟨#[50, 32, 97, 97, 62, 46, 32, 98, 98, 62, 46, 32, 98, 97, 62, 97, 98]⟩, ⟨#[50, 32, 97, 97, 62, 46, 32, 98, 98, 62, 46, 32, 98, 97, 98, 62, 97, 98, 97]⟩, ⟨#[50, 32, 98, 97, 62, 97, 98]⟩, ⟨#[50, 32, 97, 98, 62, 46]⟩, ⟨#[50, 32, 97, 97, 62, 97, 32, 98, 98, 62, 98]⟩, ⟨#[50, 32, 97, 97, 62, 46, 32, 98, 98, 98, 62, 46, 32, 97, 98, 98, 62, 98, 97, 32, 97, 98, 97, 62, 98, 98, 32, 98, 97, 98, 62, 97, 32, 98, 98, 97, 62, 97, 98]⟩, ⟨#[49, 32, 97, 97, 97, 97, 62, 97, 97]⟩, ⟨#[50, 32, 97, 97, 62, 98]⟩, ⟨#[50, 32, 98, 97, 62, 97, 98, 32, 98, 98, 62, 98]⟩, ⟨#[51, 32, 98, 97, 62, 97, 98, 32, 99, 97, 62, 97, 99, 32, 99, 98, 62, 98, 99]⟩]
/-- few letters, and short left sides -/
def Sml (k : Int) (R : List RulD) : Prop := k ≤ 3 ∧ ∀ r ∈ R, r.1.size ≤ 4
def smlC (s : ByteArray) (k : Nat) (ps : List TxD) : Bool := chkS s k ps && decide (k ≤ 3) && ps.all fun p => decide ((ruleD p).1.size ≤ 4)
def SyTx (s : ByteArray) : Prop := ∃ k R l, SysTx s k R l ∧ Sml (k : Nat) R
theorem smlC_tx {s : ByteArray} {k : Nat} {ps : List TxD} (h : smlC s k ps = true) : SyTx s := by
  unfold smlC at h
  simp only [Bool.and_eq_true, decide_eq_true_eq, List.all_eq_true] at h
  refine ⟨_, _, _, chk_tx h.1.1, by have := h.1.2; omega, fun r hr => ?_⟩
  obtain ⟨p, hp, rfl⟩ := List.mem_map.1 hr
  exact h.2 p hp
theorem sy_tx0 : smlC (nthS syss 0) 1 [(⟨#[97, 97, 97, 62, 46]⟩, ⟨#[97, 97, 97]⟩, ⟨#[46]⟩)] = true := by decide +kernel
theorem sy_tx1 : smlC (nthS syss 1) 2 [(⟨#[97, 97, 62, 46]⟩, ⟨#[97, 97]⟩, ⟨#[46]⟩), (⟨#[98, 98, 62, 46]⟩, ⟨#[98, 98]⟩, ⟨#[46]⟩), (⟨#[98, 97, 62, 97, 98]⟩, ⟨#[98, 97]⟩, ⟨#[97, 98]⟩)] = true := by decide +kernel
theorem sy_tx2 : smlC (nthS syss 2) 2 [(⟨#[97, 97, 62, 46]⟩, ⟨#[97, 97]⟩, ⟨#[46]⟩), (⟨#[98, 98, 62, 46]⟩, ⟨#[98, 98]⟩, ⟨#[46]⟩), (⟨#[98, 97, 98, 62, 97, 98, 97]⟩, ⟨#[98, 97, 98]⟩, ⟨#[97, 98, 97]⟩)] = true := by decide +kernel
theorem sy_tx3 : smlC (nthS syss 3) 2 [(⟨#[98, 97, 62, 97, 98]⟩, ⟨#[98, 97]⟩, ⟨#[97, 98]⟩)] = true := by decide +kernel
theorem sy_tx4 : smlC (nthS syss 4) 2 [(⟨#[97, 98, 62, 46]⟩, ⟨#[97, 98]⟩, ⟨#[46]⟩)] = true := by decide +kernel
theorem sy_tx5 : smlC (nthS syss 5) 2 [(⟨#[97, 97, 62, 97]⟩, ⟨#[97, 97]⟩, ⟨#[97]⟩), (⟨#[98, 98, 62, 98]⟩, ⟨#[98, 98]⟩, ⟨#[98]⟩)] = true := by decide +kernel
theorem sy_tx6 : smlC (nthS syss 6) 2 [(⟨#[97, 97, 62, 46]⟩, ⟨#[97, 97]⟩, ⟨#[46]⟩), (⟨#[98, 98, 98, 62, 46]⟩, ⟨#[98, 98, 98]⟩, ⟨#[46]⟩), (⟨#[97, 98, 98, 62, 98, 97]⟩, ⟨#[97, 98, 98]⟩, ⟨#[98, 97]⟩), (⟨#[97, 98, 97, 62, 98, 98]⟩, ⟨#[97, 98, 97]⟩, ⟨#[98, 98]⟩), (⟨#[98, 97, 98, 62, 97]⟩, ⟨#[98, 97, 98]⟩, ⟨#[97]⟩), (⟨#[98, 98, 97, 62, 97, 98]⟩, ⟨#[98, 98, 97]⟩, ⟨#[97, 98]⟩)] = true := by decide +kernel
theorem sy_tx7 : smlC (nthS syss 7) 1 [(⟨#[97, 97, 97, 97, 62, 97, 97]⟩, ⟨#[97, 97, 97, 97]⟩, ⟨#[97, 97]⟩)] = true := by decide +kernel
theorem sy_tx8 : smlC (nthS syss 8) 2 [(⟨#[97, 97, 62, 98]⟩, ⟨#[97, 97]⟩, ⟨#[98]⟩)] = true := by decide +kernel
theorem sy_tx9 : smlC (nthS syss 9) 2 [(⟨#[98, 97, 62, 97, 98]⟩, ⟨#[98, 97]⟩, ⟨#[97, 98]⟩), (⟨#[98, 98, 62, 98]⟩, ⟨#[98, 98]⟩, ⟨#[98]⟩)] = true := by decide +kernel
theorem sy_tx10 : smlC (nthS syss 10) 3 [(⟨#[98, 97, 62, 97, 98]⟩, ⟨#[98, 97]⟩, ⟨#[97, 98]⟩), (⟨#[99, 97, 62, 97, 99]⟩, ⟨#[99, 97]⟩, ⟨#[97, 99]⟩), (⟨#[99, 98, 62, 98, 99]⟩, ⟨#[99, 98]⟩, ⟨#[98, 99]⟩)] = true := by decide +kernel
theorem syss_tx : ∀ i, i < 11 → SyTx (nthS syss i) := fun i hi => by
  match i, hi with
  | 0, _ => exact smlC_tx sy_tx0
  | 1, _ => exact smlC_tx sy_tx1
  | 2, _ => exact smlC_tx sy_tx2
  | 3, _ => exact smlC_tx sy_tx3
  | 4, _ => exact smlC_tx sy_tx4
  | 5, _ => exact smlC_tx sy_tx5
  | 6, _ => exact smlC_tx sy_tx6
  | 7, _ => exact smlC_tx sy_tx7
  | 8, _ => exact smlC_tx sy_tx8
  | 9, _ => exact smlC_tx sy_tx9
  | 10, _ => exact smlC_tx sy_tx10
def RetDrwZ (B : Nat) (a : Option Addr) (l : List UInt8) (cap : Nat) (w0 w : World) (e : Ending) (w' : World) : Prop := ∃ (k : Int) (R : List RulD) (aR : Option Addr) (cR : Nat),
  (sysP k R ∧ Sml k R) ∧ e = .returned (.agg #[.int .i64 k, .slice aR R.length cR]) ∧ w'.ownsRow w.heap.size 120 2 (.slice aR R.length cR) R.length (ruleCells R) ∧ CurOk w' B a l cap ∧ Below w0.heap.size w0 w' ∧ w.grownBy w' (some B)
def RetDrwO (B : Nat) (a : Option Addr) (l : List UInt8) (cap : Nat) (w0 w : World) (e : Ending) (w' : World) : Prop := ∃ (k : Int) (R : List RulD) (aR : Option Addr) (cR : Nat),
  sysP k R ∧ e = .returned (.agg #[.int .i64 k, .slice aR R.length cR]) ∧ w'.ownsRow w.heap.size 120 2 (.slice aR R.length cR) R.length (ruleCells R) ∧ CurOk w' B a l cap ∧ Below w0.heap.size w0 w' ∧ w.grownBy w' (some B)
def RetDrw (B : Nat) (a : Option Addr) (l : List UInt8) (cap : Nat) (w0 : World) (e : Ending) (w' : World) : Prop := ∃ (k : Int) (R : List RulD) (aR : Option Addr) (cR : Nat),
  sysP k R ∧ e = .returned (.agg #[.int .i64 k, .slice aR R.length cR]) ∧ RulesIn w' aR R ∧ CurOk w' B a l cap ∧ Below w0.heap.size w0 w'
end Go.Proofs.YtoddpmdjjgnpgaaGreatDoor
namespace Go.Proofs.YtoddpmdjjgnpgaaGreatDoor
open Go.RowKit
set_option linter.unusedVariables false
section
variable {P : Program} {ops : Array Oper} {Q : Exit → Act → World → Prop}
/-- an invariant over what has come up serves whatever order -/
theorem wpAny_inv {md : Region.Mode} (I : Array Bool → Act → World → Prop)
    (hstep : ∀ listed a w i, I listed a w → i ∈ Region.ready md ops listed → wpOp P ops Q i (fun a' w' => I (listed.setIfInBounds i true) a' w') a w)
    (hend : ∀ listed a w, I listed a w → Region.ready md ops listed = [] → Q .normal a w) :
    ∀ (fuel : Nat) (listed : Array Bool) (a : Act) (w : World), I listed a w → (∀ listed', listed'.size = listed.size → (∀ i, listed.getD i false = true → listed'.getD i false = true) → listed.toList.count true + fuel ≤ listed'.toList.count true → Region.ready md ops listed' = []) → wpAny P md ops Q fuel listed a w
  | 0, listed, a, w, h, hf => by
    have h0 := hf listed rfl (fun _ h => h) (Nat.le_refl _)
    exact ⟨h0, hend _ _ _ h h0⟩
  | fuel + 1, listed, a, w, h, hf => by
    refine ⟨fun h0 => hend _ _ _ h h0, fun i hi => ?_⟩
    have hm := (mem_ready.1 hi).1
    have hlt : i < listed.size := by
      rcases Nat.lt_or_ge i listed.size with h' | h'
      · exact h'
      · simp [Array.getElem?_eq_none h'] at hm
    have hfi : listed[i] = false := by simpa [hlt] using hm
    refine wpOp_mono (fun a' w' h' => wpAny_inv I hstep hend fuel _ a' w' h' fun listed' hs hl hc => hf listed' (by simpa using hs) (fun j hj => hl j (getD_set_true hj)) ?_) (hstep _ _ _ _ h hi)
    have hcnt : (listed.setIfInBounds i true).toList.count true = listed.toList.count true + 1 := by
      rw [Array.toList_setIfInBounds, List.set_eq_take_append_cons_drop, if_pos (by simpa using hlt)]
      conv => rhs; rw [← List.take_append_drop i listed.toList, List.drop_eq_getElem_cons (by simpa using hlt)]
      rw [List.count_append, List.count_append, List.count_cons, List.count_cons]
      have e : listed.toList[i]'(by simpa using hlt) = false := by simpa using hfi
      rw [e]
      simp
      omega
    omega
/-- the frame, once the operations from number k on have yielded u -/
def fPut : List Oper → Nat → Act → (Nat → Value) → Act
  | [], _, a, _ => a
  | o :: l, k, a, u => fPut l (k + 1) (a.put o.dst (u k)) u
def updV (u : Nat → Value) (i : Nat) (v : Value) : Nat → Value := fun j => if j = i then v else u j
theorem fPut_congr : ∀ (l : List Oper) (k : Nat) (a : Act) (u u' : Nat → Value), (∀ j, k ≤ j → u j = u' j) → fPut l k a u = fPut l k a u'
  | [], _, _, _, _, _ => rfl
  | o :: l, k, a, u, u', h => by
    unfold fPut
    rw [h k (Nat.le_refl _)]
    exact fPut_congr l (k + 1) _ u u' (fun j hj => h j (by omega))
theorem put_put (a : Act) (d : Tmp) (u v : Value) : (a.put (some d) u).put (some d) v = a.put (some d) v := by
  unfold Act.put
  simp
theorem put_self (a : Act) (d : Tmp) : a.put (some d) (a.tmps.getD d undef) = a := by
  have h : a.tmps.setIfInBounds d (a.tmps.getD d undef) = a.tmps := by
    apply Array.ext_getElem?
    intro i
    rw [Array.getElem?_setIfInBounds]
    split
    · rename_i h
      subst h
      split
      · rename_i h; simp [h]
      · rename_i h; simp [h]
    · rfl
  show ({ a with tmps := a.tmps.setIfInBounds d (a.tmps.getD d undef) } : Act) = a
  rw [h]
theorem fPut_put : ∀ (l : List Oper) (k : Nat) (a : Act) (u : Nat → Value) (d : Tmp) (v : Value), (∀ o ∈ l, o.dst ≠ some d) → fPut l k (a.put (some d) v) u = (fPut l k a u).put (some d) v
  | [], _, _, _, _, _, _ => rfl
  | o :: l, k, a, u, d, v, h => by
    have h0 := h o List.mem_cons_self
    unfold fPut
    rw [Act.put_comm a v (u k) (x := some d) (y := o.dst) (fun d' hd => by cases hd; exact h0)]
    exact fPut_put l (k + 1) _ u d v (fun o' ho => h o' (List.mem_cons_of_mem _ ho))
/-- no two operations have one destination -/
def dstsB : List Oper → Bool
  | [] => true
  | o :: l => (match o.dst with | none => true | some d => l.all fun x => x.dst != some d) && dstsB l
theorem fPut_upd : ∀ (l : List Oper) (k : Nat) (a : Act) (u : Nat → Value) (i : Nat) (o : Oper) (v : Value), dstsB l = true → l[i]? = some o → (fPut l k a u).put o.dst v = fPut l k a (updV u (k + i) v)
  | [], _, _, _, _, _, _, _, h => by simp at h
  | o' :: l, k, a, u, 0, o, v, hd, h => by
    simp only [List.getElem?_cons_zero, Option.some.injEq] at h
    subst h
    simp only [dstsB, Bool.and_eq_true] at hd
    unfold fPut
    have e : updV u (k + 0) v k = v := by simp [updV]
    rw [e]
    have hc : ∀ b, fPut l (k + 1) b u = fPut l (k + 1) b (updV u (k + 0) v) := fun b => fPut_congr l (k + 1) b _ _ (fun j hj => by unfold updV; rw [if_neg (by omega)])
    rw [← hc]
    cases hds : o'.dst with
    | none => rfl
    | some d =>
      have h1 := hd.1
      rw [hds] at h1
      rw [← fPut_put l (k + 1) _ u d v (fun x hx => by have := List.all_eq_true.1 h1 x hx; simpa using this), put_put]
  | o' :: l, k, a, u, i + 1, o, v, hd, h => by
    simp only [List.getElem?_cons_succ] at h
    simp only [dstsB, Bool.and_eq_true] at hd
    unfold fPut
    have e : updV u (k + (i + 1)) v k = u k := by unfold updV; rw [if_neg (by omega)]
    rw [e, fPut_upd l (k + 1) _ u i o v hd.2 h, show k + 1 + i = k + (i + 1) by omega]
theorem fPut_self : ∀ (l : List Oper) (k : Nat) (a : Act) (u : Nat → Value), (∀ i o d, l[i]? = some o → o.dst = some d → u (k + i) = a.tmps.getD d undef) → fPut l k a u = a
  | [], _, _, _, _ => rfl
  | o :: l, k, a, u, h => by
    unfold fPut
    have e : a.put o.dst (u k) = a := by
      cases hd : o.dst with
      | none => rfl
      | some d => rw [show u k = a.tmps.getD d undef from h 0 o d rfl hd, put_self]
    rw [e]
    exact fPut_self l (k + 1) a u (fun i o' d hi hd => by rw [show k + 1 + i = k + (i + 1) by omega]; exact h (i + 1) o' d hi hd)
/-- what is known of a value -/
abbrev Vp := Value → World → Prop
/-- what is known of the values on which an operation waits -/
def factsOf (acc : List Vp) : List Edge → (Nat → Value) → World → Prop
  | [], _, _ => True
  | e :: l, u, w => (Region.binds .any e = true → acc.getD e.on (fun _ _ => True) (u e.on) w) ∧ factsOf acc l u w
/-- what is known of all values from number k on -/
def allOf : List Vp → Nat → (Nat → Value) → World → Prop
  | [], _, _, _ => True
  | V :: l, k, u, w => V (u k) w ∧ allOf l (k + 1) u w
/-- one operation: whatever world of the class it finds, its value is one of which V is known, and the world behind it is one of the class -/
def stepOf (P : Program) (Q : Exit → Act → World → Prop) (ops : List Oper) (F : (Nat → Value) → Act) (C : World → Prop) (R : World → World → Prop) (acc : List Vp) (o : Oper) (V : Vp) : Prop :=
  ∀ u w, C w → factsOf acc o.after.toList u w →
    if Region.wanted o (yielded ops.toArray (F u).tmps) = true then
      ∀ K : Act → World → Prop, (∀ v w', C w' → R w w' → V v w' → K ((F u).put o.dst v) w') → o.wp P (F u) w K Q
    else V undef w
/-- the operations one by one -/
def eachOf (P : Program) (Q : Exit → Act → World → Prop) (ops : List Oper) (F : (Nat → Value) → Act) (C : World → Prop) (R : World → World → Prop) : List Oper → List Vp → Prop
  | [], acc => ∀ u w, C w → allOf acc 0 u w → Q .normal (F u) w
  | o :: l, acc => ∃ V : Vp, (∀ v w w', C w' → R w w' → V v w → V v w') ∧ stepOf P Q ops F C R acc o V ∧ eachOf P Q ops F C R l (acc ++ [V])
/-- each operation waits for earlier ones alone -/
def backB : List Oper → Nat → Bool
  | [], _ => true
  | o :: l, k => o.after.all (fun e => !Region.binds .any e || decide (e.on < k)) && backB l (k + 1)
theorem backB_at : ∀ (l : List Oper) (k i : Nat) (o : Oper), backB l k = true → l[i]? = some o → ∀ e ∈ o.after, Region.binds .any e = true → e.on < k + i
  | [], _, _, _, _, h => by simp at h
  | o' :: l, k, 0, o, hb, h => by
    simp only [List.getElem?_cons_zero, Option.some.injEq] at h
    subst h
    simp only [backB, Bool.and_eq_true, Array.all_eq_true_iff_forall_mem] at hb
    intro e he hbi
    have := hb.1 e he
    simpa [hbi] using this
  | o' :: l, k, i + 1, o, hb, h => by
    simp only [List.getElem?_cons_succ] at h
    simp only [backB, Bool.and_eq_true] at hb
    have := backB_at l (k + 1) i o hb.2 h
    intro e he hbi
    have := this e he hbi
    omega
theorem facts_mono {acc acc' : List Vp} {n : Nat} (hp : ∀ j, j < n → acc'.getD j (fun _ _ => True) = acc.getD j (fun _ _ => True)) : ∀ {l : List Edge} {u : Nat → Value} {w : World}, (∀ e ∈ l, Region.binds .any e = true → e.on < n) → factsOf acc' l u w → factsOf acc l u w
  | [], _, _, _, _ => trivial
  | e :: l, u, w, he, h => ⟨fun hb => by rw [← hp _ (he e List.mem_cons_self hb)]; exact h.1 hb, facts_mono hp (fun e' h' => he e' (List.mem_cons_of_mem _ h')) h.2⟩
theorem each_out {Fr : (Nat → Value) → Act} {C : World → Prop} {R : World → World → Prop} {opsL : List Oper} : ∀ (l : List Oper) (acc : List Vp), backB l acc.length = true → (∀ V ∈ acc, ∀ v w w', C w' → R w w' → V v w → V v w') → eachOf P Q opsL Fr C R l acc →
    ∃ F : List Vp, (∀ j, j < acc.length → F.getD j (fun _ _ => True) = acc.getD j (fun _ _ => True)) ∧ F.length = acc.length + l.length ∧ (∀ V ∈ F, ∀ v w w', C w' → R w w' → V v w → V v w') ∧
      (∀ i o, l[i]? = some o → stepOf P Q opsL Fr C R F o (F.getD (acc.length + i) (fun _ _ => True))) ∧ ∀ u w, C w → allOf F 0 u w → Q .normal (Fr u) w
  | [], acc, _, hm, h => ⟨acc, fun _ _ => rfl, by simp, hm, fun i o h => by simp at h, h⟩
  | o :: l, acc, hb, hm, h => by
    obtain ⟨V, hV, hs, hr⟩ := h
    have hb' := hb
    simp only [backB, Bool.and_eq_true] at hb'
    obtain ⟨F, h1, h2, h3, h4, h5⟩ := each_out l (acc ++ [V]) (by rw [List.length_append]; exact hb'.2) (fun V' h' => by
      rcases List.mem_append.1 h' with h' | h'
      · exact hm V' h'
      · rw [List.mem_singleton.1 h']; exact hV) hr
    have hacc : ∀ j, j < acc.length → F.getD j (fun _ _ => True) = acc.getD j (fun _ _ => True) := fun j hj => by
      rw [h1 j (by rw [List.length_append]; omega)]
      rw [List.getD_eq_getElem?_getD, List.getD_eq_getElem?_getD, List.getElem?_append_left hj]
    refine ⟨F, hacc, by rw [h2, List.length_append]; simp; omega, h3, fun i o' hi => ?_, h5⟩
    cases i with
    | zero =>
      simp only [List.getElem?_cons_zero, Option.some.injEq] at hi
      subst hi
      have e : F.getD (acc.length + 0) (fun _ _ => True) = V := by
        rw [h1 _ (by rw [List.length_append]; simp)]
        simp
      rw [e]
      intro u w hc hf
      exact hs u w hc (facts_mono hacc (fun e' he hbi => by
        have := backB_at (o :: l) acc.length 0 o hb rfl e' (by simpa using he) hbi
        omega) hf)
    | succ i =>
      simp only [List.getElem?_cons_succ] at hi
      have := h4 i o' hi
      rw [List.length_append] at this
      rw [show acc.length + (i + 1) = acc.length + [V].length + i by simp; omega]
      exact this
theorem allOf_mk : ∀ (F : List Vp) (k : Nat) (u : Nat → Value) (w : World), (∀ i, i < F.length → F.getD i (fun _ _ => True) (u (k + i)) w) → allOf F k u w
  | [], _, _, _, _ => trivial
  | V :: l, k, u, w, h => ⟨by have := h 0 (by simp); simpa using this, allOf_mk l (k + 1) u w (fun i hi => by have := h (i + 1) (by simpa using hi); rw [show k + 1 + i = k + (i + 1) by omega]; simpa using this)⟩
theorem factsOf_mk (F : List Vp) : ∀ (l : List Edge) (u : Nat → Value) (w : World), (∀ e ∈ l, Region.binds .any e = true → F.getD e.on (fun _ _ => True) (u e.on) w) → factsOf F l u w
  | [], _, _, _ => trivial
  | e :: l, u, w, h => ⟨fun hb => h e List.mem_cons_self hb, factsOf_mk F l u w (fun e' he => h e' (List.mem_cons_of_mem _ he))⟩
/-- the walk of a region that draws its order -/
theorem region_each {id : Nat} {a : Act} {w : World} {l : List Oper} {Fr : (Nat → Value) → Act} (C : World → Prop) (R : World → World → Prop) (hF : ∀ u, fPut l 0 a u = Fr u) (hm : P.follows .mixedOrders = true) (hd : dstsB l = true) (hb : backB l 0 = true)
    (hC : C { w with drawn := w.drawn + 1 }) (h : eachOf P Q l Fr C R l []) : (Code.region id l.toArray true).wp P Q a w := by
  have hFr : Fr = fPut l 0 a := funext fun u => (hF u).symm
  subst hFr
  obtain ⟨F, _, hlen, hmono, hstep, hend⟩ := each_out l [] hb (fun V hV => by cases hV) h
  simp only [List.length_nil, Nat.zero_add] at hlen hstep
  refine wp_region_any hm ?_
  refine wpAny_inv (fun listed a' w' => listed.size = l.length ∧ ∃ u, a' = fPut l 0 a u ∧ C w' ∧ ∀ i, listed.getD i false = true → F.getD i (fun _ _ => True) (u i) w') ?_ ?_ _ _ _ _ ?_ ?_
  · rintro listed a' w' i ⟨hs, u, rfl, hc, hk⟩ hi
    obtain ⟨hun, o, ho, hall⟩ := mem_ready.1 hi
    have ho' : l[i]? = some o := by simpa using ho
    have hlt : i < listed.size := by rw [hs]; exact (List.getElem?_eq_some_iff.1 ho').1
    have hst := hstep i o ho' u w' hc (factsOf_mk F _ u w' fun e he hbi => hk _ (hall e (by simpa using he) hbi))
    have hput : ∀ (v : Value) (w2 : World), C w2 → R w' w2 → F.getD i (fun _ _ => True) v w2 → (listed.setIfInBounds i true).size = l.length ∧ ∃ u', (fPut l 0 a u).put o.dst v = fPut l 0 a u' ∧ C w2 ∧ ∀ j, (listed.setIfInBounds i true).getD j false = true → F.getD j (fun _ _ => True) (u' j) w2 := fun v w2 hc2 hr hv => by
      refine ⟨by simpa using hs, updV u i v, ?_, hc2, fun j hj => ?_⟩
      · have := fPut_upd l 0 a u i o v hd ho'
        rwa [Nat.zero_add] at this
      · by_cases hji : j = i
        · subst hji; unfold updV; rw [if_pos rfl]; exact hv
        · rw [getD_set_ne false (fun e => hji e.symm)] at hj
          unfold updV; rw [if_neg hji]
          have hjk := hk j hj
          by_cases hjl : j < F.length
          · rw [List.getD_eq_getElem?_getD, List.getElem?_eq_getElem hjl] at hjk ⊢
            exact hmono _ (List.getElem_mem hjl) _ _ _ hc2 hr hjk
          · rw [List.getD_eq_getElem?_getD, List.getElem?_eq_none (by omega)]
            trivial
    unfold wpOp
    rw [ho]
    simp only
    split at hst
    · rename_i hw
      rw [if_pos hw]
      exact .inl (hst _ hput)
    · rename_i hw
      rw [if_neg hw]
      have hk2 : ∀ j, (listed.setIfInBounds i true).getD j false = true → F.getD j (fun _ _ => True) (updV u i undef j) w' := fun j hj => by
        by_cases hji : j = i
        · subst hji; unfold updV; rw [if_pos rfl]; exact hst
        · rw [getD_set_ne false (fun e => hji e.symm)] at hj
          unfold updV; rw [if_neg hji]
          exact hk j hj
      have hup := fPut_upd l 0 a u i o undef hd ho'
      rw [Nat.zero_add] at hup
      exact ⟨by simpa using hs, updV u i undef, hup, hc, hk2⟩
  · rintro listed a' w' ⟨hs, u, rfl, hc, hk⟩ h0
    refine hend u w' hc (allOf_mk F 0 u w' fun i hi => ?_)
    rw [Nat.zero_add]
    refine hk i ?_
    -- all have come up: else the first that has not could
    refine Classical.byContradiction fun hn => ?_
    have key : ∀ n i, i < n → i < l.length → listed.getD i false ≠ true → False := fun n => by
      induction n with
      | zero => intro i hi; omega
      | succ n ih =>
        intro i hi hil hni
        have hmem : i ∈ Region.ready .any l.toArray listed := by
          refine mem_ready.2 ⟨?_, l[i], by simp [hil], fun e he hbi => ?_⟩
          · have : i < listed.size := by omega
            simp [this] at hni ⊢
            exact hni
          · refine Classical.byContradiction fun hne => ?_
            have := backB_at l 0 i l[i] hb (List.getElem?_eq_getElem hil) e he hbi
            exact ih e.on (by omega) (by omega) hne
        rw [h0] at hmem
        cases hmem
    exact key (i + 1) i (by omega) (by omega) hn
  · refine ⟨by simp, fun i => match l[i]? with | some o => (match o.dst with | some d => a.tmps.getD d undef | none => undef) | none => undef, ?_, hC, fun i hi => ?_⟩
    · refine (fPut_self l 0 a _ fun i o d hi hd' => ?_).symm
      simp [hi, hd']
    · simp [Array.getElem?_replicate] at hi
      split at hi <;> simp at hi
  · intro listed' hs _ hc
    have hs' : listed'.toList.length = l.length := by simpa using hs
    have hrep : (Array.replicate l.toArray.size false).toList.count true = 0 := by simp [List.count_replicate]
    rw [hrep, Nat.zero_add] at hc
    have hall : listed'.toList.count true = listed'.toList.length := Nat.le_antisymm List.count_le_length (by rw [hs']; simpa using hc)
    rw [List.count_eq_length] at hall
    apply List.eq_nil_iff_forall_not_mem.2
    intro j hj
    obtain ⟨h1, o, ho, _⟩ := mem_ready.1 hj
    have hjl : j < listed'.size := by
      have : j < l.toArray.size := (Array.getElem?_eq_some_iff.1 ho).1
      simp at this hs'
      omega
    have h2 := hall listed'[j] (by simp [Array.getElem_mem])
    simp [hjl] at h1
    rw [h1] at h2
    cases h2
section
variable {Fr : (Nat → Value) → Act} {C : World → Prop} {R : World → World → Prop} {opsL l : List Oper} {acc : List Vp} {o : Oper}
/-- an operation that hands back a value, in a world of the class -/
theorem each_do (V : Vp) (hV : ∀ v w w', C w' → R w w' → V v w → V v w') (hg : o.guard = none)
    (h : ∀ u w, C w → factsOf acc o.after.toList u w → ∃ v w', (execOp (Fr u).eval o).run P w = .ok (.value v) w' ∧ C w' ∧ R w w' ∧ V v w') (hn : eachOf P Q opsL Fr C R l (acc ++ [V])) : eachOf P Q opsL Fr C R (o :: l) acc := by
  refine ⟨V, hV, fun u w hc hf => ?_, hn⟩
  have hw : Region.wanted o (yielded opsL.toArray (Fr u).tmps) = true := by simp [Region.wanted, hg]
  rw [if_pos hw]
  intro K hK
  obtain ⟨v, w', h1, h2, h3, h4⟩ := h u w hc hf
  unfold Oper.wp
  rw [h1]
  exact hK v w' h2 h3 h4
/-- an operation that hands back one value and leaves the world -/
theorem each_read {c : Value} (hR : ∀ w, R w w) (hg : o.guard = none) (h : ∀ u w, C w → factsOf acc o.after.toList u w → (execOp (Fr u).eval o).run P w = .ok (.value c) w)
    (hn : eachOf P Q opsL Fr C R l (acc ++ [fun v _ => v = c])) : eachOf P Q opsL Fr C R (o :: l) acc :=
  each_do (fun v _ => v = c) (fun _ _ _ _ _ h => h) hg (fun u w hc hf => ⟨c, w, h u w hc hf, hc, hR w, rfl⟩) hn
/-- a call of a Go function -/
theorem each_call (V : Vp) (hV : ∀ v w w', C w' → R w w' → V v w → V v w') (hg : o.guard = none)
    (h : ∀ u w, C w → factsOf acc o.after.toList u w → ∃ f args, (execOp (Fr u).eval o).run P w = .ok (.enter f args) w ∧ Calls P f args w fun e w' => ∃ v, e = .returned v ∧ C w' ∧ R w w' ∧ V v w') (hn : eachOf P Q opsL Fr C R l (acc ++ [V])) : eachOf P Q opsL Fr C R (o :: l) acc := by
  refine ⟨V, hV, fun u w hc hf => ?_, hn⟩
  have hw : Region.wanted o (yielded opsL.toArray (Fr u).tmps) = true := by simp [Region.wanted, hg]
  rw [if_pos hw]
  intro K hK
  obtain ⟨f, args, h1, h2⟩ := h u w hc hf
  unfold Oper.wp
  rw [h1]
  exact h2.mono fun e w' ⟨v, he, h3, h4, h5⟩ => by subst he; exact hK v w' h3 h4 h5
/-- a call that hands back one value -/
theorem each_callR {c : Value} (hg : o.guard = none)
    (h : ∀ u w, C w → factsOf acc o.after.toList u w → ∃ f args, (execOp (Fr u).eval o).run P w = .ok (.enter f args) w ∧ Calls P f args w fun e w' => e = .returned c ∧ C w' ∧ R w w') (hn : eachOf P Q opsL Fr C R l (acc ++ [fun v _ => v = c])) : eachOf P Q opsL Fr C R (o :: l) acc :=
  each_call (fun v _ => v = c) (fun _ _ _ _ _ h => h) hg (fun u w hc hf => by
    obtain ⟨f, args, h1, h2⟩ := h u w hc hf
    exact ⟨f, args, h1, h2.mono fun e w' ⟨he, h3, h4⟩ => ⟨c, he, h3, h4, rfl⟩⟩) hn
/-- a guard's answer, from the value of the operation that it names -/
theorem wanted_at {ops : List Oper} {tmps : Array Value} {o : Oper} {j d : Nat} {b c : Bool} {v : Value} (hg : o.guard = some (j, b)) (hd : (ops[j]?).bind (·.dst) = some d) (ht : tmps[d]? = some v) (hv : v = .bool c) {r : Bool} (hr : (c == b) = r) : Region.wanted o (yielded ops.toArray tmps) = r := by
  subst hv
  have h1 : (ops.toArray[j]?).bind (·.dst) = some d := by simpa using hd
  have h2 : yielded ops.toArray tmps j = some c := by
    unfold yielded
    rw [h1]
    show (match tmps[d]? with | some (.bool b) => some b | _ => none) = some c
    rw [ht]
  rw [← hr]; simp [Region.wanted, hg, h2]
/-- an operation whose guard is not met -/
theorem each_off (h : ∀ u w, C w → factsOf acc o.after.toList u w → Region.wanted o (yielded opsL.toArray (Fr u).tmps) = false)
    (hn : eachOf P Q opsL Fr C R l (acc ++ [fun v _ => v = undef])) : eachOf P Q opsL Fr C R (o :: l) acc :=
  ⟨_, fun _ _ _ _ _ h => h, fun u w hc hf => by rw [if_neg (by rw [h u w hc hf]; simp)], hn⟩
/-- a guarded operation that hands back one value and leaves the world -/
theorem each_readG {c : Value} (hR : ∀ w, R w w) (h : ∀ u w, C w → factsOf acc o.after.toList u w → Region.wanted o (yielded opsL.toArray (Fr u).tmps) = true ∧ (execOp (Fr u).eval o).run P w = .ok (.value c) w)
    (hn : eachOf P Q opsL Fr C R l (acc ++ [fun v _ => v = c])) : eachOf P Q opsL Fr C R (o :: l) acc := by
  refine ⟨fun v _ => v = c, fun _ _ _ _ _ h => h, fun u w hc hf => ?_, hn⟩
  obtain ⟨hw, h1⟩ := h u w hc hf
  rw [if_pos hw]
  intro K hK
  unfold Oper.wp
  rw [h1]
  exact hK c w hc (hR w) rfl
/-- a guarded call of a Go function -/
theorem each_callG (V : Vp) (hV : ∀ v w w', C w' → R w w' → V v w → V v w')
    (h : ∀ u w, C w → factsOf acc o.after.toList u w → Region.wanted o (yielded opsL.toArray (Fr u).tmps) = true ∧ ∃ f args, (execOp (Fr u).eval o).run P w = .ok (.enter f args) w ∧ Calls P f args w fun e w' => ∃ v, e = .returned v ∧ C w' ∧ R w w' ∧ V v w') (hn : eachOf P Q opsL Fr C R l (acc ++ [V])) : eachOf P Q opsL Fr C R (o :: l) acc := by
  refine ⟨V, hV, fun u w hc hf => ?_, hn⟩
  obtain ⟨hw, f, args, h1, h2⟩ := h u w hc hf
  rw [if_pos hw]
  intro K hK
  unfold Oper.wp
  rw [h1]
  exact h2.mono fun e w' ⟨v, he, h3, h4, h5⟩ => by subst he; exact hK v w' h3 h4 h5
theorem each_callRG {c : Value}
    (h : ∀ u w, C w → factsOf acc o.after.toList u w → Region.wanted o (yielded opsL.toArray (Fr u).tmps) = true ∧ ∃ f args, (execOp (Fr u).eval o).run P w = .ok (.enter f args) w ∧ Calls P f args w fun e w' => e = .returned c ∧ C w' ∧ R w w') (hn : eachOf P Q opsL Fr C R l (acc ++ [fun v _ => v = c])) : eachOf P Q opsL Fr C R (o :: l) acc :=
  each_callG (fun v _ => v = c) (fun _ _ _ _ _ h => h) (fun u w hc hf => by
    obtain ⟨hw, f, args, h1, h2⟩ := h u w hc hf
    exact ⟨hw, f, args, h1, h2.mono fun e w' ⟨he, h3, h4⟩ => ⟨c, he, h3, h4, rfl⟩⟩) hn
end
end
end Go.Proofs.YtoddpmdjjgnpgaaGreatDoor
