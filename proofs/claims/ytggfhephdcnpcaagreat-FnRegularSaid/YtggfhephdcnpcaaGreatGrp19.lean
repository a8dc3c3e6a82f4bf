/-
  Append of one element to a row of its own that is known by its base, at a plain region's list.
-/
import Derived.Test.YtggfhephdcnpcaaGreatGrp02
import Derived.Test.YtggfhephdcnpcaaGreatGrp04
import Derived.Test.YtggfhephdcnpcaaGreatGrp18
import Derived.Test.YtggfhephdcnpcaaGreatGrp17
import Derived.IntWalk
import Derived.Test.YtggfhephdcnpcaaGreatGrp08
import Derived.Deep.RegionHeld3
import Derived.Deep.RegionLaw
namespace Go.Proofs.YtggfhephdcnpcaaGreat
open Go.RowKit
set_option linter.unusedVariables false
/-- the record at block g since w: its first field x, its second one the slice v of n elements with the cells xs -/
structure Rec2 (TT T : TypeId) (size : Nat) (w wr : World) (g : Nat) (x v : Value) (n : Nat) (xs : List Value) : Prop where
  blk : wr.heap[g]? = some (.cells #[x, v] TT (0, 0))
  own : wr.ownsRow (g + 1) T size v n xs
  le : w.heap.size ≤ g
  below : Below w.heap.size w wr
section
variable {TT T : TypeId} {size : Nat} {w wr : World} {g : Nat} {x v : Value} {n : Nat} {xs : List Value}
theorem rec_cells {W : World} {b : Nat} {x y : Value} {T : TypeId} (h : W.heap[b]? = some (.cells #[x, y] T (0, 0))) : W.cell? ⟨b, 0, none⟩ = some x ∧ W.cell? ⟨b, 1, none⟩ = some y ∧ W.frozen? ⟨b, 0, none⟩ = false ∧ W.frozen? ⟨b, 1, none⟩ = false := by
  refine ⟨by simp [World.cell?, h], by simp [World.cell?, h], by simp [World.frozen?, h], by simp [World.frozen?, h]⟩
theorem Rec2.facts (h : Rec2 TT T size w wr g x v n xs) : wr.cell? ⟨g, 0, none⟩ = some x ∧ wr.cell? ⟨g, 1, none⟩ = some v ∧ wr.frozen? ⟨g, 0, none⟩ = false ∧ wr.frozen? ⟨g, 1, none⟩ = false := rec_cells h.blk
theorem Rec2.lt (h : Rec2 TT T size w wr g x v n xs) : g < wr.heap.size := (Array.getElem?_eq_some_iff.1 h.blk).1
theorem Rec2.later {wr' : World} (h : Rec2 TT T size w wr g x v n xs) (hb : Below wr.heap.size wr wr') : Rec2 TT T size w wr' g x v n xs :=
  ⟨(hb.block g h.lt).trans h.blk, owns_later h.own hb, h.le, Below.now h.below hb⟩
theorem Rec2.far (h : Rec2 TT T size w wr g x v n xs) : v.ownBlock ≠ some g := fun e => by have := (h.own.lt g e).1; omega
/-- what a new record is, its slice nil -/
theorem Rec2.start (TT T : TypeId) (size : Nat) {w w1 : World} (hb : Below w.heap.size w w1) (x : Value) : Rec2 TT T size w (w1.alloc (.cells #[x, .slice none 0 0] TT)) w1.heap.size x (.slice none 0 0) 0 [] :=
  ⟨alloc_at _ _, World.ownsRow_nil _ _ _ _, hb.size, hb.alloc hb.size _⟩
/-- the cells of the record once the slice has been appended to -/
theorem Rec2.grown {w2 w4 : World} {ob : Obj} (h : Rec2 TT T size w wr g x v n xs) (hb : Below wr.heap.size wr w2) (hg : (w2.alloc ob).grownBy w4 v.ownBlock) : w4.heap[g]? = some (.cells #[x, v] TT (0, 0)) := by
  have h2 := h.later (hb.alloc hb.size ob)
  exact (hg.block g h2.lt (fun e => h.far e.symm)).trans h2.blk
/-- the slice that was appended to is stored -/
theorem Rec2.put {w2 w4 : World} {ob : Obj} {v' : Value} {m : Nat} {ys : List Value} (h : Rec2 TT T size w wr g x v n xs) (hb : Below wr.heap.size wr w2) (hg : (w2.alloc ob).grownBy w4 v.ownBlock) (hn : w4.ownsRow (g + 1) T size v' m ys) :
    Rec2 TT T size w (w4.setCell ⟨g, 1, none⟩ v') g x v' m ys := by
  have h2 := h.later (hb.alloc hb.size ob)
  have h4 := h.grown hb hg
  have b4 : Below w.heap.size w w4 := h2.below.grown hg h2.below.size (fun k hk => by have := (h.own.lt k hk).1; have := h.le; omega)
  refine ⟨?_, ownsRow_setCell_below hn (by show g < g + 1; omega) _, h.le, b4.setCell h.le _⟩
  unfold World.setCell
  simp [Array.getElem?_modify, h4]
end
section
variable {P : Program}
/-- append of one element to a row that lies from H on, at a step of a region that draws its order -/
theorem step_appH {ops : Array Oper} {o : Oper} {a : Act} {K : Act → World → Prop} {Q : Exit → Act → World → Prop} {E : Prop} {T tsl : TypeId} {z : Value} {size bytes : Nat} (hg : o.guard = none) (s x : Operand)
    (ho : o.op = .call { callee := .builtin .append, args := #[s, x], argTypes := #[tsl, tsl] }) (ht : P.underlying tsl = some (.slice T)) (hinfo : (P.info? T).map (fun i => (i.zero, i.size, i.bytes)) = some (some z, size, bytes))
    (hzs : z.cells.size = size) (hpos : 0 < size) {H : Nat} {wr : World} {v : Value} {n : Nat} {xs news : List Value} (hs : a.eval s = v) (hb : wr.ownsRow H T size v n xs) (hH : H ≤ wr.heap.size) (hx : a.eval x = .slice (some ⟨wr.heap.size, 0, none⟩) 1 1)
    (hn : news.length = size) (h1 : ∀ u ∈ news, u.oneCell' = true) (h63 : n + 1 ≤ maxLen) (hbytes : (n + 1) * bytes ≤ 140737488355328)
    (hK : ∀ g cap w', w'.ownsRow H T size (.slice (some ⟨g, 0, none⟩) (n + 1) cap) (n + 1) (xs ++ news) → (wr.alloc (.cells news.toArray T)).grownBy w' v.ownBlock → K (a.put o.dst (.slice (some ⟨g, 0, none⟩) (n + 1) cap)) w') :
    if Region.wanted o (yielded ops a.tmps) = true then Oper.wp P o a (wr.alloc (.cells news.toArray T)) K Q else E := by
  obtain ⟨i0, hi, hz0, hz1, hz2⟩ := info_parts hinfo
  refine step_append_lies (w := wr.alloc (.cells news.toArray T)) hg s x tsl ho H T i0 z size bytes ht hi hz0 hz1 hz2 hzs hpos v n xs hs (hb.alloc _) ⟨wr.heap.size, 0, none⟩ 1 1 news hx (by omega) ?_ h1 (by omega) h63 hbytes ?_ _ rfl ?_
  · intro j u hu
    have hadd : (⟨wr.heap.size, 0, none⟩ : Addr).add j = ⟨wr.heap.size, j, none⟩ := by unfold Addr.add; split <;> simp_all
    rw [hadd, World.cell?_alloc_new]
    simpa using hu
  · simp; omega
  · intro g cap w' hown hgr ho _
    exact hK g cap w' hown hgr
end
end Go.Proofs.YtggfhephdcnpcaaGreat
namespace Go.Proofs.YtggfhephdcnpcaaGreat
open Go.RowKit
set_option linter.unusedVariables false
/-- the value of a work -/
def workVal (k : Int) (aR : Option Addr) (nR cR : Nat) (aQ : Option Addr) (nQ cQ : Nat) (T : Nat) : Value := .agg #[.int .i64 k, .slice aR nR cR, .slice aQ nQ cQ, .int .i64 (T : Nat)]
theorem box_four {W : World} {T : TypeId} {a b c d : Value} {W2 : World} (hb : Below (W.alloc (.cells #[a, b, c, d] T)).heap.size (W.alloc (.cells #[a, b, c, d] T)) W2) :
    (W2.cell? ⟨W.heap.size, 0, none⟩ = some a ∧ W2.cell? ⟨W.heap.size, 1, none⟩ = some b ∧ W2.cell? ⟨W.heap.size, 2, none⟩ = some c ∧ W2.cell? ⟨W.heap.size, 3, none⟩ = some d) ∧
    W2.frozen? ⟨W.heap.size, 0, none⟩ = false ∧ W2.frozen? ⟨W.heap.size, 1, none⟩ = false ∧ W2.frozen? ⟨W.heap.size, 2, none⟩ = false ∧ W2.frozen? ⟨W.heap.size, 3, none⟩ = false := by
  have h := (hb.block W.heap.size (by simp)).trans (alloc_at W _)
  refine ⟨⟨?_, ?_, ?_, ?_⟩, ?_, ?_, ?_, ?_⟩ <;> simp [World.cell?, World.frozen?, h]
theorem ruleCells_one : ∀ (l : List RulD), ∀ u ∈ ruleCells l, u.oneCell' = true
  | [], u, hu => by cases hu
  | p :: l, u, hu => by
    simp only [ruleCells, List.mem_cons] at hu
    rcases hu with rfl | rfl | hu
    · rfl
    · rfl
    · exact ruleCells_one l u hu
theorem src_rules {P : Program} {w : World} {a : Option Addr} {l : List RulD} {tx e' : TypeId} (hk : P.underlying tx = some (.slice e')) (h : RulesIn w a l) (cap : Nat) : Go.Src P 2 tx (.slice a l.length cap) l.length (ruleCells l) w := by
  cases a with
  | none =>
    rcases h with h | ⟨b, off, ha, hc⟩
    · have hl := ruleCells_len l
      rw [h] at hl
      obtain rfl : l = [] := List.eq_nil_of_length_eq_zero (by simp at hl; omega)
      exact Go.Src.ofNil w hk cap
    · cases ha
  | some ad =>
    refine Go.Src.ofSlice w hk ad l.length cap (ruleCells l) (ruleCells_len l) (fun j u hu => ?_) (ruleCells_one l)
    rcases h with h | ⟨b, off, ha, hc⟩
    · rw [h] at hu; cases hu
    · cases ha
      rw [add_off]
      obtain ⟨hj, rfl⟩ := List.getElem?_eq_some_iff.1 hu
      exact hc j hj
end Go.Proofs.YtggfhephdcnpcaaGreat
namespace Go.Proofs.YtggfhephdcnpcaaGreat
open Go.RowKit
set_option linter.unusedVariables false
/-- what a work is handed back as: its rules and its equations in memory of the call's own -/
def RetCp (k : Int) (R Q : List RulD) (T : Nat) (w : World) (e : Ending) (w' : World) : Prop :=
  ∃ aR cR aQ cQ, e = .returned (workVal k aR R.length cR aQ Q.length cQ T) ∧ ownsOff w' w.heap.size 88 2 (.slice aR R.length cR) R.length (ruleCells R) ∧ ownsOff w' w.heap.size 88 2 (.slice aQ Q.length cQ) Q.length (ruleCells Q) ∧ Below w.heap.size w w'
theorem ownsOff.mono {w : World} {base base' : Nat} {T : TypeId} {size : Nat} {v : Value} {n : Nat} {xs : List Value} (h : ownsOff w base T size v n xs) (hb : base' ≤ base) : ownsOff w base' T size v n xs := by
  refine ⟨h.1, ?_⟩
  rcases h.2 with h' | ⟨g, o, cap, cur, hv, hb', r⟩
  · exact .inl h'
  · exact .inr ⟨g, o, cap, cur, hv, by omega, r⟩
theorem ownsOff.setBelow {w : World} {base : Nat} {T : TypeId} {size : Nat} {v : Value} {n : Nat} {xs : List Value} (h : ownsOff w base T size v n xs) {p : Addr} (hp : p.block < base) (u : Value) : ownsOff (w.setCell p u) base T size v n xs := by
  refine ⟨h.1, ?_⟩
  rcases h.2 with h' | ⟨g, o, cap, cur, hv, hb', hg, r⟩
  · exact .inl h'
  · refine .inr ⟨g, o, cap, cur, hv, hb', ?_, r⟩
    unfold World.setCell
    rw [Array.getElem?_modify, if_neg (fun e => by omega)]
    exact hg
theorem off_empty (T : TypeId) (size : Nat) (w1 : World) : ∀ W, Below (w1.alloc (.cells #[] T)).heap.size (w1.alloc (.cells #[] T)) W → ownsOff W w1.heap.size T size (.slice (some ⟨w1.heap.size, 0, none⟩) 0 0) 0 [] := fun W h => (ownsOff.of_row (Bld.empty T size w1).1).later h
theorem off_empty2 (T : TypeId) (size : Nat) (w1 : World) (o : Obj) : ∀ W, Below ((w1.alloc o).alloc (.cells #[] T)).heap.size ((w1.alloc o).alloc (.cells #[] T)) W → ownsOff W w1.heap.size T size (.slice (some ⟨w1.heap.size + 1, 0, none⟩) 0 0) 0 [] := fun W h => by
  have h1 := (off_empty T size (w1.alloc o) W h).mono (show w1.heap.size ≤ (w1.alloc o).heap.size by simp)
  have e : (w1.alloc o).heap.size = w1.heap.size + 1 := by simp
  rw [e] at h1
  exact h1
theorem alloc_two (w1 : World) (o o2 : Obj) : ((w1.alloc o).alloc o2).heap[w1.heap.size]? = some o ∧ ((w1.alloc o).alloc o2).heap[w1.heap.size + 1]? = some o2 := by
  have h1 := alloc_at w1 o
  have h2 := alloc_at (w1.alloc o) o2
  have e : (w1.alloc o).heap.size = w1.heap.size + 1 := by simp
  rw [e] at h2
  exact ⟨by rw [(alloc_belowS (w1.alloc o) o2).block w1.heap.size (by rw [e]; omega)]; exact h1, h2⟩
/-- the two fields of a box are set -/
theorem set_two {W : World} {g : Nat} {x y : Value} {T : TypeId} (h : W.heap[g]? = some (.cells #[x, y] T (0, 0))) (u v : Value) : ((W.setCell ⟨g, 0, none⟩ u).setCell ⟨g, 1, none⟩ v).heap[g]? = some (.cells #[u, v] T (0, 0)) := by
  unfold World.setCell
  simp [Array.getElem?_modify, h]
/-- a box of another type is set -/
theorem ownsOff.set2 {w : World} {base : Nat} {T T' : TypeId} {size : Nat} {v : Value} {n : Nat} {xs : List Value} (h : ownsOff w base T size v n xs) {g : Nat} {cs : Array Value} {fr : Nat × Nat} (hg : w.heap[g]? = some (.cells cs T' fr)) (hne : T ≠ T') (o1 o2 : Nat) (u1 u2 : Value) :
    ownsOff ((w.setCell ⟨g, o1, none⟩ u1).setCell ⟨g, o2, none⟩ u2) base T size v n xs := by
  refine ⟨h.1, ?_⟩
  rcases h.2 with h' | ⟨g1, o, cap, cur, hv, hb', hg1, r⟩
  · exact .inl h'
  · refine .inr ⟨g1, o, cap, cur, hv, hb', ?_, r⟩
    have hn : g ≠ g1 := fun e => by
      subst e
      rw [hg] at hg1
      simp only [Option.some.injEq, Obj.cells.injEq] at hg1
      exact hne hg1.2.1.symm
    unfold World.setCell
    rw [Array.getElem?_modify, if_neg hn, Array.getElem?_modify, if_neg hn]
    exact hg1
end Go.Proofs.YtggfhephdcnpcaaGreat
namespace Go.Proofs.YtggfhephdcnpcaaGreat
open Go.RowKit
set_option linter.unusedVariables false
def RetRule (m : Nat) (w : World) (e : Ending) (w' : World) : Prop := ∃ (x y : ByteArray) (b : Bool), (x.size ≤ m ∧ y.size ≤ m) ∧ e = .returned (.tuple #[.agg #[.string x, .string y], .bool b]) ∧ Below w.heap.size w w'
/-- two strings in a row of their own -/
def TwoS (m B : Nat) (w wr : World) (v : Value) : Prop := ∃ x y : ByteArray, (x.size ≤ m ∧ y.size ≤ m) ∧ wr.ownsRow (B + 1) 9 1 v 2 [.string x, .string y] ∧ Below B w wr ∧ wr.heap[B]? = some (.cells #[.string ⟨#[]⟩, .string ⟨#[]⟩] 88 (0, 0))
theorem TwoS.mk {m B : Nat} {w wr : World} {v : Value} {l : List ByteArray} (h2 : l.length = 2) (hl : ShortS m l) (ho : wr.ownsRow (B + 1) 9 1 v l.length (strVals l)) (hb : Below B w wr) (h0 : wr.heap[B]? = some (.cells #[.string ⟨#[]⟩, .string ⟨#[]⟩] 88 (0, 0))) : TwoS m B w wr v := by
  match l, h2 with
  | [x, y], _ => exact ⟨x, y, ⟨hl x (by simp), hl y (by simp)⟩, ho, hb, h0⟩
theorem TwoS.form {m B : Nat} {w wr : World} {a : Option Addr} {n cap : Nat} (h : TwoS m B w wr (.slice a n cap)) : ∃ g, a = some ⟨g, 0, none⟩ ∧ B + 1 ≤ g ∧ n = 2 := by
  obtain ⟨x, y, hs, ho, hb, h0⟩ := h
  rcases ho.2 with ⟨hv, h0⟩ | ⟨g, cap', cur, hv, hb', r⟩
  · cases h0
  · simp only [Value.slice.injEq] at hv
    exact ⟨g, hv.1, hb', hv.2.1⟩
theorem TwoS.store {m B : Nat} {w wr : World} {g cap : Nat} (h : TwoS m B w wr (.slice (some ⟨g, 0, none⟩) 2 cap)) (hg : B + 1 ≤ g) (i : Nat) : i < 2 → TwoS m B w (wr.setCell ⟨g, i, none⟩ (.string ⟨#[]⟩)) (.slice (some ⟨g, 0, none⟩) 2 cap) := by
  intro hi
  obtain ⟨x, y, hs, ho, hb, h0⟩ := h
  have hz : (⟨#[]⟩ : ByteArray).size = 0 := rfl
  have hst := (ho.stored i (.string ⟨#[]⟩)).1
  have hblk : (wr.setCell ⟨g, i, none⟩ (.string ⟨#[]⟩)).heap[B]? = some (.cells #[.string ⟨#[]⟩, .string ⟨#[]⟩] 88 (0, 0)) := by
    rw [← h0]
    unfold World.setCell
    rw [Array.getElem?_modify, if_neg (by show ¬ g = B; omega)]
  match i, hi with
  | 0, _ => exact ⟨⟨#[]⟩, y, by omega, hst, hb.setCell (by show B ≤ g; omega) _, hblk⟩
  | 1, _ => exact ⟨x, ⟨#[]⟩, by omega, hst, hb.setCell (by show B ≤ g; omega) _, hblk⟩
theorem RetRule.zero {m : Nat} {w wr : World} (h : Below w.heap.size w wr) : RetRule m w (.returned (.tuple #[.agg #[.string ⟨#[]⟩, .string ⟨#[]⟩], .bool false])) ((wr.setCell ⟨w.heap.size, 0, none⟩ (.string ⟨#[]⟩)).setCell ⟨w.heap.size, 1, none⟩ (.string ⟨#[]⟩)) := by
  have hz : (⟨#[]⟩ : ByteArray).size = 0 := rfl
  exact ⟨⟨#[]⟩, ⟨#[]⟩, false, by omega, rfl, (h.setCell (Nat.le_refl _) _).setCell (Nat.le_refl _) _⟩
set_option maxRecDepth 20000 in
set_option maxHeartbeats 4000000 in
theorem specParseRule_any (s : ByteArray) (w : World) (hs : s.size ≤ 2 ^ 20) :
    Calls Tryz.prog 99 #[.string s] w (RetRule s.size w) := by
  have HSP := Lib.hid (fun W => specSplitAny_any s 62 W hs)
  have hz1 : (⟨#[]⟩ : ByteArray).size = 0 := rfl
  go_enter Tryz.func99, Tryz.ntmps99
  go_wp2_with fail
  refine (HSP.out _).mono ?_
  rintro e w2 ⟨l, ⟨hl1, hl2, hl3⟩, a, cap, rfl, ho, hb2⟩
  have hb0 := (hb2.block w.heap.size (by simp)).trans (alloc_at w (.cells #[.string ⟨#[]⟩, .string ⟨#[]⟩] 88))
  have hf0 : w2.frozen? ⟨w.heap.size, 0, none⟩ = false ∧ w2.frozen? ⟨w.heap.size, 1, none⟩ = false := by simp [World.frozen?, hb0]
  obtain ⟨f0, f1⟩ := hf0
  have HW1 := Lib.hid ((Below.refl w.heap.size w).alloc (Nat.le_refl _) (.cells #[.string ⟨#[]⟩, .string ⟨#[]⟩] 88))
  by_cases h2 : l.length = 2
  · have HT : Hid (TwoS s.size w.heap.size w w2 (.slice a 2 cap)) := Lib.hid (TwoS.mk h2 hl1 (by rw [← h2]; simpa using ho) (Below.now HW1.out hb2) hb0)
    have HZ0 : Hid (w2.heap[w.heap.size]? = some (.cells #[.string ⟨#[]⟩, .string ⟨#[]⟩] 88 (0, 0))) := Lib.hid hb0
    clear hb2 ho hb0 f0 f1
    rw [h2]
    clear h2 hl1 hl2 hl3
    obtain ⟨g, rfl, hg, _⟩ := HT.out.form
    go_wp2_with fail
    go_loopw [16] (fun i wr => ∃ j : Nat, j ≤ 2 ∧ i = .int .i64 (j : Nat) ∧ Hid (TwoS s.size w.heap.size w wr (.slice (some ⟨g, 0, none⟩) 2 cap))) (fun i _ => 2 - (intOf i).toNat)
    case atStart => exact ⟨0, by omega, rfl, HT⟩
    case round =>
      clear HT HZ0
      obtain ⟨j, hj, rfl, HT⟩ := hrel
      obtain ⟨x, y, ⟨hx, hy⟩, ho, hb, h0⟩ := HT.out
      have H0 := Lib.hid h0
      have c0 : wr.cell? ⟨g, 0, none⟩ = some (.string x) := ho.cellAt 0 (by omega)
      have c1 : wr.cell? ⟨g, 1, none⟩ = some (.string y) := ho.cellAt 1 (by omega)
      have f0 := ho.frozenAt 0
      have f1 := ho.frozenAt 1
      have HS := Lib.hid (HT.out.store hg)
      clear h0
      have hj3 : j = 0 ∨ j = 1 ∨ j = 2 := by omega
      rcases hj3 with rfl | rfl | rfl
      · have HS0 := Lib.hid (HS.out 0 (by omega))
        go_wp2_with fail
        · go_roundw
          case rel => exact ⟨1, by omega, by go_num, HS0⟩
          case measure => simp [intOf]
        · go_roundw
          case rel => exact ⟨1, by omega, by go_num, HT⟩
          case measure => simp [intOf]
      · have HS1 := Lib.hid (HS.out 1 (by omega))
        go_wp2_with fail
        · go_roundw
          case rel => exact ⟨2, by omega, by go_num, HS1⟩
          case measure => simp [intOf]
        · go_roundw
          case rel => exact ⟨2, by omega, by go_num, HT⟩
          case measure => simp [intOf]
      · have p0 : ∀ o, (wr.alloc o).cell? ⟨g, 0, none⟩ = some (.string x) := fun o => by rw [(alloc_belowS wr o).cell (World.block_lt_of_cell? wr _ c0)]; exact c0
        have p1 : ∀ o, (wr.alloc o).cell? ⟨g, 1, none⟩ = some (.string y) := fun o => by rw [(alloc_belowS wr o).cell (World.block_lt_of_cell? wr _ c1)]; exact c1
        go_wp2_with fail
        go_upto_region 10 with fail
        go_cut [7] (fun v wx => v = .pointer (some ⟨wr.heap.size, 0, none⟩) ∧ wx.heap[wr.heap.size]? = some (.cells #[.string x, .string y] 88 (0, 0)) ∧ Below wr.heap.size wr wx)
        case first =>
          go_region_law (fail)
          all_goals
            go_wp2_with fail
            go_meet
            exact ⟨rfl, alloc_at wr _, Below.drew (alloc_belowS wr _)⟩
        case rest =>
          obtain ⟨rfl, hbx, hbc⟩ := hcut
          have hz := (hbc.block w.heap.size (Array.getElem?_eq_some_iff.1 H0.out).1).trans H0.out
          have HBW := Lib.hid (Below.now hb hbc)
          obtain ⟨s0, s1⟩ := sys_cells hbx
          clear hbc H0 p0 p1 c0 c1 f0 f1 hb ho HT HS
          have PW := Lib.hid (fun v W (h : v.size ≤ s.size) => specWordOk_any 4 v W (by unfold maxLen; omega))
          cases h1 : wordOkB 4 x
          · have F := Lib.hid (RetRule.zero (m := s.size) HBW.out)
            obtain ⟨z0, z1⟩ := sys_cells hz
            obtain ⟨u0, u1⟩ := sys_cells (set_two hz (.string ⟨#[]⟩) (.string ⟨#[]⟩))
            have ff0 : wc.frozen? ⟨w.heap.size, 0, none⟩ = false := by simp [World.frozen?, hz]
            have ff1 : wc.frozen? ⟨w.heap.size, 1, none⟩ = false := by simp [World.frozen?, hz]
            clear hz
            go_wp2_with (go_at_call 125; refine (PW.out _ _ (by first | exact hx | exact hy)).mono ?_; rintro e w' ⟨rfl, rfl⟩; (try rw [h1]))
            refine bodyPost_ret (v := .tuple #[.agg #[.string ⟨#[]⟩, .string ⟨#[]⟩], .bool false]) ?_ rfl F.out
            simp [results, Tryz.results99, go_sem, u0, u1]
          · cases h2 : wordOkB 4 y
            · have F := Lib.hid (RetRule.zero (m := s.size) HBW.out)
              obtain ⟨z0, z1⟩ := sys_cells hz
              obtain ⟨u0, u1⟩ := sys_cells (set_two hz (.string ⟨#[]⟩) (.string ⟨#[]⟩))
              have ff0 : wc.frozen? ⟨w.heap.size, 0, none⟩ = false := by simp [World.frozen?, hz]
              have ff1 : wc.frozen? ⟨w.heap.size, 1, none⟩ = false := by simp [World.frozen?, hz]
              clear hz
              go_wp2_with (go_at_call 125; refine (PW.out _ _ (by first | exact hx | exact hy)).mono ?_; rintro e w' ⟨rfl, rfl⟩; (try rw [h1]); (try rw [h2]))
              refine bodyPost_ret (v := .tuple #[.agg #[.string ⟨#[]⟩, .string ⟨#[]⟩], .bool false]) ?_ rfl F.out
              simp [results, Tryz.results99, go_sem, u0, u1]
            · have HFR := Lib.hid (fun W => specFormatRule_any x y W (by unfold maxLen; omega))
              have HZ := Lib.hid hz
              clear hz
              go_wp2_with (go_at_call 125; refine (PW.out _ _ (by first | exact hx | exact hy)).mono ?_; rintro e w' ⟨rfl, rfl⟩; (try rw [h1]); (try rw [h2]))
              refine (HFR.out _).mono ?_
              rintro e w3 ⟨rfl, hb3⟩
              have hz := (hb3.block w.heap.size (Array.getElem?_eq_some_iff.1 HZ.out).1).trans HZ.out
              obtain ⟨s0, s1⟩ := sys_cells ((hb3.block wr.heap.size (Array.getElem?_eq_some_iff.1 hbx).1).trans hbx)
              replace HBW := Lib.hid (Below.now HBW.out hb3)
              clear hb3 hbx HZ HFR PW
              generalize ruleT (x, y) = rt at *
              cases hq : (rt.toList == s.toList)
              · have F := Lib.hid (RetRule.zero (m := s.size) HBW.out)
                obtain ⟨z0, z1⟩ := sys_cells hz
                obtain ⟨u0, u1⟩ := sys_cells (set_two hz (.string ⟨#[]⟩) (.string ⟨#[]⟩))
                have ff0 : w3.frozen? ⟨w.heap.size, 0, none⟩ = false := by simp [World.frozen?, hz]
                have ff1 : w3.frozen? ⟨w.heap.size, 1, none⟩ = false := by simp [World.frozen?, hz]
                clear hz
                go_wp2_with fail
                refine bodyPost_ret (v := .tuple #[.agg #[.string ⟨#[]⟩, .string ⟨#[]⟩], .bool false]) ?_ rfl F.out
                simp [results, Tryz.results99, go_sem, u0, u1]
              · have F : Hid (RetRule s.size w (.returned (.tuple #[.agg #[.string x, .string y], .bool true])) ((w3.setCell ⟨w.heap.size, 0, none⟩ (.string x)).setCell ⟨w.heap.size, 1, none⟩ (.string y))) := Lib.hid ⟨x, y, true, ⟨hx, hy⟩, rfl, (HBW.out.setCell (Nat.le_refl _) _).setCell (Nat.le_refl _) _⟩
                obtain ⟨z0, z1⟩ := sys_cells hz
                obtain ⟨u0, u1⟩ := sys_cells (set_two hz (.string x) (.string y))
                have ff0 : w3.frozen? ⟨w.heap.size, 0, none⟩ = false := by simp [World.frozen?, hz]
                have ff1 : w3.frozen? ⟨w.heap.size, 1, none⟩ = false := by simp [World.frozen?, hz]
                clear hz
                go_wp2_with fail
                refine bodyPost_ret (v := .tuple #[.agg #[.string x, .string y], .bool true]) ?_ rfl F.out
                simp [results, Tryz.results99, go_sem, u0, u1]
  · have h2i : ((l.length : Int) == 2) = false := beq_eq_false_iff_ne.2 (by omega)
    have h2n : ¬ (l.length : Int) = 2 := by omega
    have F := Lib.hid (RetRule.zero (m := s.size) (Below.now HW1.out hb2))
    obtain ⟨z0, z1⟩ := sys_cells hb0
    obtain ⟨u0, u1⟩ := sys_cells (set_two hb0 (.string ⟨#[]⟩) (.string ⟨#[]⟩))
    clear hb2 ho
    go_wp2_with fail
    refine bodyPost_ret (v := .tuple #[.agg #[.string ⟨#[]⟩, .string ⟨#[]⟩], .bool false]) ?_ rfl F.out
    simp [results, Tryz.results99, go_sem, u0, u1]
end Go.Proofs.YtggfhephdcnpcaaGreat
namespace Go.Proofs.YtggfhephdcnpcaaGreat
open Go.RowKit
set_option linter.unusedVariables false
section
variable {P : Program}
/-- append of one element to a row that lies from H on, at a plain region's list -/
theorem wpList_appH {ops : Array Oper} {rest : List Oper} {o : Oper} {a : Act} {Q : Exit → Act → World → Prop} {T tsl : TypeId} {z : Value} {size bytes : Nat} (hg : o.guard = none) (s x : Operand)
    (ho : o.op = .call { callee := .builtin .append, args := #[s, x], argTypes := #[tsl, tsl] }) (ht : P.underlying tsl = some (.slice T)) (hinfo : (P.info? T).map (fun i => (i.zero, i.size, i.bytes)) = some (some z, size, bytes))
    (hzs : z.cells.size = size) (hpos : 0 < size) {H : Nat} {wr : World} {v : Value} {n : Nat} {xs news : List Value} (hs : a.eval s = v) (hb : wr.ownsRow H T size v n xs) (hH : H ≤ wr.heap.size) (hx : a.eval x = .slice (some ⟨wr.heap.size, 0, none⟩) 1 1)
    (hn : news.length = size) (h1 : ∀ u ∈ news, u.oneCell' = true) (h63 : n + 1 ≤ maxLen) (hbytes : (n + 1) * bytes ≤ 140737488355328)
    (hK : ∀ g cap w', w'.ownsRow H T size (.slice (some ⟨g, 0, none⟩) (n + 1) cap) (n + 1) (xs ++ news) → (wr.alloc (.cells news.toArray T)).grownBy w' v.ownBlock → ((Value.slice (some ⟨g, 0, none⟩) (n + 1) cap).ownBlock = v.ownBlock ∨ (Value.slice (some ⟨g, 0, none⟩) (n + 1) cap).ownBlock = some (wr.alloc (.cells news.toArray T)).heap.size) → wpList P ops Q rest (a.put o.dst (.slice (some ⟨g, 0, none⟩) (n + 1) cap)) w') :
    wpList P ops Q (o :: rest) a (wr.alloc (.cells news.toArray T)) := by
  obtain ⟨i0, hi, hz0, hz1, hz2⟩ := info_parts hinfo
  refine wpList_append_lies (w := wr.alloc (.cells news.toArray T)) hg s x tsl ho H T i0 z size bytes ht hi hz0 hz1 hz2 hzs hpos v n xs hs (hb.alloc _) ⟨wr.heap.size, 0, none⟩ 1 1 news hx (by omega) ?_ h1 (by omega) h63 hbytes ?_ _ rfl ?_
  · intro j u hu
    have hadd : (⟨wr.heap.size, 0, none⟩ : Addr).add j = ⟨wr.heap.size, j, none⟩ := by unfold Addr.add; split <;> simp_all
    rw [hadd, World.cell?_alloc_new]
    simpa using hu
  · simp; omega
  · intro g cap w' hown hgr ho _
    refine hK g cap w' hown hgr ?_
    rcases ho with ho | ho
    · exact .inl ho.symm
    · exact .inr (by rw [ho]; rfl)
end
end Go.Proofs.YtggfhephdcnpcaaGreat
