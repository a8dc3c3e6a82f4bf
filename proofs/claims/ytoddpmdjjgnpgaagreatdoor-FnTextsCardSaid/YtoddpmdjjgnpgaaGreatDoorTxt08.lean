/-
  Append of one element to a row of its own that is known by its base, at a plain region's list.
-/
import Derived.Test.YtoddpmdjjgnpgaaGreatDoorTxt06
import Derived.Test.YtoddpmdjjgnpgaaGreatDoorTxt07
import Derived.Test.YtoddpmdjjgnpgaaGreatDoorTxt01
import Derived.Deep.AppendSrc
import Derived.Test.YtoddpmdjjgnpgaaGreatDoorTxt03
import Derived.IntWalk
import Derived.Test.YtoddpmdjjgnpgaaGreatDoorTxt05
import Derived.Deep.RegionHeld3
import Derived.Deep.RegionLaw
namespace Go.Proofs.YtoddpmdjjgnpgaaGreatDoor
open Go.RowKit
set_option linter.unusedVariables false
theorem ltW_wt {u v : List UInt8} (h : ltW u v = true) : wt u < wt v := by
  unfold ltW at h
  rcases of_decide_eq_true h with h | ⟨h1, h2⟩
  · exact wt_short h
  · exact wt_lex h1 h2
theorem wt_ltW {u v : List UInt8} (h : wt u < wt v) : ltW u v = true := by
  cases h1 : ltW u v
  · cases h2 : ltW v u
    · obtain rfl := ltW_total h1 h2
      omega
    · have := ltW_wt h2
      omega
  · rfl
theorem wt_lessS {a b : ByteArray} (h : wt a.data.toList < wt b.data.toList) : lessS a b = true := wt_ltW h
theorem lessS_size {a b : ByteArray} (h : lessS a b = true) : a.size ≤ b.size := by
  have := wt_len (lessS_wt h)
  exact this
theorem sysW_dwn {k : Int} {R : List RulD} (hs : sysW k R) : Dwn (SR R) := by
  rintro _ _ ⟨p, hp, rfl, rfl⟩
  exact lessS_wt (hs.2 p hp)
theorem sysW_ne {k : Int} {R : List RulD} (hs : sysW k R) : ∀ r ∈ R, r.1.size ≠ 0 := fun r hr => (hs.1.2 r hr).2
theorem nfC_is {k : Int} {R : List RulD} (hs : sysW k R) {u : ByteArray} (hw : wordOkB k u = true) : NormIs R u (nfC R u) := by
  obtain ⟨x, hx, _⟩ := NormIs.exW hs _ u (Nat.lt_succ_self _) hw
  rw [nfC_eq hx]; exact hx
theorem nfC_word {k : Int} {R : List RulD} (hs : sysW k R) {u : ByteArray} (hw : wordOkB k u = true) : wordOkB k (nfC R u) = true := (nfC_is hs hw).wordW hs hw
theorem nfC_red {k : Int} {R : List RulD} (hs : sysW k R) {u : ByteArray} (hw : wordOkB k u = true) : Nf (SR R) u.data.toList (nfC R u).data.toList := norm_nf (sysW_ne hs) (nfC_is hs hw)
theorem nfC_le {k : Int} {R : List RulD} (hs : sysW k R) {u : ByteArray} (hw : wordOkB k u = true) : wt (nfC R u).data.toList ≤ wt u.data.toList := (nfC_red hs hw).1.le (sysW_dwn hs)
/-- l lies somewhere in w -/
def hasB (w l : ByteArray) : Bool := !(placesF w l).isEmpty
/-- the rules that are kept beside a new left side, and those that are not -/
def keptF (R : List RulD) (x : ByteArray) : List RulD := R.filter fun p => !hasB p.1 x
def goneF (R : List RulD) (x : ByteArray) : List RulD := R.filter fun p => hasB p.1 x
def allF (R : List RulD) (r : RulD) : List RulD := keptF R r.1 ++ [r]
noncomputable def mapF (R : List RulD) (r : RulD) (l : List RulD) : List RulD := l.map fun p => (p.1, nfC (allF R r) p.2)
noncomputable def nextF (R : List RulD) (r : RulD) : List RulD := mapF R r (keptF R r.1) ++ [r]
/-- the sides of the pairs with the last rule -/
def lastP (N : List RulD) (p : PairD) : Bool := decide (p.2.1 = N.length - 1) || decide (p.2.2.1 = N.length - 1)
def sidesF (N : List RulD) (p : PairD) : RulD := (leftP N p, rightP N p)
def newQ (N : List RulD) : List RulD := ((pairsF N).filter (lastP N)).map (sidesF N)
/-- the rule that an equation of two words is made into -/
def orF2 (a b : ByteArray) : RulD := if lessS a b = true then (b, a) else (a, b)
/-- what a turn is: its code, the rules, the equations and the turns behind it -/
noncomputable def turnF (R Q : List RulD) (T : Nat) : Nat × List RulD × List RulD × Nat :=
  match Q with
  | [] => (0, R, [], T)
  | q :: Qt =>
    if T = 200 then (3, R, q :: Qt, T)
    else if nfC R q.1 = nfC R q.2 then (0, R, Qt, T + 1)
    else if 8 < (orF2 (nfC R q.1) (nfC R q.2)).1.size then (1, R, q :: Qt, T)
    else if 12 < (nextF R (orF2 (nfC R q.1) (nfC R q.2))).length then (2, R, q :: Qt, T)
    else if 400 < (Qt ++ goneF R (orF2 (nfC R q.1) (nfC R q.2)).1 ++ newQ (nextF R (orF2 (nfC R q.1) (nfC R q.2)))).length then (2, R, q :: Qt, T)
    else (0, nextF R (orF2 (nfC R q.1) (nfC R q.2)), Qt ++ goneF R (orF2 (nfC R q.1) (nfC R q.2)).1 ++ newQ (nextF R (orF2 (nfC R q.1) (nfC R q.2))), T + 1)
/-- rules, equations and turns that a completion may go on from -/
structure WorkP (k : Int) (R Q : List RulD) (T : Nat) : Prop where
  sys : sysP k R
  few : Q.length ≤ 400
  word : ∀ q ∈ Q, wordOkB k q.1 = true ∧ wordOkB k q.2 = true
  turns : T ≤ 200
theorem orF2_less {a b : ByteArray} (h : a ≠ b) : lessS (orF2 a b).2 (orF2 a b).1 = true := by
  unfold orF2
  split
  · assumption
  · rename_i h1
    cases h2 : lessS b a
    · have e := ltW_total (Bool.not_eq_true _ ▸ h1 : ltW (blW a) (blW b) = false) h2
      exact absurd (ba_lists e) h
    · rfl
theorem orF2_cases (a b : ByteArray) : orF2 a b = (b, a) ∨ orF2 a b = (a, b) := by
  unfold orF2
  split
  · exact .inl rfl
  · exact .inr rfl
/-- what is known of a rule that a turn makes -/
structure NewR (k : Int) (r : RulD) : Prop where
  left : wordOkB k r.1 = true
  right : wordOkB k r.2 = true
  less : lessS r.2 r.1 = true
  short : r.1.size ≤ 8
theorem less_ne {a b : ByteArray} (h : lessS a b = true) : b.size ≠ 0 := by
  intro h0
  have e : b.data.toList = [] := List.eq_nil_of_length_eq_zero h0
  have := lessS_wt h
  rw [e] at this
  simp [wt, wtL] at this
theorem NewR.rule {k : Int} {r : RulD} (h : NewR k r) : ruleP k r := ⟨⟨⟨h.left, h.right⟩, h.short, Nat.le_trans (lessS_size h.less) h.short⟩, less_ne h.less⟩
theorem allF_sys {k : Int} {R : List RulD} (hs : sysP k R) {r : RulD} (hr : NewR k r) : sysW k (allF R r) := by
  have key : ∀ p ∈ allF R r, p ∈ R ∨ p = r := fun p hp => by
    rcases List.mem_append.1 hp with hp | hp
    · exact .inl ((List.mem_filter.1 hp).1)
    · exact .inr (List.mem_singleton.1 hp)
  refine ⟨⟨hs.1.1.1, fun p hp => ?_⟩, fun p hp => ?_⟩
  · rcases key p hp with h | rfl
    · exact hs.1.2 p h
    · exact hr.rule
  · rcases key p hp with h | rfl
    · exact hs.2 p h
    · exact hr.less
theorem nextF_mem {R : List RulD} {r : RulD} {p : RulD} : p ∈ nextF R r ↔ (∃ q ∈ keptF R r.1, p = (q.1, nfC (allF R r) q.2)) ∨ p = r := by
  unfold nextF mapF
  rw [List.mem_append, List.mem_map, List.mem_singleton]
  constructor
  · rintro (⟨q, h1, h2⟩ | h)
    · exact .inl ⟨q, h1, h2.symm⟩
    · exact .inr h
  · rintro (⟨q, h1, h2⟩ | h)
    · exact .inl ⟨q, h1, h2.symm⟩
    · exact .inr h
theorem nextF_weak {k : Int} {R : List RulD} (hs : sysP k R) {r : RulD} (hr : NewR k r) : sysW k (nextF R r) := by
  have ha := allF_sys hs hr
  have key : ∀ p ∈ nextF R r, ruleP k p ∧ lessS p.2 p.1 = true := fun p hp => by
    rcases nextF_mem.1 hp with ⟨q, hq, rfl⟩ | rfl
    · have hq2 := (List.mem_filter.1 hq).1
      have h1 := hs.1.2 q hq2
      have h2 := nfC_le ha h1.1.1.2
      have h3 := lessS_wt (hs.2 q hq2)
      have h4 : lessS (nfC (allF R r) q.2) q.1 = true := wt_lessS (by omega)
      exact ⟨⟨⟨⟨h1.1.1.1, nfC_word ha h1.1.1.2⟩, h1.1.2.1, Nat.le_trans (lessS_size h4) h1.1.2.1⟩, h1.2⟩, h4⟩
    · exact ⟨hr.rule, hr.less⟩
  exact ⟨⟨hs.1.1.1, fun p hp => (key p hp).1⟩, fun p hp => (key p hp).2⟩
theorem nextF_sys {k : Int} {R : List RulD} (hs : sysP k R) {r : RulD} (hr : NewR k r) (hl : ¬ 12 < (nextF R r).length) : sysP k (nextF R r) :=
  ⟨⟨⟨hs.1.1.1, by omega⟩, (nextF_weak hs hr).1.2⟩, (nextF_weak hs hr).2⟩
theorem sides_word {k : Int} {N : List RulD} (hs : sysP k N) {p : PairD} (hp : p ∈ pairsF N) : wordOkB k (sidesF N p).1 = true ∧ wordOkB k (sidesF N p).2 = true := by
  have h := pairOk hs hp
  exact ⟨step_word hs h.word h.one, step_word hs h.word h.two⟩
theorem newQ_word {k : Int} {N : List RulD} (hs : sysP k N) : ∀ q ∈ newQ N, wordOkB k q.1 = true ∧ wordOkB k q.2 = true := fun q hq => by
  obtain ⟨p, hp, rfl⟩ := List.mem_map.1 hq
  exact sides_word hs ((List.mem_filter.1 hp).1)
theorem orF2_new {k : Int} {R : List RulD} (hs : sysP k R) {q : RulD} (hq : wordOkB k q.1 = true ∧ wordOkB k q.2 = true) (hne : ¬ nfC R q.1 = nfC R q.2) (h8 : ¬ 8 < (orF2 (nfC R q.1) (nfC R q.2)).1.size) : NewR k (orF2 (nfC R q.1) (nfC R q.2)) := by
  have h1 := nfC_word hs.weak hq.1
  have h2 := nfC_word hs.weak hq.2
  have h3 := orF2_less hne
  rcases orF2_cases (nfC R q.1) (nfC R q.2) with e | e <;> rw [e] at h3 h8 ⊢
  · exact ⟨h2, h1, h3, by omega⟩
  · exact ⟨h1, h2, h3, by omega⟩
/-- a turn that ends well leaves what a completion may go on from -/
theorem WorkP.turn {k : Int} {R Q : List RulD} {T : Nat} (h : WorkP k R Q T) (hc : (turnF R Q T).1 = 0) : WorkP k (turnF R Q T).2.1 (turnF R Q T).2.2.1 (turnF R Q T).2.2.2 := by
  cases Q with
  | nil => exact h
  | cons q Qt =>
    have hq := h.word q List.mem_cons_self
    have hf := h.few
    simp only [List.length_cons] at hf
    have ht := h.turns
    unfold turnF at hc ⊢
    simp only at hc ⊢
    by_cases c1 : T = 200
    · rw [if_pos c1] at hc; cases hc
    rw [if_neg c1] at hc ⊢
    by_cases c2 : nfC R q.1 = nfC R q.2
    · rw [if_pos c2]
      exact ⟨h.sys, by show Qt.length ≤ 400; omega, fun p hp => h.word p (List.mem_cons_of_mem _ hp), by show T + 1 ≤ 200; omega⟩
    rw [if_neg c2] at hc ⊢
    by_cases c3 : 8 < (orF2 (nfC R q.1) (nfC R q.2)).1.size
    · rw [if_pos c3] at hc; cases hc
    rw [if_neg c3] at hc ⊢
    by_cases c4 : 12 < (nextF R (orF2 (nfC R q.1) (nfC R q.2))).length
    · rw [if_pos c4] at hc; cases hc
    rw [if_neg c4] at hc ⊢
    by_cases c5 : 400 < (Qt ++ goneF R (orF2 (nfC R q.1) (nfC R q.2)).1 ++ newQ (nextF R (orF2 (nfC R q.1) (nfC R q.2)))).length
    · rw [if_pos c5] at hc; cases hc
    rw [if_neg c5]
    have hr := orF2_new h.sys hq c2 c3
    have hs2 := nextF_sys h.sys hr c4
    refine ⟨hs2, Nat.not_lt.1 c5, fun p hp => ?_, by show T + 1 ≤ 200; omega⟩
    rcases List.mem_append.1 hp with hp | hp
    · rcases List.mem_append.1 hp with hp | hp
      · exact h.word p (List.mem_cons_of_mem _ hp)
      · exact (h.sys.1.2 p ((List.mem_filter.1 hp).1)).1.1
    · exact newQ_word hs2 p hp
/-- a completion: turns one after the other, until no equation is left or a turn fails -/
inductive RunIs : List RulD → List RulD → Nat → Nat → List RulD → List RulD → Nat → Prop
  | done {R : List RulD} {T : Nat} : RunIs R [] T 0 R [] T
  | fail {R Q : List RulD} {T : Nat} : Q ≠ [] → (turnF R Q T).1 ≠ 0 → RunIs R Q T (turnF R Q T).1 R Q T
  | step {R Q : List RulD} {T c : Nat} {R' Q' : List RulD} {T' : Nat} : Q ≠ [] → (turnF R Q T).1 = 0 → RunIs (turnF R Q T).2.1 (turnF R Q T).2.2.1 (turnF R Q T).2.2.2 c R' Q' T' → RunIs R Q T c R' Q' T'
theorem RunIs.uniq {R Q : List RulD} {T c1 c2 : Nat} {R1 R2 Q1 Q2 : List RulD} {T1 T2 : Nat} (a : RunIs R Q T c1 R1 Q1 T1) (b : RunIs R Q T c2 R2 Q2 T2) : c1 = c2 ∧ R1 = R2 ∧ Q1 = Q2 ∧ T1 = T2 := by
  induction a generalizing c2 R2 Q2 T2 with
  | done =>
    cases b with
    | done => exact ⟨rfl, rfl, rfl, rfl⟩
    | fail h _ => exact absurd rfl h
    | step h _ _ => exact absurd rfl h
  | fail h1 h2 =>
    cases b with
    | done => exact absurd rfl h1
    | fail _ _ => exact ⟨rfl, rfl, rfl, rfl⟩
    | step _ h3 _ => exact absurd h3 h2
  | step h1 h2 _ ih =>
    cases b with
    | done => exact absurd rfl h1
    | fail _ h3 => exact absurd h2 h3
    | step _ _ b => exact ih b
end Go.Proofs.YtoddpmdjjgnpgaaGreatDoor
namespace Go.Proofs.YtoddpmdjjgnpgaaGreatDoor
open Go.RowKit
set_option linter.unusedVariables false
/-- a slice of n elements somewhere in a block from base on -/
def ownsOff (w : World) (base : Nat) (T : TypeId) (size : Nat) (v : Value) (n : Nat) (xs : List Value) : Prop :=
  xs.length = n * size ∧ ((v = .slice none 0 0 ∧ n = 0) ∨ ∃ g o cap cur, v = .slice (some ⟨g, o, none⟩) n cap ∧ base ≤ g ∧ w.heap[g]? = some (.cells cur T (0, 0)) ∧ n ≤ cap ∧ cap ≤ maxLen ∧ o + cap * size ≤ cur.size ∧ (cur.toList.drop o).take (n * size) = xs)
section
variable {w : World} {base : Nat} {T : TypeId} {size : Nat} {v : Value} {n : Nat} {xs : List Value}
theorem ownsOff.form (h : ownsOff w base T size v n xs) : ∃ a cap, v = .slice a n cap := by
  rcases h.2 with ⟨hv, h0⟩ | ⟨g, o, cap, cur, hv, _⟩
  · exact ⟨none, 0, by rw [hv, h0]⟩
  · exact ⟨_, _, hv⟩
theorem ownsOff.lt (h : ownsOff w base T size v n xs) : ∀ k, v.ownBlock = some k → base ≤ k ∧ k < w.heap.size := by
  intro k hk
  rcases h.2 with ⟨rfl, _⟩ | ⟨g, o, cap, cur, rfl, hb, hg, _⟩
  · simp [Value.ownBlock] at hk
  · simp [Value.ownBlock] at hk
    subst hk
    exact ⟨hb, (Array.getElem?_eq_some_iff.1 hg).1⟩
theorem ownsOff.kept {w' : World} {row : Option Nat} (h : ownsOff w base T size v n xs) (hg : w.grownBy w' row) (hne : v.ownBlock = none ∨ v.ownBlock ≠ row) : ownsOff w' base T size v n xs := by
  refine ⟨h.1, ?_⟩
  rcases h.2 with hn | ⟨g, o, cap, cur, rfl, hb, hgg, rest⟩
  · exact .inl hn
  · refine .inr ⟨g, o, cap, cur, rfl, hb, ?_, rest⟩
    rw [hg.block g (Array.getElem?_eq_some_iff.1 hgg).1 (by simpa [Value.ownBlock] using hne)]
    exact hgg
theorem ownsOff.later {w' : World} (h : ownsOff w base T size v n xs) (hb : Below w.heap.size w w') : ownsOff w' base T size v n xs :=
  h.kept (row := none) ⟨hb.os, hb.tape, hb.output, hb.size, fun k hk _ => hb.block k hk⟩ (by cases h : v.ownBlock <;> simp)
theorem ownsOff.cellAt {g o cap : Nat} (h : ownsOff w base T size (.slice (some ⟨g, o, none⟩) n cap) n xs) : ∀ j u, xs[j]? = some u → w.cell? ⟨g, o + j, none⟩ = some u := by
  intro j u hu
  rcases h.2 with ⟨hv, _⟩ | ⟨g', o', cap', cur, hv, _, hgg, _, _, _, ht⟩
  · simp at hv
  · simp only [Value.slice.injEq, Option.some.injEq, Addr.mk.injEq] at hv
    obtain ⟨⟨rfl, rfl, _⟩, _, rfl⟩ := hv
    rw [cell_of_row w g _ cur T (0, 0) hgg]
    rw [← ht, List.getElem?_take] at hu
    split at hu
    · rw [List.getElem?_drop] at hu
      simpa using hu
    · cases hu
theorem ownsOff.cells {a : Option Addr} {cap : Nat} (h : ownsOff w base T size (.slice a n cap) n xs) : CellsIn w a xs := by
  rcases h.2 with ⟨hv, h0⟩ | ⟨g, o, cap', cur, hv, _⟩
  · exact .inl (List.eq_nil_of_length_eq_zero (by rw [h.1, h0, Nat.zero_mul]))
  · simp only [Value.slice.injEq] at hv
    obtain ⟨rfl, _, rfl⟩ := hv
    refine .inr ⟨g, o, rfl, fun i hi => ?_⟩
    exact h.cellAt i _ (List.getElem?_eq_getElem hi)
/-- all but the first element -/
theorem ownsOff.tail {g o cap : Nat} {x : List Value} (h : ownsOff w base T size (.slice (some ⟨g, o, none⟩) (n + 1) cap) (n + 1) (x ++ xs)) (hx : x.length = size) : ownsOff w base T size (.slice (some ⟨g, o + size, none⟩) n (cap - 1)) n xs := by
  have h1 := h.1
  rw [List.length_append, hx, Nat.succ_mul] at h1
  refine ⟨by omega, ?_⟩
  rcases h.2 with ⟨hv, _⟩ | ⟨g', o', cap', cur, hv, hb, hgg, hn, hc, hs, ht⟩
  · simp at hv
  · simp only [Value.slice.injEq, Option.some.injEq, Addr.mk.injEq] at hv
    obtain ⟨⟨rfl, rfl, _⟩, _, rfl⟩ := hv
    obtain ⟨c, rfl⟩ : ∃ c, cap = c + 1 := ⟨cap - 1, by omega⟩
    rw [Nat.succ_mul] at hs
    refine .inr ⟨g, o + size, c, cur, by rw [Nat.add_sub_cancel], hb, hgg, by omega, by omega, by omega, ?_⟩
    rw [← List.drop_drop]
    have h2 : ((cur.toList.drop o).take ((n + 1) * size)).drop size = xs := by rw [ht, ← hx, List.drop_left]
    rw [List.drop_take] at h2
    rw [← h2]
    congr 1
    rw [Nat.succ_mul]
    omega
end
section
variable {P : Program}
end
end Go.Proofs.YtoddpmdjjgnpgaaGreatDoor
namespace Go.Proofs.YtoddpmdjjgnpgaaGreatDoor
open Go.RowKit
set_option linter.unusedVariables false
/-- the record at block g since w: its first field x, its second one the slice v of n elements with the cells xs -/
structure Rec2 (TT T : TypeId) (size : Nat) (w wr : World) (g : Nat) (x v : Value) (n : Nat) (xs : List Value) : Prop where
  blk : wr.heap[g]? = some (.cells #[x, v] TT (0, 0))
  own : wr.ownsRow (g + 1) T size v n xs
  le : w.heap.size ≤ g
  below : Below w.heap.size w wr
section
variable {TT T : TypeId} {size : Nat} {w wr : World} {g : Nat} {x v : Value} {n : Nat} {xs : List Value}
theorem rec_cells {W : World} {b : Nat} {x y : Value} {T : TypeId} (h : W.heap[b]? = some (.cells #[x, y] T (0, 0))) : W.cell? ⟨b, 0, none⟩ = some x ∧ W.cell? ⟨b, 1, none⟩ = some y ∧ W.frozen? ⟨b, 0, none⟩ = false ∧ W.frozen? ⟨b, 1, none⟩ = false := by
  refine ⟨by simp [World.cell?, h], by simp [World.cell?, h], by simp [World.frozen?, h], by simp [World.frozen?, h]⟩
theorem Rec2.facts (h : Rec2 TT T size w wr g x v n xs) : wr.cell? ⟨g, 0, none⟩ = some x ∧ wr.cell? ⟨g, 1, none⟩ = some v ∧ wr.frozen? ⟨g, 0, none⟩ = false ∧ wr.frozen? ⟨g, 1, none⟩ = false := rec_cells h.blk
theorem Rec2.lt (h : Rec2 TT T size w wr g x v n xs) : g < wr.heap.size := (Array.getElem?_eq_some_iff.1 h.blk).1
theorem Rec2.later {wr' : World} (h : Rec2 TT T size w wr g x v n xs) (hb : Below wr.heap.size wr wr') : Rec2 TT T size w wr' g x v n xs :=
  ⟨(hb.block g h.lt).trans h.blk, owns_later h.own hb, h.le, Below.now h.below hb⟩
theorem Rec2.far (h : Rec2 TT T size w wr g x v n xs) : v.ownBlock ≠ some g := fun e => by have := (h.own.lt g e).1; omega
/-- what a new record is, its slice nil -/
theorem Rec2.start (TT T : TypeId) (size : Nat) {w w1 : World} (hb : Below w.heap.size w w1) (x : Value) : Rec2 TT T size w (w1.alloc (.cells #[x, .slice none 0 0] TT)) w1.heap.size x (.slice none 0 0) 0 [] :=
  ⟨alloc_at _ _, World.ownsRow_nil _ _ _ _, hb.size, hb.alloc hb.size _⟩
/-- the cells of the record once the slice has been appended to -/
theorem Rec2.grown {w2 w4 : World} {ob : Obj} (h : Rec2 TT T size w wr g x v n xs) (hb : Below wr.heap.size wr w2) (hg : (w2.alloc ob).grownBy w4 v.ownBlock) : w4.heap[g]? = some (.cells #[x, v] TT (0, 0)) := by
  have h2 := h.later (hb.alloc hb.size ob)
  exact (hg.block g h2.lt (fun e => h.far e.symm)).trans h2.blk
/-- the slice that was appended to is stored -/
theorem Rec2.put {w2 w4 : World} {ob : Obj} {v' : Value} {m : Nat} {ys : List Value} (h : Rec2 TT T size w wr g x v n xs) (hb : Below wr.heap.size wr w2) (hg : (w2.alloc ob).grownBy w4 v.ownBlock) (hn : w4.ownsRow (g + 1) T size v' m ys) :
    Rec2 TT T size w (w4.setCell ⟨g, 1, none⟩ v') g x v' m ys := by
  have h2 := h.later (hb.alloc hb.size ob)
  have h4 := h.grown hb hg
  have b4 : Below w.heap.size w w4 := h2.below.grown hg h2.below.size (fun k hk => by have := (h.own.lt k hk).1; have := h.le; omega)
  refine ⟨?_, ownsRow_setCell_below hn (by show g < g + 1; omega) _, h.le, b4.setCell h.le _⟩
  unfold World.setCell
  simp [Array.getElem?_modify, h4]
end
section
variable {P : Program}
end
end Go.Proofs.YtoddpmdjjgnpgaaGreatDoor
namespace Go.Proofs.YtoddpmdjjgnpgaaGreatDoor
open Go.RowKit
set_option linter.unusedVariables false
end Go.Proofs.YtoddpmdjjgnpgaaGreatDoor
namespace Go.Proofs.YtoddpmdjjgnpgaaGreatDoor
open Go.RowKit
set_option linter.unusedVariables false
theorem ownsOff.mono {w : World} {base base' : Nat} {T : TypeId} {size : Nat} {v : Value} {n : Nat} {xs : List Value} (h : ownsOff w base T size v n xs) (hb : base' ≤ base) : ownsOff w base' T size v n xs := by
  refine ⟨h.1, ?_⟩
  rcases h.2 with h' | ⟨g, o, cap, cur, hv, hb', r⟩
  · exact .inl h'
  · exact .inr ⟨g, o, cap, cur, hv, by omega, r⟩
theorem alloc_two (w1 : World) (o o2 : Obj) : ((w1.alloc o).alloc o2).heap[w1.heap.size]? = some o ∧ ((w1.alloc o).alloc o2).heap[w1.heap.size + 1]? = some o2 := by
  have h1 := alloc_at w1 o
  have h2 := alloc_at (w1.alloc o) o2
  have e : (w1.alloc o).heap.size = w1.heap.size + 1 := by simp
  rw [e] at h2
  exact ⟨by rw [(alloc_belowS (w1.alloc o) o2).block w1.heap.size (by rw [e]; omega)]; exact h1, h2⟩
/-- the two fields of a box are set -/
theorem set_two {W : World} {g : Nat} {x y : Value} {T : TypeId} (h : W.heap[g]? = some (.cells #[x, y] T (0, 0))) (u v : Value) : ((W.setCell ⟨g, 0, none⟩ u).setCell ⟨g, 1, none⟩ v).heap[g]? = some (.cells #[u, v] T (0, 0)) := by
  unfold World.setCell
  simp [Array.getElem?_modify, h]
end Go.Proofs.YtoddpmdjjgnpgaaGreatDoor
namespace Go.Proofs.YtoddpmdjjgnpgaaGreatDoor
open Go.RowKit
set_option linter.unusedVariables false
def RetRule (m : Nat) (w : World) (e : Ending) (w' : World) : Prop := ∃ (x y : ByteArray) (b : Bool), (x.size ≤ m ∧ y.size ≤ m) ∧ e = .returned (.tuple #[.agg #[.string x, .string y], .bool b]) ∧ Below w.heap.size w w'
/-- two strings in a row of their own -/
def TwoS (m B : Nat) (w wr : World) (v : Value) : Prop := ∃ x y : ByteArray, (x.size ≤ m ∧ y.size ≤ m) ∧ wr.ownsRow (B + 1) 9 1 v 2 [.string x, .string y] ∧ Below B w wr ∧ wr.heap[B]? = some (.cells #[.string ⟨#[]⟩, .string ⟨#[]⟩] 120 (0, 0))
theorem TwoS.mk {m B : Nat} {w wr : World} {v : Value} {l : List ByteArray} (h2 : l.length = 2) (hl : ShortS m l) (ho : wr.ownsRow (B + 1) 9 1 v l.length (strVals l)) (hb : Below B w wr) (h0 : wr.heap[B]? = some (.cells #[.string ⟨#[]⟩, .string ⟨#[]⟩] 120 (0, 0))) : TwoS m B w wr v := by
  match l, h2 with
  | [x, y], _ => exact ⟨x, y, ⟨hl x (by simp), hl y (by simp)⟩, ho, hb, h0⟩
theorem TwoS.form {m B : Nat} {w wr : World} {a : Option Addr} {n cap : Nat} (h : TwoS m B w wr (.slice a n cap)) : ∃ g, a = some ⟨g, 0, none⟩ ∧ B + 1 ≤ g ∧ n = 2 := by
  obtain ⟨x, y, hs, ho, hb, h0⟩ := h
  rcases ho.2 with ⟨hv, h0⟩ | ⟨g, cap', cur, hv, hb', r⟩
  · cases h0
  · simp only [Value.slice.injEq] at hv
    exact ⟨g, hv.1, hb', hv.2.1⟩
theorem TwoS.store {m B : Nat} {w wr : World} {g cap : Nat} (h : TwoS m B w wr (.slice (some ⟨g, 0, none⟩) 2 cap)) (hg : B + 1 ≤ g) (i : Nat) : i < 2 → TwoS m B w (wr.setCell ⟨g, i, none⟩ (.string ⟨#[]⟩)) (.slice (some ⟨g, 0, none⟩) 2 cap) := by
  intro hi
  obtain ⟨x, y, hs, ho, hb, h0⟩ := h
  have hz : (⟨#[]⟩ : ByteArray).size = 0 := rfl
  have hst := (ho.stored i (.string ⟨#[]⟩)).1
  have hblk : (wr.setCell ⟨g, i, none⟩ (.string ⟨#[]⟩)).heap[B]? = some (.cells #[.string ⟨#[]⟩, .string ⟨#[]⟩] 120 (0, 0)) := by
    rw [← h0]
    unfold World.setCell
    rw [Array.getElem?_modify, if_neg (by show ¬ g = B; omega)]
  match i, hi with
  | 0, _ => exact ⟨⟨#[]⟩, y, by omega, hst, hb.setCell (by show B ≤ g; omega) _, hblk⟩
  | 1, _ => exact ⟨x, ⟨#[]⟩, by omega, hst, hb.setCell (by show B ≤ g; omega) _, hblk⟩
theorem RetRule.zero {m : Nat} {w wr : World} (h : Below w.heap.size w wr) : RetRule m w (.returned (.tuple #[.agg #[.string ⟨#[]⟩, .string ⟨#[]⟩], .bool false])) ((wr.setCell ⟨w.heap.size, 0, none⟩ (.string ⟨#[]⟩)).setCell ⟨w.heap.size, 1, none⟩ (.string ⟨#[]⟩)) := by
  have hz : (⟨#[]⟩ : ByteArray).size = 0 := rfl
  exact ⟨⟨#[]⟩, ⟨#[]⟩, false, by omega, rfl, (h.setCell (Nat.le_refl _) _).setCell (Nat.le_refl _) _⟩
set_option maxRecDepth 20000 in
set_option maxHeartbeats 4000000 in
theorem specParseRule_any (s : ByteArray) (w : World) (hs : s.size ≤ 2 ^ 20) :
    Calls Tryz.prog 134 #[.string s] w (RetRule s.size w) := by
  have HSP := Lib.hid (fun W => specSplitAny_any s 62 W hs)
  have hz1 : (⟨#[]⟩ : ByteArray).size = 0 := rfl
  go_enter Tryz.func134, Tryz.ntmps134
  go_wp2_with fail
  refine (HSP.out _).mono ?_
  rintro e w2 ⟨l, ⟨hl1, hl2, hl3⟩, a, cap, rfl, ho, hb2⟩
  have hb0 := (hb2.block w.heap.size (by simp)).trans (alloc_at w (.cells #[.string ⟨#[]⟩, .string ⟨#[]⟩] 120))
  have hf0 : w2.frozen? ⟨w.heap.size, 0, none⟩ = false ∧ w2.frozen? ⟨w.heap.size, 1, none⟩ = false := by simp [World.frozen?, hb0]
  obtain ⟨f0, f1⟩ := hf0
  have HW1 := Lib.hid ((Below.refl w.heap.size w).alloc (Nat.le_refl _) (.cells #[.string ⟨#[]⟩, .string ⟨#[]⟩] 120))
  by_cases h2 : l.length = 2
  · have HT : Hid (TwoS s.size w.heap.size w w2 (.slice a 2 cap)) := Lib.hid (TwoS.mk h2 hl1 (by rw [← h2]; simpa using ho) (Below.now HW1.out hb2) hb0)
    have HZ0 : Hid (w2.heap[w.heap.size]? = some (.cells #[.string ⟨#[]⟩, .string ⟨#[]⟩] 120 (0, 0))) := Lib.hid hb0
    clear hb2 ho hb0 f0 f1
    rw [h2]
    clear h2 hl1 hl2 hl3
    obtain ⟨g, rfl, hg, _⟩ := HT.out.form
    go_wp2_with fail
    go_loopw [16] (fun i wr => ∃ j : Nat, j ≤ 2 ∧ i = .int .i64 (j : Nat) ∧ Hid (TwoS s.size w.heap.size w wr (.slice (some ⟨g, 0, none⟩) 2 cap))) (fun i _ => 2 - (intOf i).toNat)
    case atStart => exact ⟨0, by omega, rfl, HT⟩
    case round =>
      clear HT HZ0
      obtain ⟨j, hj, rfl, HT⟩ := hrel
      obtain ⟨x, y, ⟨hx, hy⟩, ho, hb, h0⟩ := HT.out
      have H0 := Lib.hid h0
      have c0 : wr.cell? ⟨g, 0, none⟩ = some (.string x) := ho.cellAt 0 (by omega)
      have c1 : wr.cell? ⟨g, 1, none⟩ = some (.string y) := ho.cellAt 1 (by omega)
      have f0 := ho.frozenAt 0
      have f1 := ho.frozenAt 1
      have HS := Lib.hid (HT.out.store hg)
      clear h0
      have hj3 : j = 0 ∨ j = 1 ∨ j = 2 := by omega
      rcases hj3 with rfl | rfl | rfl
      · have HS0 := Lib.hid (HS.out 0 (by omega))
        go_wp2_with fail
        · go_roundw
          case rel => exact ⟨1, by omega, by go_num, HS0⟩
          case measure => simp [intOf]
        · go_roundw
          case rel => exact ⟨1, by omega, by go_num, HT⟩
          case measure => simp [intOf]
      · have HS1 := Lib.hid (HS.out 1 (by omega))
        go_wp2_with fail
        · go_roundw
          case rel => exact ⟨2, by omega, by go_num, HS1⟩
          case measure => simp [intOf]
        · go_roundw
          case rel => exact ⟨2, by omega, by go_num, HT⟩
          case measure => simp [intOf]
      · have p0 : ∀ o, (wr.alloc o).cell? ⟨g, 0, none⟩ = some (.string x) := fun o => by rw [(alloc_belowS wr o).cell (World.block_lt_of_cell? wr _ c0)]; exact c0
        have p1 : ∀ o, (wr.alloc o).cell? ⟨g, 1, none⟩ = some (.string y) := fun o => by rw [(alloc_belowS wr o).cell (World.block_lt_of_cell? wr _ c1)]; exact c1
        go_wp2_with fail
        go_upto_region 10 with fail
        go_cut [7] (fun v wx => v = .pointer (some ⟨wr.heap.size, 0, none⟩) ∧ wx.heap[wr.heap.size]? = some (.cells #[.string x, .string y] 120 (0, 0)) ∧ Below wr.heap.size wr wx)
        case first =>
          go_region_law (fail)
          all_goals
            go_wp2_with fail
            go_meet
            exact ⟨rfl, alloc_at wr _, Below.drew (alloc_belowS wr _)⟩
        case rest =>
          obtain ⟨rfl, hbx, hbc⟩ := hcut
          have hz := (hbc.block w.heap.size (Array.getElem?_eq_some_iff.1 H0.out).1).trans H0.out
          have HBW := Lib.hid (Below.now hb hbc)
          obtain ⟨s0, s1⟩ := sys_cells hbx
          clear hbc H0 p0 p1 c0 c1 f0 f1 hb ho HT HS
          have PW := Lib.hid (fun v W (h : v.size ≤ s.size) => specWordOk_any 4 v W (by unfold maxLen; omega))
          cases h1 : wordOkB 4 x
          · have F := Lib.hid (RetRule.zero (m := s.size) HBW.out)
            obtain ⟨z0, z1⟩ := sys_cells hz
            obtain ⟨u0, u1⟩ := sys_cells (set_two hz (.string ⟨#[]⟩) (.string ⟨#[]⟩))
            have ff0 : wc.frozen? ⟨w.heap.size, 0, none⟩ = false := by simp [World.frozen?, hz]
            have ff1 : wc.frozen? ⟨w.heap.size, 1, none⟩ = false := by simp [World.frozen?, hz]
            clear hz
            go_wp2_with (go_at_call 65; refine (PW.out _ _ (by first | exact hx | exact hy)).mono ?_; rintro e w' ⟨rfl, rfl⟩; (try rw [h1]))
            refine bodyPost_ret (v := .tuple #[.agg #[.string ⟨#[]⟩, .string ⟨#[]⟩], .bool false]) ?_ rfl F.out
            simp [results, Tryz.results134, go_sem, u0, u1]
          · cases h2 : wordOkB 4 y
            · have F := Lib.hid (RetRule.zero (m := s.size) HBW.out)
              obtain ⟨z0, z1⟩ := sys_cells hz
              obtain ⟨u0, u1⟩ := sys_cells (set_two hz (.string ⟨#[]⟩) (.string ⟨#[]⟩))
              have ff0 : wc.frozen? ⟨w.heap.size, 0, none⟩ = false := by simp [World.frozen?, hz]
              have ff1 : wc.frozen? ⟨w.heap.size, 1, none⟩ = false := by simp [World.frozen?, hz]
              clear hz
              go_wp2_with (go_at_call 65; refine (PW.out _ _ (by first | exact hx | exact hy)).mono ?_; rintro e w' ⟨rfl, rfl⟩; (try rw [h1]); (try rw [h2]))
              refine bodyPost_ret (v := .tuple #[.agg #[.string ⟨#[]⟩, .string ⟨#[]⟩], .bool false]) ?_ rfl F.out
              simp [results, Tryz.results134, go_sem, u0, u1]
            · have HFR := Lib.hid (fun W => specFormatRule_any x y W (by unfold maxLen; omega))
              have HZ := Lib.hid hz
              clear hz
              go_wp2_with (go_at_call 65; refine (PW.out _ _ (by first | exact hx | exact hy)).mono ?_; rintro e w' ⟨rfl, rfl⟩; (try rw [h1]); (try rw [h2]))
              refine (HFR.out _).mono ?_
              rintro e w3 ⟨rfl, hb3⟩
              have hz := (hb3.block w.heap.size (Array.getElem?_eq_some_iff.1 HZ.out).1).trans HZ.out
              obtain ⟨s0, s1⟩ := sys_cells ((hb3.block wr.heap.size (Array.getElem?_eq_some_iff.1 hbx).1).trans hbx)
              replace HBW := Lib.hid (Below.now HBW.out hb3)
              clear hb3 hbx HZ HFR PW
              generalize ruleT (x, y) = rt at *
              cases hq : (rt.toList == s.toList)
              · have F := Lib.hid (RetRule.zero (m := s.size) HBW.out)
                obtain ⟨z0, z1⟩ := sys_cells hz
                obtain ⟨u0, u1⟩ := sys_cells (set_two hz (.string ⟨#[]⟩) (.string ⟨#[]⟩))
                have ff0 : w3.frozen? ⟨w.heap.size, 0, none⟩ = false := by simp [World.frozen?, hz]
                have ff1 : w3.frozen? ⟨w.heap.size, 1, none⟩ = false := by simp [World.frozen?, hz]
                clear hz
                go_wp2_with fail
                refine bodyPost_ret (v := .tuple #[.agg #[.string ⟨#[]⟩, .string ⟨#[]⟩], .bool false]) ?_ rfl F.out
                simp [results, Tryz.results134, go_sem, u0, u1]
              · have F : Hid (RetRule s.size w (.returned (.tuple #[.agg #[.string x, .string y], .bool true])) ((w3.setCell ⟨w.heap.size, 0, none⟩ (.string x)).setCell ⟨w.heap.size, 1, none⟩ (.string y))) := Lib.hid ⟨x, y, true, ⟨hx, hy⟩, rfl, (HBW.out.setCell (Nat.le_refl _) _).setCell (Nat.le_refl _) _⟩
                obtain ⟨z0, z1⟩ := sys_cells hz
                obtain ⟨u0, u1⟩ := sys_cells (set_two hz (.string x) (.string y))
                have ff0 : w3.frozen? ⟨w.heap.size, 0, none⟩ = false := by simp [World.frozen?, hz]
                have ff1 : w3.frozen? ⟨w.heap.size, 1, none⟩ = false := by simp [World.frozen?, hz]
                clear hz
                go_wp2_with fail
                refine bodyPost_ret (v := .tuple #[.agg #[.string x, .string y], .bool true]) ?_ rfl F.out
                simp [results, Tryz.results134, go_sem, u0, u1]
  · have h2i : ((l.length : Int) == 2) = false := beq_eq_false_iff_ne.2 (by omega)
    have h2n : ¬ (l.length : Int) = 2 := by omega
    have F := Lib.hid (RetRule.zero (m := s.size) (Below.now HW1.out hb2))
    obtain ⟨z0, z1⟩ := sys_cells hb0
    obtain ⟨u0, u1⟩ := sys_cells (set_two hb0 (.string ⟨#[]⟩) (.string ⟨#[]⟩))
    clear hb2 ho
    go_wp2_with fail
    refine bodyPost_ret (v := .tuple #[.agg #[.string ⟨#[]⟩, .string ⟨#[]⟩], .bool false]) ?_ rfl F.out
    simp [results, Tryz.results134, go_sem, u0, u1]
end Go.Proofs.YtoddpmdjjgnpgaaGreatDoor
namespace Go.Proofs.YtoddpmdjjgnpgaaGreatDoor
open Go.RowKit
set_option linter.unusedVariables false
section
variable {P : Program}
/-- append of one element to a row that lies from H on, at a plain region's list -/
theorem wpList_appH {ops : Array Oper} {rest : List Oper} {o : Oper} {a : Act} {Q : Exit → Act → World → Prop} {T tsl : TypeId} {z : Value} {size bytes : Nat} (hg : o.guard = none) (s x : Operand)
    (ho : o.op = .call { callee := .builtin .append, args := #[s, x], argTypes := #[tsl, tsl] }) (ht : P.underlying tsl = some (.slice T)) (hinfo : (P.info? T).map (fun i => (i.zero, i.size, i.bytes)) = some (some z, size, bytes))
    (hzs : z.cells.size = size) (hpos : 0 < size) {H : Nat} {wr : World} {v : Value} {n : Nat} {xs news : List Value} (hs : a.eval s = v) (hb : wr.ownsRow H T size v n xs) (hH : H ≤ wr.heap.size) (hx : a.eval x = .slice (some ⟨wr.heap.size, 0, none⟩) 1 1)
    (hn : news.length = size) (h1 : ∀ u ∈ news, u.oneCell' = true) (h63 : n + 1 ≤ maxLen) (hbytes : (n + 1) * bytes ≤ 140737488355328)
    (hK : ∀ g cap w', w'.ownsRow H T size (.slice (some ⟨g, 0, none⟩) (n + 1) cap) (n + 1) (xs ++ news) → (wr.alloc (.cells news.toArray T)).grownBy w' v.ownBlock → ((Value.slice (some ⟨g, 0, none⟩) (n + 1) cap).ownBlock = v.ownBlock ∨ (Value.slice (some ⟨g, 0, none⟩) (n + 1) cap).ownBlock = some (wr.alloc (.cells news.toArray T)).heap.size) → wpList P ops Q rest (a.put o.dst (.slice (some ⟨g, 0, none⟩) (n + 1) cap)) w') :
    wpList P ops Q (o :: rest) a (wr.alloc (.cells news.toArray T)) := by
  obtain ⟨i0, hi, hz0, hz1, hz2⟩ := info_parts hinfo
  refine wpList_append_lies (w := wr.alloc (.cells news.toArray T)) hg s x tsl ho H T i0 z size bytes ht hi hz0 hz1 hz2 hzs hpos v n xs hs (hb.alloc _) ⟨wr.heap.size, 0, none⟩ 1 1 news hx (by omega) ?_ h1 (by omega) h63 hbytes ?_ _ rfl ?_
  · intro j u hu
    have hadd : (⟨wr.heap.size, 0, none⟩ : Addr).add j = ⟨wr.heap.size, j, none⟩ := by unfold Addr.add; split <;> simp_all
    rw [hadd, World.cell?_alloc_new]
    simpa using hu
  · simp; omega
  · intro g cap w' hown hgr ho _
    refine hK g cap w' hown hgr ?_
    rcases ho with ho | ho
    · exact .inl ho.symm
    · exact .inr (by rw [ho]; rfl)
end
end Go.Proofs.YtoddpmdjjgnpgaaGreatDoor
