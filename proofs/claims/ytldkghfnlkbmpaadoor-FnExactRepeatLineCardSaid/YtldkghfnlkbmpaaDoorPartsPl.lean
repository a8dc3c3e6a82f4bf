/-
  The different parts of a word: plain data.
-/
import Derived.Test.YtldkghfnlkbmpaaDoorFindAll
import Derived.Maps.OwnSet
namespace Go.Proofs.YtldkghfnlkbmpaaDoor
open Go.RowKit
set_option linter.unusedVariables false
def sub (l : List UInt8) (i e : Nat) : List UInt8 := (l.drop i).take (e - i)
theorem bl_sub (s : ByteArray) (i e : Nat) : bl (s.extract i e) = sub (bl s) i e := bl_cut s i e
theorem sub_len {l : List UInt8} {i e : Nat} (hi : i ≤ e) (he : e ≤ l.length) : (sub l i e).length = e - i := by
  unfold sub; rw [List.length_take, List.length_drop]; omega
theorem gb_sub {l : List UInt8} {i e j : Nat} (hj : j < e - i) : gb (sub l i e) j = gb l (i + j) := by
  unfold gb sub
  rw [List.getD_eq_getElem?_getD, List.getElem?_take, if_pos hj, List.getElem?_drop, List.getD_eq_getElem?_getD]
def occB (p l : List UInt8) (x : Nat) : Bool := decide (p.length ≤ x) && (sub l (x - p.length) x == p)
theorem occB_iff {p l : List UInt8} {x : Nat} (hx : x ≤ l.length) : occB p l x = true ↔ occ p l x := by
  unfold occB
  rw [Bool.and_eq_true, decide_eq_true_eq, beq_iff_eq]
  constructor
  · rintro ⟨a, b⟩
    refine ⟨a, Nat.le_refl _, fun j hj => ?_⟩
    have := gb_sub (l := l) (i := x - p.length) (e := x) (j := j) (by omega)
    rw [b] at this; exact this
  · rintro ⟨a, _, c⟩
    refine ⟨a, List.ext_getElem? fun j => ?_⟩
    have hl := sub_len (l := l) (i := x - p.length) (e := x) (by omega) hx
    by_cases hj : j < p.length
    · rw [gb_some (by omega), gb_some hj, gb_sub (by omega), c j hj]
    · rw [List.getElem?_eq_none (by omega), List.getElem?_eq_none (by omega)]
/-- the part from i to e does not stand further ahead -/
def newB (l : List UInt8) (i e : Nat) : Bool := (List.range e).all fun x => !occB (sub l i e) l x
theorem newB_iff {l : List UInt8} {i e : Nat} (he : e ≤ l.length) : newB l i e = true ↔ ∀ x, x < e → ¬ occ (sub l i e) l x := by
  unfold newB
  rw [List.all_eq_true]
  constructor
  · intro h x hx ho
    have := h x (List.mem_range.2 hx)
    rw [(occB_iff (x := x) (by omega)).2 ho] at this; cases this
  · intro h x hx
    have hx := List.mem_range.1 hx
    cases hb : occB (sub l i e) l x
    · rfl
    · exact absurd ((occB_iff (x := x) (by omega)).1 hb) (h x hx)
theorem occ_self {l : List UInt8} {i e : Nat} (hi : i ≤ e) (he : e ≤ l.length) : occ (sub l i e) l e := by
  rw [← occB_iff he]
  unfold occB
  rw [sub_len hi he, show e - (e - i) = i from by omega]
  simp
theorem fnd_new {l : List UInt8} {i e : Nat} {xs : List Nat} (hi : i < e) (he : e ≤ l.length) (h : fnd (sub l i e) l l.length xs) : 1 ≤ xs.length ∧ (xs.getD 0 0 = i ↔ newB l i e = true) := by
  have ho := occ_self (l := l) (i := i) (e := e) (Nat.le_of_lt hi) he
  have hl := sub_len (l := l) (i := i) (e := e) (Nat.le_of_lt hi) he
  obtain ⟨a, b⟩ := h
  rcases b with ⟨c, d⟩ | ⟨c, e0, d1, d2, d3, d4⟩
  · exact absurd ho (d e he)
  · refine ⟨c, ?_⟩
    rw [newB_iff he]
    have hle : e0 ≤ e := by
      rcases Nat.lt_or_ge e e0 with g | g
      · exact absurd ho (d4 e g)
      · exact g
    constructor
    · intro hx x hxe
      exact d4 x (by omega)
    · intro hn
      have : e ≤ e0 := by
        rcases Nat.lt_or_ge e0 e with g | g
        · exact absurd d2 (hn e0 g)
        · exact g
      omega
/-- how many parts are new: among those that begin at i, d of them; among those that begin ahead of i, and the empty one -/
def cIn (l : List UInt8) (i : Nat) : Nat → Nat
  | 0 => 0
  | d + 1 => cIn l i d + (if newB l i (i + 1 + d) = true then 1 else 0)
def cOut (l : List UInt8) : Nat → Nat
  | 0 => 1
  | i + 1 => cOut l i + cIn l i (l.length - i)
theorem cIn_le (l : List UInt8) (i : Nat) : ∀ d, cIn l i d ≤ d
  | 0 => Nat.le_refl _
  | d + 1 => by have := cIn_le l i d; unfold cIn; split <;> omega
theorem cOut_le {l : List UInt8} (hl : l.length ≤ 60) : ∀ i, cOut l i ≤ 1 + 60 * i
  | 0 => by unfold cOut; omega
  | i + 1 => by have := cOut_le hl i; have := cIn_le l i (l.length - i); unfold cOut; omega
/-- the texts that were laid into the set -/
def seen (l : List UInt8) (i d : Nat) (t : List UInt8) : Prop := t = [] ∨ ∃ i' e', i' < e' ∧ e' ≤ l.length ∧ (i' < i ∨ (i' = i ∧ e' < i + 1 + d)) ∧ t = sub l i' e'
theorem seen_new {l : List UInt8} {i d : Nat} (he : i + 1 + d ≤ l.length) : newB l i (i + 1 + d) = true ↔ ¬ seen l i d (sub l i (i + 1 + d)) := by
  rw [newB_iff he]
  have hl := sub_len (l := l) (i := i) (e := i + 1 + d) (by omega) he
  constructor
  · intro hn hs
    rcases hs with h0 | ⟨i', e', a, b, c, t⟩
    · have := congrArg List.length h0
      rw [hl] at this; simp at this; omega
    · have hl2 := sub_len (l := l) (i := i') (e := e') (by omega) b
      rw [← t, hl] at hl2
      refine hn e' (by omega) ?_
      rw [t]
      exact occ_self (by omega) b
  · intro hs x hx ho
    have h1 := (occB_iff (by omega : x ≤ l.length)).2 ho
    unfold occB at h1
    rw [Bool.and_eq_true, decide_eq_true_eq, beq_iff_eq, hl] at h1
    exact hs (.inr ⟨x - (i + 1 + d - i), x, by omega, by omega, .inl (by omega), h1.2.symm⟩)
section
variable {H : Type}
def keysOk (l : List UInt8) (i d : Nat) (D : DataW H) : Prop := Maps.Tidy D ∧ Maps.size D = cOut l i + cIn l i d ∧ ∀ t : List UInt8, Maps.has D (.string t) = true ↔ seen l i d t
theorem key_lit (t : List UInt8) : WideAt.IsKeyLit (.string t) := trivial
theorem seen_step {l : List UInt8} {i d : Nat} {t : List UInt8} (he : i + 1 + d ≤ l.length) : seen l i (d + 1) t ↔ t = sub l i (i + 1 + d) ∨ seen l i d t := by
  constructor
  · rintro (h | ⟨i', e', a, b, c, h⟩)
    · exact .inr (.inl h)
    · by_cases g : i' = i ∧ e' = i + 1 + d
      · obtain ⟨rfl, rfl⟩ := g; exact .inl h
      · exact .inr (.inr ⟨i', e', a, b, by omega, h⟩)
  · rintro (h | h | ⟨i', e', a, b, c, h⟩)
    · exact .inr ⟨i, i + 1 + d, by omega, he, .inr ⟨rfl, by omega⟩, h⟩
    · exact .inl h
    · exact .inr ⟨i', e', a, b, by omega, h⟩
theorem keysOk_put {l : List UInt8} {i d : Nat} {D : DataW H} {u : DataW H} (h : keysOk l i d D) (he : i + 1 + d ≤ l.length) : keysOk l i (d + 1) (D.put (.string (sub l i (i + 1 + d))) u) := by
  obtain ⟨a, b, c⟩ := h
  refine ⟨a.put (key_lit _) u, ?_, fun t => ?_⟩
  · rw [Maps.size_put a u, b]
    have hn := seen_new (l := l) he
    show _ = cOut l i + (cIn l i d + (if newB l i (i + 1 + d) = true then 1 else 0))
    by_cases hh : Maps.has D (.string (sub l i (i + 1 + d))) = true
    · rw [if_pos hh, if_neg (fun x => (hn.1 x) ((c _).1 hh))]
      omega
    · rw [if_neg hh, if_pos (hn.2 (fun x => hh ((c _).2 x)))]
      omega
  · rw [seen_step he]
    by_cases e : t = sub l i (i + 1 + d)
    · rw [e, Maps.has_put_same a.isMap (key_lit _)]
      simp
    · rw [Maps.has_put_other (by intro h; exact e (by injection h)), c t]
      simp [e]
theorem keysOk_next {l : List UInt8} {i : Nat} {D : DataW H} (hi : i < l.length) (h : keysOk l i (l.length - i) D) : keysOk l (i + 1) 0 D := by
  obtain ⟨a, b, c⟩ := h
  refine ⟨a, by rw [b]; rfl, fun t => ?_⟩
  rw [c t]
  constructor
  · rintro (h | ⟨i', e', p, q, r, h⟩)
    · exact .inl h
    · exact .inr ⟨i', e', p, q, by omega, h⟩
  · rintro (h | ⟨i', e', p, q, r, h⟩)
    · exact .inl h
    · exact .inr ⟨i', e', p, q, by omega, h⟩
theorem keysOk_start (l : List UInt8) (u : DataW H) : keysOk l 0 0 ((DataW.map [] : DataW H).put (.string []) u) := by
  refine ⟨Maps.tidy_empty.put (key_lit _) u, ?_, fun t => ?_⟩
  · rw [Maps.size_put Maps.tidy_empty u]; rfl
  · by_cases e : t = []
    · rw [e, Maps.has_put_same Maps.isMap_empty (key_lit _)]
      exact ⟨fun _ => .inl rfl, fun _ => rfl⟩
    · rw [Maps.has_put_other (by intro h; exact e (by injection h))]
      constructor
      · intro h; cases h
      · rintro (h | ⟨i', e', p, q, r, h⟩)
        · exact absurd h e
        · omega
end
end Go.Proofs.YtldkghfnlkbmpaaDoor
