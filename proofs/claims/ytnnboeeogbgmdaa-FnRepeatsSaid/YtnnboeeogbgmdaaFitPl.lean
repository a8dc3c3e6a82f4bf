/-
  What the program's search for fits needs: plain data, and the state that it keeps.
-/
import Derived.Test.YtnnboeeogbgmdaaFitS
namespace Go.Proofs.Ytnnboeeogbgmdaa
open Go.RowKit
set_option linter.unusedVariables false
theorem idx_cons (b c : UInt8) (l : List UInt8) : Lib.indexByte (b :: l) c = if b == c then 0 else if Lib.indexByte l c == -1 then -1 else Lib.indexByte l c + 1 := rfl
theorem idx_pre (c : UInt8) (t : List UInt8) : ∀ l : List UInt8, 0 ≤ Lib.indexByte l c → Lib.indexByte (l ++ t) c = Lib.indexByte l c ∧ Lib.indexByte l c < l.length
  | [], h => by simp [Lib.indexByte] at h
  | b :: l, h => by
    rw [List.cons_append, idx_cons, idx_cons] at *
    by_cases hb : b = c
    · subst hb; simp
    · have hb' : (b == c) = false := by simpa using hb
      rw [hb'] at h ⊢
      simp only [if_false, Bool.false_eq_true] at h ⊢
      have hg := Lib.indexByte_ge l c
      by_cases h1 : Lib.indexByte l c = -1
      · rw [h1] at h; simp at h
      · obtain ⟨e1, e2⟩ := idx_pre c t l (by omega)
        rw [e1, if_neg (by simpa using h1)]
        exact ⟨rfl, by simp; omega⟩
theorem idx_new (c : UInt8) (t : List UInt8) : ∀ l : List UInt8, Lib.indexByte l c < 0 → Lib.indexByte (l ++ c :: t) c = l.length
  | [], h => by rw [List.nil_append, idx_cons]; simp
  | b :: l, h => by
    rw [List.cons_append, idx_cons]
    rw [idx_cons] at h
    by_cases hb : b = c
    · subst hb; simp at h
    · have hb' : (b == c) = false := by simpa using hb
      rw [hb'] at h ⊢
      simp only [if_false, Bool.false_eq_true] at h ⊢
      have hg := Lib.indexByte_ge l c
      have h1 : Lib.indexByte l c < 0 := by
        by_cases h1 : Lib.indexByte l c = -1
        · omega
        · rw [if_neg (by simpa using h1)] at h; omega
      rw [idx_new c t l h1, if_neg (by simp)]
      simp
theorem vars_pre (s : ByteArray) {i j : Nat} (h : i ≤ j) : ∃ t, (varsTo s j).data.toList = (varsTo s i).data.toList ++ t := by
  induction j with
  | zero => exact ⟨[], by rw [Nat.le_zero.1 h]; simp⟩
  | succ j ih =>
    rcases Nat.lt_or_ge i (j + 1) with hlt | hge
    · obtain ⟨t, ht⟩ := ih (by omega)
      simp only [varsTo, addVar]
      split
      · exact ⟨t ++ [s.data.toList.getD j 0], by simp [ht]⟩
      · exact ⟨t, ht⟩
    · obtain rfl : i = j + 1 := by omega
      exact ⟨[], by simp⟩
theorem bl_size (s : ByteArray) : s.data.toList.length = s.size := by simp
/-- a variable: an old one, or the next new one -/
theorem var_cases {p : ByteArray} {i : Nat} (hi : i < p.size) (hv : isVarB p[i] = true) :
    (0 ≤ Lib.indexByte (bl (varsOf p)) p[i] ∧ Lib.indexByte (bl (varsOf p)) p[i] < ((varsTo p i).size : Int) ∧ (varsTo p (i + 1)).size = (varsTo p i).size) ∨
    (Lib.indexByte (bl (varsOf p)) p[i] = ((varsTo p i).size : Int) ∧ (varsTo p (i + 1)).size = (varsTo p i).size + 1) := by
  cases h : decide (0 ≤ Lib.indexByte (varsTo p i).data.toList p[i])
  · right
    have e := varsTo_yes hi hv h
    obtain ⟨t, ht⟩ := vars_pre p (show i + 1 ≤ p.size from hi)
    have h0 : Lib.indexByte (varsTo p i).data.toList p[i] < 0 := by simpa using h
    refine ⟨?_, by rw [e, ByteArray.size_append]; rfl⟩
    unfold bl varsOf
    rw [ht, e]
    have := idx_new p[i] t _ h0
    rw [bl_size] at this
    rw [← this]
    congr 1
    simp
  · left
    have e := varsTo_no2 hi h
    obtain ⟨t, ht⟩ := vars_pre p (show i ≤ p.size by omega)
    have h0 : 0 ≤ Lib.indexByte (varsTo p i).data.toList p[i] := by simpa using h
    obtain ⟨e1, e2⟩ := idx_pre p[i] t _ h0
    rw [bl_size] at e2
    unfold bl varsOf
    rw [ht, e1, e]
    exact ⟨h0, e2, rfl⟩
theorem let_case {p : ByteArray} {i : Nat} (hi : i < p.size) (hv : isVarB p[i] = false) : Lib.indexByte (bl (varsOf p)) p[i] = -1 ∧ (varsTo p (i + 1)).size = (varsTo p i).size := by
  refine ⟨?_, by rw [varsTo_no1 hi hv]⟩
  have h1 := indexByte_mem (bl (varsOf p)) p[i]
  have h2 : (bl (varsOf p)).contains p[i] = false := by
    cases hc : (bl (varsOf p)).contains p[i]
    · rfl
    · rw [List.contains_iff_mem] at hc
      have := varsTo_var p p.size _ hc
      rw [hv] at this; cases this
  rw [h2] at h1
  have h3 := Lib.indexByte_ge (bl (varsOf p)) p[i]
  have : ¬ 0 ≤ Lib.indexByte (bl (varsOf p)) p[i] := by simpa using h1
  omega
theorem allIn_vars (p : ByteArray) : AllIn (bl (varsOf p)) (bl p) := fun c hc hv => by
  obtain ⟨i, hi, rfl⟩ := List.getElem_of_mem hc
  have hi' : i < p.size := by rw [← bl_len]; exact hi
  exact varsTo_has hi' hv p.size hi'
theorem drop_at {p : ByteArray} {i : Nat} (hi : i < p.size) : (bl p).drop i = p[i] :: (bl p).drop (i + 1) := by
  rw [List.drop_eq_getElem_cons (by rw [bl_len]; exact hi)]; rfl
/-- copies of a slice of strings -/
theorem cloneS_any (l : List ByteArray) (a : Option Addr) (cap : Nat) (w : World) (hl : StrsIn w a l) (hlen : l.length ≤ 1000000) :
    Calls Try.prog 69 #[.slice a l.length cap] w fun e w' => ∃ v', e = .returned v' ∧ Bld 9 1 w w' v' l.length (strVals l) := by
  cases a with
  | none =>
    have hn : l = [] := by
      rcases hl with h | ⟨b, off, ha, _⟩
      · simpa using h
      · cases ha
    subst hn
    refine (Try.slices_Clone_string_nil _ _ w).mono ?_
    rintro e w' ⟨rfl, rfl⟩
    exact ⟨_, rfl, Bld.nil _ _ (Below.refl _ _)⟩
  | some ad =>
    by_cases h0 : l = []
    · subst h0
      refine (Try.slices_Clone_string_zero ad cap w).mono ?_
      rintro e w' ⟨v', rfl, ho, _, hb⟩
      exact ⟨_, rfl, ho, hb⟩
    · rcases hl with h | ⟨b, off, ha, hc⟩
      · exact absurd (by simpa using h) h0
      · obtain rfl := Option.some.inj ha
        have := Try.slices_Clone_string b off l.length cap l w (Nat.le_refl _) (by omega) (fun j hj => by
          rw [hc j (by simpa using hj)]
          simp [List.getD_eq_getElem?_getD, hj])
        rw [List.take_length] at this
        refine this.mono ?_
        rintro e w' ⟨v', rfl, ho, _, hb⟩
        exact ⟨_, rfl, ho, hb⟩
/-- nothing turns but the box bo, the row that o holds, and new blocks -/
structure FitRel (bo : Nat) (W W' : World) (o o' : Value) : Prop where
  os : W'.os = W.os
  tape : W'.tape = W.tape
  output : W'.output = W.output
  size : W.heap.size ≤ W'.heap.size
  block : ∀ k, k < W.heap.size → k ≠ bo → o.ownBlock ≠ some k → W'.heap[k]? = W.heap[k]?
  own : o'.ownBlock = o.ownBlock ∨ ∃ k, W.heap.size ≤ k ∧ o'.ownBlock = some k
theorem FitRel.refl (bo : Nat) (W : World) (o : Value) : FitRel bo W W o o := ⟨rfl, rfl, rfl, Nat.le_refl _, fun _ _ _ _ => rfl, .inl rfl⟩
theorem FitRel.of_below {bo : Nat} {W W' : World} {o : Value} (h : Below W.heap.size W W') : FitRel bo W W' o o := ⟨h.os, h.tape, h.output, h.size, fun k hk _ _ => h.block k hk, .inl rfl⟩
theorem FitRel.trans {bo : Nat} {W W1 W2 : World} {o o1 o2 : Value} (h : FitRel bo W W1 o o1) (h2 : FitRel bo W1 W2 o1 o2) : FitRel bo W W2 o o2 := by
  refine ⟨h2.os.trans h.os, h2.tape.trans h.tape, h2.output.trans h.output, Nat.le_trans h.size h2.size, fun k hk hb ho => ?_, ?_⟩
  · have h1 : o1.ownBlock ≠ some k := fun e => by
      rcases h.own with e1 | ⟨k1, hk1, e1⟩
      · exact ho (e1 ▸ e)
      · rw [e1] at e; have := Option.some.inj e; omega
    rw [h2.block k (Nat.lt_of_lt_of_le hk h.size) hb h1, h.block k hk hb ho]
  · rcases h2.own with e | ⟨k, hk, e⟩
    · rcases h.own with e1 | ⟨k1, hk1, e1⟩
      · exact .inl (e.trans e1)
      · exact .inr ⟨k1, hk1, e.trans e1⟩
    · exact .inr ⟨k, Nat.le_trans h.size hk, e⟩
theorem FitRel.cell {bo : Nat} {W W' : World} {o o' : Value} (h : FitRel bo W W' o o') {a : Addr} {v : Value} (hc : W.cell? a = some v) (hb : a.block ≠ bo) (ho : o.ownBlock ≠ some a.block) : W'.cell? a = some v := by
  have hlt := World.block_lt_of_cell? W _ hc
  rw [World.cell?_of_block (w := W) (h.block _ hlt hb ho)]; exact hc
theorem FitRel.strs {bo : Nat} {W W' : World} {o o' : Value} (h : FitRel bo W W' o o') {a : Option Addr} {l : List ByteArray} (hl : StrsIn W a l) (hb : ∀ x, a = some x → x.block ≠ bo ∧ o.ownBlock ≠ some x.block) : StrsIn W' a l := by
  rcases hl with hl | ⟨b, off, ha, hc⟩
  · exact .inl hl
  · obtain ⟨h1, h2⟩ := hb _ ha
    exact .inr ⟨b, off, ha, fun i hi => h.cell (hc i hi) h1 h2⟩
theorem FitRel.far {bo : Nat} {W W' : World} {o o' : Value} (h : FitRel bo W W' o o') {k : Nat} (hk : k < W.heap.size) (ho : o.ownBlock ≠ some k) : o'.ownBlock ≠ some k := fun e => by
  rcases h.own with e1 | ⟨k1, hk1, e1⟩
  · exact ho (e1 ▸ e)
  · rw [e1] at e; have := Option.some.inj e; omega
theorem owns_kept {w w' : World} {base : Nat} {T : TypeId} {size : Nat} {v : Value} {n : Nat} {xs : List Value} {row : Option Nat} (h : w.ownsRow base T size v n xs) (hg : w.grownBy w' row) (hne : ∀ k, v.ownBlock = some k → row ≠ some k) : w'.ownsRow base T size v n xs :=
  h.kept hg (by
    cases hq : v.ownBlock with
    | none => exact .inl rfl
    | some q => exact .inr fun e => hne q hq e.symm)
/-- the slices of a row hold lists of values, in memory from H on, apart from the row that o holds -/
structure FAt (H : Nat) (W : World) (o : Value) (xs : List Value) (F : List (List ByteArray)) : Prop where
  len : xs.length = F.length
  at_ : ∀ i, i < F.length → ∃ a c, xs[i]? = some (.slice a (nthF F i).length c) ∧ W.ownsRow H 9 1 (.slice a (nthF F i).length c) (nthF F i).length (strVals (nthF F i)) ∧ ∀ k, (Value.slice a (nthF F i).length c).ownBlock = some k → o.ownBlock ≠ some k
theorem FAt.nil (H : Nat) (W : World) (o : Value) : FAt H W o [] [] := ⟨rfl, fun i hi => absurd hi (Nat.not_lt_zero _)⟩
theorem FAt.later {H : Nat} {W W' : World} {o : Value} {xs : List Value} {F : List (List ByteArray)} (h : FAt H W o xs F) (hb : Below W.heap.size W W') : FAt H W' o xs F :=
  ⟨h.len, fun i hi => by
    obtain ⟨a, c, h1, h2, h3⟩ := h.at_ i hi
    exact ⟨a, c, h1, owns_later h2 hb, h3⟩⟩
theorem FAt.mono {H H' : Nat} {W : World} {o : Value} {xs : List Value} {F : List (List ByteArray)} (h : FAt H W o xs F) (hh : H' ≤ H) : FAt H' W o xs F :=
  ⟨h.len, fun i hi => by
    obtain ⟨a, c, h1, h2, h3⟩ := h.at_ i hi
    exact ⟨a, c, h1, owns_mono h2 hh, h3⟩⟩
/-- the list of fits that is being filled, in the box bo; what it is made of lies from H on -/
structure OutK (H bo : Nat) (W : World) (o : Value) (F : List (List ByteArray)) : Prop where
  box : W.heap[bo]? = some (.cells #[o] 67 (0, 0))
  lt : bo < H
  le : H ≤ W.heap.size
  row : ∃ xs, W.ownsRow H 33 1 o F.length xs ∧ FAt H W o xs F
theorem OutK.later {H bo : Nat} {W W' : World} {o : Value} {F : List (List ByteArray)} (h : OutK H bo W o F) (hb : Below W.heap.size W W') : OutK H bo W' o F := by
  obtain ⟨xs, hx, hf⟩ := h.row
  exact ⟨by rw [hb.block _ (Nat.lt_of_lt_of_le h.lt h.le)]; exact h.box, h.lt, Nat.le_trans h.le hb.size, xs, owns_later hx hb, hf.later hb⟩
theorem OutK.far {H bo : Nat} {W : World} {o : Value} {F : List (List ByteArray)} (h : OutK H bo W o F) {k : Nat} (hk : k < H) : o.ownBlock ≠ some k := fun e => by
  obtain ⟨xs, hx, _⟩ := h.row
  have := (hx.lt k e).1; omega
theorem OutK.cell {H bo : Nat} {W : World} {o : Value} {F : List (List ByteArray)} (h : OutK H bo W o F) : W.cell? ⟨bo, 0, none⟩ = some o ∧ W.frozen? ⟨bo, 0, none⟩ = false := by
  constructor
  · simp [World.cell?, h.box]
  · simp [World.frozen?, h.box]
/-- what a call of the search leaves -/
def FitPost (H bo : Nat) (o : Value) (F G : List (List ByteArray)) (W : World) (e : Ending) (W' : World) : Prop :=
  e = .returned (.tuple #[]) ∧ ∃ o', FitRel bo W W' o o' ∧ OutK H bo W' o' (F ++ G)
theorem FitPost.none {H bo : Nat} {o : Value} {F : List (List ByteArray)} {W W' : World} (h : OutK H bo W o F) (hb : Below W.heap.size W W') : FitPost H bo o F [] W (.returned (.tuple #[])) W' := ⟨rfl, o, FitRel.of_below hb, by rw [List.append_nil]; exact h.later hb⟩
/-- behind an append and the store -/
theorem OutK.put {H bo g cap : Nat} {W w0 w1 w2 : World} {o : Value} {F : List (List ByteArray)} {xs : List Value} {vs : List ByteArray} {va : Option Addr} {vc : Nat} (h : OutK H bo W o F) (hx : W.ownsRow H 33 1 o F.length xs ∧ FAt H W o xs F)
    (hv : w0.ownsRow W.heap.size 9 1 (.slice va vs.length vc) vs.length (strVals vs)) (h01 : Below w0.heap.size w0 w1) (hb : Below W.heap.size W w1) (hg : w1.grownBy w2 o.ownBlock) (hn : w2.ownsRow H 33 1 (.slice (some ⟨g, 0, none⟩) (F.length + 1) cap) (F.length + 1) (xs ++ [.slice va vs.length vc]))
    (ho : o.ownBlock = some g ∨ g = w1.heap.size) : FitRel bo W (w2.setCell ⟨bo, 0, none⟩ (.slice (some ⟨g, 0, none⟩) (F.length + 1) cap)) o (.slice (some ⟨g, 0, none⟩) (F.length + 1) cap) ∧ OutK H bo (w2.setCell ⟨bo, 0, none⟩ (.slice (some ⟨g, 0, none⟩) (F.length + 1) cap)) (.slice (some ⟨g, 0, none⟩) (F.length + 1) cap) (F ++ [vs]) := by
  have h1 := h.later hb
  have hbo := Nat.lt_of_lt_of_le h1.lt h1.le
  have hbox : w2.heap[bo]? = some (.cells #[o] 67 (0, 0)) := by
    rw [hg.block bo hbo (fun e => h1.far h.lt e.symm)]; exact h1.box
  have hlt := (hn.lt g rfl)
  have hsz : (w2.setCell ⟨bo, 0, none⟩ (.slice (some ⟨g, 0, none⟩) (F.length + 1) cap)).heap.size = w2.heap.size := by simp
  have hne : bo ≠ g := by have := h.lt; omega
  have hoth : ∀ k, k ≠ bo → (w2.setCell ⟨bo, 0, none⟩ (.slice (some ⟨g, 0, none⟩) (F.length + 1) cap)).heap[k]? = w2.heap[k]? := fun k hk => by
    unfold World.setCell
    rw [Array.getElem?_modify, if_neg (fun e => hk e.symm)]
  have hgb : w2.grownBy (w2.setCell ⟨bo, 0, none⟩ (.slice (some ⟨g, 0, none⟩) (F.length + 1) cap)) (some bo) := ⟨rfl, rfl, rfl, by rw [hsz]; exact Nat.le_refl _, fun k hk hne => hoth k (fun e => hne (by rw [e]))⟩
  have hrow : (w2.setCell ⟨bo, 0, none⟩ (.slice (some ⟨g, 0, none⟩) (F.length + 1) cap)).ownsRow H 33 1 (.slice (some ⟨g, 0, none⟩) (F.length + 1) cap) (F.length + 1) (xs ++ [.slice va vs.length vc]) := hn.kept hgb (.inr (by simp [Value.ownBlock]; exact fun e => hne e.symm))
  have hle := h.le
  have hltb := h.lt
  have hFA : FAt H (w2.setCell ⟨bo, 0, none⟩ (.slice (some ⟨g, 0, none⟩) (F.length + 1) cap)) (.slice (some ⟨g, 0, none⟩) (F.length + 1) cap) (xs ++ [.slice va vs.length vc]) (F ++ [vs]) := by
    refine ⟨by simp [hx.2.len], fun i hi => ?_⟩
    rw [List.length_append, List.length_singleton] at hi
    unfold nthF
    rw [List.getD_eq_getElem?_getD]
    by_cases hl : i < F.length
    · rw [List.getElem?_append_left (by rw [hx.2.len]; exact hl), List.getElem?_append_left hl, ← List.getD_eq_getElem?_getD]
      obtain ⟨a, c, e1, e2, e3⟩ := hx.2.at_ i hl
      refine ⟨a, c, e1, owns_kept (owns_kept (owns_later e2 hb) hg (fun k hk => e3 k hk)) hgb (fun k hk e => ?_), fun k hk e => ?_⟩
      · have := (e2.lt k hk).1
        have e4 := Option.some.inj e
        omega
      · have eg : g = k := by simpa [Value.ownBlock] using e
        rcases ho with e9 | e9
        · exact e3 k hk (by rw [e9, eg])
        · have := (e2.lt k hk).2
          have := hb.size; omega
    · have hi2 : i = F.length := by omega
      subst hi2
      rw [List.getElem?_append_right (by rw [hx.2.len]; exact Nat.le_refl _), List.getElem?_append_right (Nat.le_refl _), hx.2.len]
      simp only [Nat.sub_self, List.getElem?_cons_zero, Option.getD_some]
      refine ⟨va, vc, rfl, owns_mono (owns_kept (owns_kept (owns_later hv h01) hg (fun k hk e => ?_)) hgb (fun k hk e => ?_)) hle, fun k hk e => ?_⟩
      · have := (hx.1.lt _ e).2
        have := (hv.lt k hk).1; omega
      · have := (hv.lt k hk).1
        have e4 := Option.some.inj e
        omega
      · have eg : g = k := by simpa [Value.ownBlock] using e
        rcases ho with e9 | e9
        · have := (hx.1.lt _ e9).2
          have := (hv.lt k hk).1; omega
        · have := (hv.lt k hk).2
          have := h01.size; omega
  refine ⟨⟨hg.os.trans hb.os, hg.tape.trans hb.tape, hg.output.trans hb.output, by rw [hsz]; exact Nat.le_trans hb.size hg.size, fun k hk hkb hko => ?_, ?_⟩, ⟨?_, h.lt, by rw [hsz]; exact Nat.le_trans h1.le hg.size, _, by rw [List.length_append, List.length_singleton]; exact hrow, hFA⟩⟩
  · rw [hoth k hkb, hg.block k (Nat.lt_of_lt_of_le hk hb.size) (fun e => hko e.symm), hb.block k hk]
  · rcases ho with e | e
    · exact .inl (by rw [e]; rfl)
    · exact .inr ⟨g, by have := hb.size; omega, rfl⟩
  · unfold World.setCell
    rw [Array.getElem?_modify, if_pos rfl, hbox]
    simp
end Go.Proofs.Ytnnboeeogbgmdaa
