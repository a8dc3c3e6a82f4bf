/-
  Memory: how slices read, worlds that have grown, regions whose callees make memory.
-/
import Derived.Test.YtklbehapbchnaaaDoorRows
import Derived.WalkKit
import Derived.WalkSpells
import Derived.WalkLawsBesides
import Derived.BigQuiet
import Derived.Lib.Hide
import Derived.Deep.QuietTactic
namespace Go.Proofs.YtklbehapbchnaaaDoor
open Go.RowKit
set_option linter.unusedVariables false
/-- the number a lies in the range from b to c -/
def inB (a b c : Int) : Bool := decide (b ≤ a) && decide (a ≤ c)
theorem inB_bounds {a b c : Int} (h : inB a b c = true) : b ≤ a ∧ a ≤ c := by simpa [inB] using h
set_option maxHeartbeats 400000 in
theorem within_any (a b c : Int) (w : World) :
    Calls Tryd.prog 46 #[.int .i64 a, .int .i64 b, .int .i64 c] w fun e w' => e = .returned (.bool (inB a b c)) ∧ w = w' := by
  by_cases h : b ≤ a
  · go_enter Tryd.func46, Tryd.ntmps46
    go_wp2
    go_ret
    exact ⟨by simp [inB, h], rfl⟩
  · go_enter Tryd.func46, Tryd.ntmps46
    go_wp2
    go_ret
    exact ⟨by simp [inB]; omega, rfl⟩
set_option maxHeartbeats 400000 in
theorem l01In_any (a b c : Int) (w : World) :
    Calls Tryd.prog 37 #[.int .i64 a, .int .i64 b, .int .i64 c] w fun e w' => e = .returned (.bool (inB a b c)) ∧ w = w' := by
  by_cases h : b ≤ a
  · go_enter Tryd.func37, Tryd.ntmps37
    go_wp2
    go_ret
    exact ⟨by simp [inB, h], rfl⟩
  · go_enter Tryd.func37, Tryd.ntmps37
    go_wp2
    go_ret
    exact ⟨by simp [inB]; omega, rfl⟩
/-- the byte is among the first k small letters -/
def letB (k : Int) (c : UInt8) : Bool := inB (c.toNat : Int) 97 (97 + k - 1)
/-- all bytes of a text have a property -/
def allB (p : UInt8 → Bool) (s : ByteArray) : Bool := s.data.toList.all p
/-- the first j bytes have it -/
def allTo (p : UInt8 → Bool) (s : ByteArray) (j : Nat) : Bool := (s.data.toList.take j).all p
theorem allTo_zero (p : UInt8 → Bool) (s : ByteArray) : allTo p s 0 = true := by simp [allTo]
theorem allTo_succ (s : ByteArray) (p : UInt8 → Bool) (j : Nat) (h : j < s.size) (ha : allTo p s j = true) (hp : p s[j] = true) : allTo p s (j + 1) = true := by
  unfold allTo at *
  rw [List.take_succ_eq_append_getElem (by simpa using h), List.all_append, ha]
  simpa [ByteArray.getElem_eq_getElem_data] using hp
theorem allTo_full (s : ByteArray) (p : UInt8 → Bool) (j : Nat) (h : ¬ j < s.size) (ha : allTo p s j = true) : allB p s = true := by
  unfold allTo at ha
  rwa [List.take_of_length_le (by simp; omega)] at ha
theorem allB_at (s : ByteArray) (p : UInt8 → Bool) (j : Nat) (h : j < s.size) (hp : p s[j] = false) : allB p s = false := by
  unfold allB
  rw [List.all_eq_false]
  exact ⟨s[j], by have := List.getElem_mem (l := s.data.toList) (n := j) (by simpa using h); rwa [Array.getElem_toList] at this, by simp [hp]⟩
theorem byte_lt (c : UInt8) : (c.toNat : Int) < 256 := by have := c.toNat_lt; omega
theorem ret_bool {a b : Bool} (h : a = b) : Ending.returned (.bool a) = .returned (.bool b) := by rw [h]
theorem ret_int {k : IntKind} {a b : Int} (h : a = b) : Ending.returned (.int k a) = .returned (.int k b) := by rw [h]
set_option maxHeartbeats 400000 in
theorem hasLetters_any (k : Int) (s : ByteArray) (w : World) (hs : s.size ≤ maxLen) (hk0 : 0 ≤ k) (hk1 : k ≤ 1000) :
    Calls Tryd.prog 111 #[.int .i64 k, .string s] w fun e w' => e = .returned (.bool (allB (letB k) s)) ∧ w = w' := by
  unfold maxLen at hs
  go_enter Tryd.func111, Tryd.ntmps111
  go_wp2
  go_loop [8] (fun i => ∃ j : Nat, j ≤ s.size ∧ i = .int .i64 j ∧ allTo (letB k) s j = true) (fun i => s.size - (intOf i).toNat)
  case atStart => exact ⟨0, Nat.zero_le _, rfl, allTo_zero _ _⟩
  case round =>
    obtain ⟨j, hj, rfl, hall⟩ := hrel
    have H := Lib.hid hall
    clear hall
    by_cases hlt : j < s.size
    · have hb := byte_lt s[j]
      cases hp : letB k s[j]
      · have F := Lib.hid (allB_at s (letB k) j hlt hp)
        unfold letB at hp
        go_wp2_with (go_at_call 46; refine (within_any _ _ _ _).mono ?_; rintro e w' ⟨rfl, rfl⟩)
        go_ret
        exact ⟨ret_bool F.out.symm, rfl⟩
      · have F := Lib.hid (allTo_succ s (letB k) j hlt H.out hp)
        unfold letB at hp
        go_wp2_with (go_at_call 46; refine (within_any _ _ _ _).mono ?_; rintro e w' ⟨rfl, rfl⟩)
        go_round
        case rel => exact ⟨j + 1, by omega, by go_num, F.out⟩
        case measure => simp [intOf]; omega
    · have F := Lib.hid (allTo_full s (letB k) j hlt H.out)
      go_wp2
      go_ret
      exact ⟨ret_bool F.out.symm, rfl⟩
end Go.Proofs.YtklbehapbchnaaaDoor
namespace Go.Proofs.YtklbehapbchnaaaDoor
set_option linter.unusedVariables false
/-- an arc: from, to, letter -/
abbrev Arc3 := Nat × Nat × Nat
inductive FoldC (F : List Arc3) : Nat → Nat → Prop
  | refl (v : Nat) : FoldC F v v
  | symm {u v : Nat} : FoldC F u v → FoldC F v u
  | trans {u v w : Nat} : FoldC F u v → FoldC F v w → FoldC F u w
  | fwd {a b : Arc3} : a ∈ F → b ∈ F → a.2.2 = b.2.2 → FoldC F a.1 b.1 → FoldC F a.2.1 b.2.1
  | bwd {a b : Arc3} : a ∈ F → b ∈ F → a.2.2 = b.2.2 → FoldC F a.2.1 b.2.1 → FoldC F a.1 b.1
/-- what a representative is while arcs are folded -/
structure FoldS (F : List Arc3) (r : Nat → Nat) : Prop where
  le : ∀ x, r x ≤ x
  con : ∀ x, FoldC F x (r x)
/-- nothing is left to fold -/
def Shut (F : List Arc3) (r : Nat → Nat) : Prop := ∀ a ∈ F, ∀ b ∈ F, a.2.2 = b.2.2 → (r a.1 = r b.1 → r a.2.1 = r b.2.1) ∧ (r a.2.1 = r b.2.1 → r a.1 = r b.1)
theorem FoldS.start (F : List Arc3) : FoldS F id := ⟨fun _ => Nat.le_refl _, fun x => .refl x⟩
theorem Shut.con {F : List Arc3} {r : Nat → Nat} (h : Shut F r) {u v : Nat} (hc : FoldC F u v) : r u = r v := by
  induction hc with
  | refl v => rfl
  | symm _ ih => exact ih.symm
  | trans _ _ ih1 ih2 => exact ih1.trans ih2
  | fwd ha hb hl _ ih => exact (h _ ha _ hb hl).1 ih
  | bwd ha hb hl _ ih => exact (h _ ha _ hb hl).2 ih
/-- the least representatives are told by the arcs alone -/
theorem fold_uniq {F : List Arc3} {r s : Nat → Nat} (h : FoldS F r) (h' : FoldS F s) (hs : Shut F r) (hs' : Shut F s) : r = s := by
  funext x
  have h1 : r (s x) = r x := (hs.con (h'.con x)).symm
  have h2 : s (r x) = s x := (hs'.con (h.con x)).symm
  have h3 := h.le (s x)
  have h4 := h'.le (r x)
  omega
/-- two vertices are made one -/
def mgV (v w x : Nat) : Nat := if x = max v w then min v w else x
theorem mgV_le (v w x : Nat) : mgV v w x ≤ x := by unfold mgV; split <;> omega
theorem FoldS.merge {F : List Arc3} {r : Nat → Nat} (h : FoldS F r) {v w : Nat} (hc : FoldC F v w) : FoldS F (fun x => mgV v w (r x)) := by
  refine ⟨fun x => Nat.le_trans (mgV_le _ _ _) (h.le x), fun x => (h.con x).trans ?_⟩
  unfold mgV
  split
  · rename_i e
    rw [e]
    rcases Nat.le_total v w with h1 | h1
    · rw [Nat.max_eq_right h1, Nat.min_eq_left h1]; exact hc.symm
    · rw [Nat.max_eq_left h1, Nat.min_eq_right h1]; exact hc
  · exact .refl _
def renA (r : Nat → Nat) (a : Arc3) : Arc3 := (r a.1, r a.2.1, a.2.2)
theorem FoldS.fwd {F : List Arc3} {r : Nat → Nat} (h : FoldS F r) {a b : Arc3} (ha : a ∈ F) (hb : b ∈ F) (hl : a.2.2 = b.2.2) (e : r a.1 = r b.1) : FoldC F (r a.2.1) (r b.2.1) :=
  ((h.con _).symm.trans (.fwd ha hb hl ((h.con _).trans (e ▸ (h.con b.1).symm)))).trans (h.con _)
theorem FoldS.bwd {F : List Arc3} {r : Nat → Nat} (h : FoldS F r) {a b : Arc3} (ha : a ∈ F) (hb : b ∈ F) (hl : a.2.2 = b.2.2) (e : r a.2.1 = r b.2.1) : FoldC F (r a.1) (r b.1) :=
  ((h.con _).symm.trans (.bwd ha hb hl ((h.con _).trans (e ▸ (h.con b.2.1).symm)))).trans (h.con _)
theorem ren_ren (r s : Nat → Nat) (F : List Arc3) : (F.map (renA r)).map (renA s) = F.map (renA fun x => s (r x)) := by
  rw [List.map_map]; rfl
/-- the sum of the ends of arcs: what gets less -/
def endS (F : List Arc3) : Nat := (F.map fun a => a.1 + a.2.1).sum
theorem endS_le {r : Nat → Nat} (h : ∀ x, r x ≤ x) : ∀ F : List Arc3, endS (F.map (renA r)) ≤ endS F
  | [] => Nat.le_refl _
  | a :: F => by
    have := endS_le h F
    have h1 := h a.1
    have h2 := h a.2.1
    simp only [endS, renA, List.map_cons, List.sum_cons] at this ⊢
    omega
theorem endS_lt {r : Nat → Nat} (h : ∀ x, r x ≤ x) : ∀ {F : List Arc3} {a : Arc3}, a ∈ F → (r a.1 < a.1 ∨ r a.2.1 < a.2.1) → endS (F.map (renA r)) < endS F
  | b :: F, a, ha, hlt => by
    have h1 := h b.1
    have h2 := h b.2.1
    rcases List.mem_cons.1 ha with rfl | ha
    · have := endS_le h F
      simp only [endS, renA, List.map_cons, List.sum_cons] at this ⊢
      rcases hlt with hlt | hlt <;> omega
    · have := endS_lt h ha hlt
      simp only [endS, renA, List.map_cons, List.sum_cons] at this ⊢
      omega
/-- the pairs of arcs that meet -/
def meetA (a b : Arc3) : Bool := a.2.2 == b.2.2 && ((a.1 == b.1 && a.2.1 != b.2.1) || (a.2.1 == b.2.1 && a.1 != b.1))
theorem meet_symm (a b : Arc3) : meetA a b = meetA b a := by
  unfold meetA
  rw [Bool.beq_comm (a := a.2.2), Bool.beq_comm (a := a.1), Bool.beq_comm (a := a.2.1)]
  simp only [bne, Bool.beq_comm (a := a.1), Bool.beq_comm (a := a.2.1)]
theorem shut_of {F : List Arc3} {r : Nat → Nat} (h : ∀ a ∈ F.map (renA r), ∀ b ∈ F.map (renA r), meetA a b = false) : Shut F r := by
  intro a ha b hb hl
  have := h _ (List.mem_map_of_mem ha) _ (List.mem_map_of_mem hb)
  unfold meetA renA at this
  simp only [hl, beq_self_eq_true, Bool.true_and, Bool.or_eq_false_iff, Bool.and_eq_false_iff, bne_eq_false_iff_eq, beq_eq_false_iff_ne] at this
  exact ⟨fun e => this.1.resolve_left (fun h => h e), fun e => this.2.resolve_left (fun h => h e)⟩
theorem shut_meet {F : List Arc3} {r : Nat → Nat} (h : Shut F r) : ∀ a ∈ F.map (renA r), ∀ b ∈ F.map (renA r), meetA a b = false := by
  intro a1 ha1 b1 hb1
  obtain ⟨a, ha, rfl⟩ := List.mem_map.1 ha1
  obtain ⟨b, hb, rfl⟩ := List.mem_map.1 hb1
  unfold meetA renA
  by_cases hl : a.2.2 = b.2.2
  · have := h a ha b hb hl
    simp only [hl, beq_self_eq_true, Bool.true_and, Bool.or_eq_false_iff, Bool.and_eq_false_iff, bne_eq_false_iff_eq, beq_eq_false_iff_ne]
    constructor
    · by_cases e : r a.1 = r b.1
      · exact .inr (this.1 e)
      · exact .inl e
    · by_cases e : r a.2.1 = r b.2.1
      · exact .inr (this.2 e)
      · exact .inl e
  · simp [hl]

/-! ## the orders of arcs -/
def ltA (a b : Arc3) : Bool := decide (a.1 < b.1) || (a.1 == b.1 && (decide (a.2.2 < b.2.2) || (a.2.2 == b.2.2 && decide (a.2.1 < b.2.1))))
theorem ltA_iff {a b : Arc3} : ltA a b = true ↔ a.1 < b.1 ∨ a.1 = b.1 ∧ (a.2.2 < b.2.2 ∨ a.2.2 = b.2.2 ∧ a.2.1 < b.2.1) := by
  unfold ltA; simp
theorem ltA_irr (a : Arc3) : ltA a a = false := by
  cases h : ltA a a
  · rfl
  · have := ltA_iff.1 h; omega
theorem ltA_trans {a b c : Arc3} (h : ltA a b = true) (h' : ltA b c = true) : ltA a c = true := by
  have h1 := ltA_iff.1 h
  have h2 := ltA_iff.1 h'
  refine ltA_iff.2 ?_
  omega
theorem ltA_tot {a b : Arc3} (h : ltA a b = false) (h' : ltA b a = false) : a = b := by
  have h1 : ¬ ltA a b = true := by rw [h]; exact Bool.false_ne_true
  have h2 : ¬ ltA b a = true := by rw [h']; exact Bool.false_ne_true
  rw [ltA_iff] at h1 h2
  refine Prod.ext (by omega) (Prod.ext (by omega) (by omega))
abbrev SortA (l : List Arc3) : Prop := l.Pairwise fun a b => ltA a b = true
/-- two ascending lists with the same members are one -/
theorem sort_uniq : ∀ {l l' : List Arc3}, SortA l → SortA l' → (∀ a, a ∈ l ↔ a ∈ l') → l = l'
  | [], [], _, _, _ => rfl
  | [], b :: l', _, _, h => absurd ((h b).2 (List.mem_cons_self ..)) (List.not_mem_nil)
  | a :: l, [], _, _, h => absurd ((h a).1 (List.mem_cons_self ..)) (List.not_mem_nil)
  | a :: l, b :: l', hs, hs', h => by
    have h1 := List.pairwise_cons.1 hs
    have h2 := List.pairwise_cons.1 hs'
    have e : a = b := by
      rcases List.mem_cons.1 ((h a).1 (List.mem_cons_self ..)) with e | ha
      · exact e
      rcases List.mem_cons.1 ((h b).2 (List.mem_cons_self ..)) with e | hb
      · exact e.symm
      have h3 := ltA_trans (h1.1 b hb) (h2.1 a ha)
      rw [ltA_irr] at h3; cases h3
    subst e
    have : l = l' := sort_uniq h1.2 h2.2 fun c => by
      constructor
      · intro hc
        rcases List.mem_cons.1 ((h c).1 (List.mem_cons_of_mem _ hc)) with e | h4
        · have h5 := h1.1 c hc; rw [e, ltA_irr] at h5; cases h5
        · exact h4
      · intro hc
        rcases List.mem_cons.1 ((h c).2 (List.mem_cons_of_mem _ hc)) with e | h4
        · have h5 := h2.1 c hc; rw [e, ltA_irr] at h5; cases h5
        · exact h4
    rw [this]
/-- an arc is put into an ascending list -/
def putA : List Arc3 → Arc3 → List Arc3
  | [], a => [a]
  | b :: l, a => if ltA b a then b :: putA l a else if b = a then b :: l else a :: b :: l
theorem putA_mem : ∀ {l : List Arc3} {a c : Arc3}, c ∈ putA l a ↔ c ∈ l ∨ c = a
  | [], a, c => by simp [putA]
  | b :: l, a, c => by
    unfold putA
    split
    · rw [List.mem_cons, putA_mem, List.mem_cons, or_assoc]
    · split
      · rename_i e; subst e
        exact ⟨.inl, fun h => h.elim id fun h => h ▸ List.mem_cons_self ..⟩
      · simp only [List.mem_cons]
        constructor
        · rintro (h | h | h)
          · exact .inr h
          · exact .inl (.inl h)
          · exact .inl (.inr h)
        · rintro ((h | h) | h)
          · exact .inr (.inl h)
          · exact .inr (.inr h)
          · exact .inl h
theorem putA_sort : ∀ {l : List Arc3} {a : Arc3}, SortA l → SortA (putA l a)
  | [], a, _ => List.pairwise_singleton _ _
  | b :: l, a, h => by
    have h1 := List.pairwise_cons.1 h
    unfold putA
    split
    · rename_i e
      refine List.pairwise_cons.2 ⟨fun c hc => ?_, putA_sort h1.2⟩
      rcases putA_mem.1 hc with hc | rfl
      · exact h1.1 c hc
      · exact e
    · rename_i e
      have e := Bool.eq_false_iff.2 e
      split
      · exact h
      · rename_i e2
        have e3 : ltA a b = true := by
          cases h3 : ltA a b
          · exact absurd (ltA_tot e h3) e2
          · rfl
        refine List.pairwise_cons.2 ⟨fun c hc => ?_, h⟩
        rcases List.mem_cons.1 hc with rfl | hc
        · exact e3
        · exact ltA_trans e3 (h1.1 c hc)

/-! ## the order in which vertices are reached -/
def nxP (g v x : Nat) (a : Arc3) : Bool := a.2.2 == x % g && (if x < g then a.1 == v else a.2.1 == v)
def nxE (g x : Nat) (a : Arc3) : Nat := if x < g then a.2.1 else a.1
/-- the vertex to which a letter leads, forth below g, back from g on -/
def nxA (g : Nat) (L : List Arc3) (v x : Nat) : Option Nat := (L.find? (nxP g v x)).map (nxE g x)
def pushO (ord : List Nat) : Option Nat → List Nat
  | none => ord
  | some w => if w ∈ ord then ord else ord ++ [w]
theorem pushO_none (ord : List Nat) : pushO ord none = ord := rfl
theorem pushO_some (ord : List Nat) (w : Nat) : pushO ord (some w) = if w ∈ ord then ord else ord ++ [w] := rfl
/-- no two arcs meet -/
def Det (L : List Arc3) : Prop := ∀ a ∈ L, ∀ b ∈ L, meetA a b = false
theorem Det.same {L : List Arc3} (h : Det L) {g v x : Nat} {a b : Arc3} (ha : a ∈ L) (hb : b ∈ L) (h1 : nxP g v x a = true) (h2 : nxP g v x b = true) : nxE g x a = nxE g x b := by
  have := h a ha b hb
  unfold meetA at this
  unfold nxP at h1 h2
  unfold nxE
  simp only [Bool.and_eq_true, beq_iff_eq] at h1 h2
  rw [h1.1, h2.1] at this
  simp only [beq_self_eq_true, Bool.true_and, Bool.or_eq_false_iff, Bool.and_eq_false_iff, bne_eq_false_iff_eq, beq_eq_false_iff_ne] at this
  by_cases hx : x < g
  · simp only [hx, if_true, beq_iff_eq] at h1 h2 ⊢
    exact this.1.resolve_left (fun h => h (h1.2.trans h2.2.symm))
  · simp only [hx, if_false, beq_iff_eq] at h1 h2 ⊢
    exact this.2.resolve_left (fun h => h (h1.2.trans h2.2.symm))
/-- one arc after the other -/
def stepN (g v x : Nat) (ord : List Nat) (a : Arc3) : List Nat := if nxP g v x a = true ∧ nxE g x a ∉ ord then ord ++ [nxE g x a] else ord
theorem mem_pushO {ord : List Nat} {o : Option Nat} {u : Nat} : u ∈ pushO ord o ↔ u ∈ ord ∨ o = some u := by
  cases o with
  | none => simp [pushO]
  | some w =>
    rw [pushO_some]
    split
    · rename_i h
      exact ⟨.inl, fun h2 => h2.elim id fun e => by rw [← Option.some.inj e]; exact h⟩
    · rw [List.mem_append, List.mem_singleton]
      exact ⟨fun h2 => h2.imp id fun e => by rw [e], fun h2 => h2.imp id fun e => (Option.some.inj e).symm⟩
theorem stepN_take {L : List Arc3} (h : Det L) {g v x : Nat} {ord : List Nat} {j : Nat} (hj : j < L.length) : pushO ord (nxA g (L.take (j + 1)) v x) = stepN g v x (pushO ord (nxA g (L.take j) v x)) L[j] := by
  rw [List.take_succ_eq_append_getElem hj]
  unfold nxA stepN
  rw [List.find?_append]
  cases hf : (L.take j).find? (nxP g v x) with
  | some a =>
    have ha := List.find?_some hf
    have hm := List.mem_of_find?_eq_some hf
    simp only [Option.some_or, Option.map_some]
    rw [if_neg]
    rintro ⟨h1, h2⟩
    refine h2 (mem_pushO.2 (.inr ?_))
    rw [h.same ((List.take_sublist _ _).subset hm) (List.getElem_mem hj) ha h1]
  | none =>
    simp only [Option.none_or, Option.map_none]
    show pushO ord _ = _
    by_cases hp : nxP g v x L[j] = true
    · simp only [List.find?_cons, hp, Option.map_some, true_and]
      rw [pushO_some, pushO_none]
      by_cases h2 : nxE g x L[j] ∈ ord
      · rw [if_pos h2, if_neg (fun h => h h2)]
      · rw [if_neg h2, if_pos h2]
    · have hp := Bool.eq_false_iff.2 hp
      simp [hp, pushO]
theorem nxA_nil (g v x : Nat) : nxA g [] v x = none := rfl
/-- one step of the search: the order, the place in it, the letter -/
def bst (g : Nat) (L : List Arc3) (s : List Nat × Nat × Nat) : List Nat × Nat × Nat :=
  if s.2.1 < s.1.length then (if s.2.2 < 2 * g then (pushO s.1 (nxA g L (s.1.getD s.2.1 0) s.2.2), s.2.1, s.2.2 + 1) else (s.1, s.2.1 + 1, 0)) else s
def bfsN (g : Nat) (L : List Arc3) : Nat → List Nat × Nat × Nat
  | 0 => ([0], 0, 0)
  | n + 1 => bst g L (bfsN g L n)
def Bfs (g : Nat) (L : List Arc3) (ord : List Nat) (k x : Nat) : Prop := ∃ n, bfsN g L n = (ord, k, x)
theorem Bfs.start (g : Nat) (L : List Arc3) : Bfs g L [0] 0 0 := ⟨0, rfl⟩
theorem Bfs.step {g : Nat} {L : List Arc3} {ord : List Nat} {k x : Nat} (h : Bfs g L ord k x) (hk : k < ord.length) (hx : x < 2 * g) : Bfs g L (pushO ord (nxA g L (ord.getD k 0) x)) k (x + 1) := by
  obtain ⟨n, e⟩ := h
  refine ⟨n + 1, ?_⟩
  show bst g L (bfsN g L n) = _
  rw [e]; unfold bst; rw [if_pos hk, if_pos hx]
theorem Bfs.row {g : Nat} {L : List Arc3} {ord : List Nat} {k x : Nat} (h : Bfs g L ord k x) (hk : k < ord.length) (hx : ¬ x < 2 * g) : Bfs g L ord (k + 1) 0 := by
  obtain ⟨n, e⟩ := h
  refine ⟨n + 1, ?_⟩
  show bst g L (bfsN g L n) = _
  rw [e]; unfold bst; rw [if_pos hk, if_neg hx]
theorem bfs_stay {g : Nat} {L : List Arc3} {ord : List Nat} {k x n : Nat} (e : bfsN g L n = (ord, k, x)) (hk : ¬ k < ord.length) : ∀ d, bfsN g L (n + d) = (ord, k, x)
  | 0 => e
  | d + 1 => by
    show bst g L (bfsN g L (n + d)) = _
    rw [bfs_stay e hk d]; unfold bst; rw [if_neg hk]
theorem Bfs.uniq {g : Nat} {L : List Arc3} {ord ord' : List Nat} {k x k' x' : Nat} (h : Bfs g L ord k x) (h' : Bfs g L ord' k' x') (hk : ¬ k < ord.length) (hk' : ¬ k' < ord'.length) : ord = ord' := by
  obtain ⟨n, e⟩ := h
  obtain ⟨n', e'⟩ := h'
  have h1 := bfs_stay e hk n'
  have h2 := bfs_stay e' hk' n
  rw [Nat.add_comm] at h2
  rw [h1] at h2
  exact congrArg (·.1) h2
/-- what holds of the order -/
structure BfsOk (g : Nat) (L : List Arc3) (ord : List Nat) (k x : Nat) : Prop where
  nodup : ord.Nodup
  zero : ord.getD 0 1 = 0
  inL : ∀ v ∈ ord, v = 0 ∨ ∃ a ∈ L, v = a.1 ∨ v = a.2.1
  kle : k ≤ ord.length
  xle : x ≤ 2 * g
  done : ∀ i y, (i < k ∧ y < 2 * g ∨ i = k ∧ y < x) → i < ord.length → ∀ w, nxA g L (ord.getD i 0) y = some w → w ∈ ord
theorem nxA_mem {g : Nat} {L : List Arc3} {v x w : Nat} (h : nxA g L v x = some w) : ∃ a ∈ L, w = a.1 ∨ w = a.2.1 := by
  unfold nxA at h
  rw [Option.map_eq_some_iff] at h
  obtain ⟨a, h1, h2⟩ := h
  refine ⟨a, List.mem_of_find?_eq_some h1, ?_⟩
  unfold nxE at h2
  split at h2
  · exact .inr h2.symm
  · exact .inl h2.symm
theorem pushO_nodup {ord : List Nat} (h : ord.Nodup) (o : Option Nat) : (pushO ord o).Nodup := by
  cases o with
  | none => exact h
  | some w =>
    rw [pushO_some]
    split
    · exact h
    · rename_i hw
      rw [List.nodup_append]
      exact ⟨h, by simp, fun a ha b hb => by rw [List.mem_singleton.1 hb]; exact fun e => hw (e ▸ ha)⟩
theorem pushO_pre (ord : List Nat) (o : Option Nat) : ∃ t, pushO ord o = ord ++ t ∧ t.length ≤ 1 := by
  cases o with
  | none => exact ⟨[], by simp [pushO], by simp⟩
  | some w =>
    rw [pushO_some]
    split
    · exact ⟨[], by simp, by simp⟩
    · exact ⟨[w], rfl, by simp⟩
theorem getD_app {l t : List Nat} {i d : Nat} (h : i < l.length) : (l ++ t).getD i d = l.getD i d := by
  simp [List.getD_eq_getElem?_getD, List.getElem?_append, h]
theorem Bfs.ok {g : Nat} {L : List Arc3} {ord : List Nat} {k x : Nat} (h : Bfs g L ord k x) : BfsOk g L ord k x := by
  obtain ⟨n, e⟩ := h
  induction n generalizing ord k x with
  | zero =>
    obtain ⟨rfl, rfl, rfl⟩ : [0] = ord ∧ 0 = k ∧ 0 = x := by
      have h1 := congrArg (·.1) e
      have h2 := congrArg (·.2.1) e
      have h3 := congrArg (·.2.2) e
      exact ⟨h1, h2, h3⟩
    exact ⟨by simp, rfl, fun v hv => .inl (List.mem_singleton.1 hv), by simp, by omega, fun i y h => by omega⟩
  | succ n ih =>
    obtain ⟨⟨o, k0, x0⟩, hs⟩ : ∃ s, bfsN g L n = s := ⟨_, rfl⟩
    have I := ih hs
    have e2 : bst g L (o, k0, x0) = (ord, k, x) := by rw [← hs]; exact e
    unfold bst at e2
    simp only at e2
    by_cases hk : k0 < o.length
    · rw [if_pos hk] at e2
      by_cases hx : x0 < 2 * g
      · rw [if_pos hx] at e2
        obtain ⟨rfl, rfl, rfl⟩ : pushO o (nxA g L (o.getD k0 0) x0) = ord ∧ k0 = k ∧ x0 + 1 = x := by
          have h1 := congrArg (·.1) e2
          have h2 := congrArg (·.2.1) e2
          have h3 := congrArg (·.2.2) e2
          exact ⟨h1, h2, h3⟩
        obtain ⟨t, ht, htl⟩ := pushO_pre o (nxA g L (o.getD k0 0) x0)
        refine ⟨pushO_nodup I.nodup _, by rw [ht, getD_app (by omega)]; exact I.zero, fun v hv => ?_, by rw [ht, List.length_append]; omega, by omega, fun i y hiy hi w hw => ?_⟩
        · rcases mem_pushO.1 hv with hv | hv
          · exact I.inL v hv
          · exact .inr (nxA_mem hv)
        · have hik : i ≤ k0 := by omega
          rw [ht, getD_app (by omega)] at hw
          by_cases hl : i = k0 ∧ y = x0
          · rw [hl.1, hl.2] at hw
            exact mem_pushO.2 (.inr hw)
          · exact mem_pushO.2 (.inl (I.done i y (by omega) (by omega) w hw))
      · rw [if_neg hx] at e2
        obtain ⟨rfl, rfl, rfl⟩ : o = ord ∧ k0 + 1 = k ∧ 0 = x := by
          have h1 := congrArg (·.1) e2
          have h2 := congrArg (·.2.1) e2
          have h3 := congrArg (·.2.2) e2
          exact ⟨h1, h2, h3⟩
        refine ⟨I.nodup, I.zero, I.inL, by omega, by omega, fun i y hiy hi w hw => I.done i y (by have := I.xle; omega) hi w hw⟩
    · rw [if_neg hk] at e2
      obtain ⟨rfl, rfl, rfl⟩ : o = ord ∧ k0 = k ∧ x0 = x := by
        have h1 := congrArg (·.1) e2
        have h2 := congrArg (·.2.1) e2
        have h3 := congrArg (·.2.2) e2
        exact ⟨h1, h2, h3⟩
      exact I
theorem Det.next {L : List Arc3} (h : Det L) {g : Nat} {a : Arc3} (ha : a ∈ L) (hl : a.2.2 < g) : nxA g L a.1 a.2.2 = some a.2.1 ∧ nxA g L a.2.1 (a.2.2 + g) = some a.1 := by
  have p1 : nxP g a.1 a.2.2 a = true := by unfold nxP; simp [hl, Nat.mod_eq_of_lt hl]
  have p2 : nxP g a.2.1 (a.2.2 + g) a = true := by
    unfold nxP
    simp [Nat.mod_eq_of_lt hl, show ¬ a.2.2 + g < g by omega]
  have key : ∀ {v x : Nat}, nxP g v x a = true → nxA g L v x = some (nxE g x a) := by
    intro v x p
    unfold nxA
    cases hf : L.find? (nxP g v x) with
    | none => exact absurd p (by simpa using List.find?_eq_none.1 hf a ha)
    | some b => rw [Option.map_some, h.same (List.mem_of_find?_eq_some hf) ha (List.find?_some hf) p]
  refine ⟨?_, ?_⟩
  · rw [key p1]; unfold nxE; rw [if_pos hl]
  · rw [key p2]; unfold nxE; rw [if_neg (by omega)]
/-- all ends of arcs can be reached from 0 -/
def Conn (F : List Arc3) : Prop := ∀ P : Nat → Prop, P 0 → (∀ a ∈ F, P a.1 ↔ P a.2.1) → ∀ a ∈ F, P a.1 ∧ P a.2.1
theorem Conn.ren {F : List Arc3} (h : Conn F) {r : Nat → Nat} (h0 : r 0 = 0) {L : List Arc3} (hL : ∀ a, a ∈ L ↔ a ∈ F.map (renA r)) : Conn L := by
  intro P p0 hP a ha
  obtain ⟨b, hb, rfl⟩ := List.mem_map.1 ((hL a).1 ha)
  have := h (fun x => P (r x)) (by show P (r 0); rw [h0]; exact p0) (fun c hc => hP (renA r c) ((hL _).2 (List.mem_map_of_mem hc))) b hb
  exact this
theorem bfs_all {g : Nat} {L : List Arc3} (hd : Det L) (hl : ∀ a ∈ L, a.2.2 < g) (hc : Conn L) {ord : List Nat} {k x : Nat} (h : Bfs g L ord k x) (hk : ¬ k < ord.length) : ∀ a ∈ L, a.1 ∈ ord ∧ a.2.1 ∈ ord := by
  have I := h.ok
  have D : ∀ v ∈ ord, ∀ y, y < 2 * g → ∀ w, nxA g L v y = some w → w ∈ ord := by
    intro v hv y hy w hw
    obtain ⟨i, hi, e⟩ := List.getElem_of_mem hv
    refine I.done i y (.inl ⟨by omega, hy⟩) hi w ?_
    rw [List.getD_eq_getElem?_getD, List.getElem?_eq_getElem hi, Option.getD_some, e]
    exact hw
  have hz : 0 ∈ ord := by
    have := I.zero
    rw [List.getD_eq_getElem?_getD] at this
    cases h0 : ord[0]? with
    | none => rw [h0] at this; cases this
    | some v =>
      rw [h0] at this
      obtain rfl : v = 0 := this
      exact List.mem_of_getElem? h0
  refine hc (fun v => v ∈ ord) hz fun a ha => ⟨fun h1 => ?_, fun h1 => ?_⟩
  · exact D _ h1 a.2.2 (by have := hl a ha; omega) _ (hd.next ha (hl a ha)).1
  · exact D _ h1 (a.2.2 + g) (by have := hl a ha; omega) _ (hd.next ha (hl a ha)).2
/-- a folded graph -/
structure FokP (g V : Nat) (L : List Arc3) : Prop where
  g1 : 1 ≤ g
  g2 : g ≤ 2
  v1 : 1 ≤ V
  v2 : V ≤ 96
  rng : ∀ a ∈ L, a.1 < V ∧ a.2.1 < V ∧ a.2.2 < g
  srt : SortA L
  det : Det L
theorem weak_strict : ∀ {l : List Arc3}, l.Pairwise (fun a b => ltA b a = false) → l.Nodup → SortA l
  | [], _, _ => List.Pairwise.nil
  | a :: l, h, hn => by
    have h1 := List.pairwise_cons.1 h
    have h2 := List.nodup_cons.1 hn
    refine List.pairwise_cons.2 ⟨fun b hb => ?_, weak_strict h1.2 h2.2⟩
    cases h3 : ltA a b
    · exact absurd (ltA_tot h3 (h1.1 b hb)) (fun e => h2.1 (e ▸ hb))
    · rfl
theorem SortA.nodup {l : List Arc3} (h : SortA l) : l.Nodup := h.imp fun {a b} hab e => by rw [e, ltA_irr] at hab; cases hab
theorem ix_inj {ord : List Nat} {u v : Nat} (hu : u ∈ ord) (hv : v ∈ ord) (e : ord.idxOf u = ord.idxOf v) : u = v := by
  have h1 := List.idxOf_lt_length_of_mem hu
  have h2 := List.getElem_idxOf h1
  have h3 := List.getElem_idxOf (List.idxOf_lt_length_of_mem hv)
  rw [← h2, ← h3]
  congr 1
theorem fold_putA : ∀ (l l0 : List Arc3), SortA l0 → SortA (l.foldl putA l0) ∧ ∀ c, c ∈ l.foldl putA l0 ↔ c ∈ l0 ∨ c ∈ l
  | [], l0, h => ⟨h, fun c => by simp⟩
  | a :: l, l0, h => by
    obtain ⟨h1, h2⟩ := fold_putA l (putA l0 a) (putA_sort h)
    refine ⟨h1, fun c => ?_⟩
    rw [List.foldl_cons, h2, putA_mem, List.mem_cons, or_assoc]
theorem ren_nodup {ord : List Nat} {L : List Arc3} (hs : L.Nodup) (hall : ∀ a ∈ L, a.1 ∈ ord ∧ a.2.1 ∈ ord) : (L.map (renA ord.idxOf)).Nodup := by
  unfold List.Nodup
  rw [List.pairwise_map]
  refine List.Pairwise.imp_of_mem (fun {a b} ha hb hab e => ?_) hs
  unfold renA at e
  have e1 := congrArg (·.1) e
  have e2 := congrArg (·.2.1) e
  have e3 := congrArg (·.2.2) e
  exact hab (Prod.ext (ix_inj (hall a ha).1 (hall b hb).1 e1) (Prod.ext (ix_inj (hall a ha).2 (hall b hb).2 e2) e3))
theorem ord_len {g : Nat} {L : List Arc3} {ord : List Nat} {k x n : Nat} (h : Bfs g L ord k x) (hn : 1 ≤ n) (hL : ∀ a ∈ L, a.1 < n ∧ a.2.1 < n) : 1 ≤ ord.length ∧ ord.length ≤ n := by
  have I := h.ok
  refine ⟨?_, ?_⟩
  · refine Nat.pos_of_ne_zero fun e => ?_
    have := I.zero
    rw [List.length_eq_zero_iff.1 e] at this
    cases this
  · have hsub : ord ⊆ List.range n := fun v hv => by
      rw [List.mem_range]
      rcases I.inL v hv with rfl | ⟨a, ha, h | h⟩
      · omega
      · rw [h]; exact (hL a ha).1
      · rw [h]; exact (hL a ha).2
    have := I.nodup.length_le_of_subset hsub
    rwa [List.length_range] at this
/-- what the words' graph becomes -/
theorem fold_fok {F L : List Arc3} {g n : Nat} {r : Nat → Nat} (hg1 : 1 ≤ g) (hg2 : g ≤ 2) (hn1 : 1 ≤ n) (hn2 : n ≤ 96) (hF : ∀ a ∈ F, a.1 < n ∧ a.2.1 < n ∧ a.2.2 < g) (hc : Conn F) (hr : FoldS F r) (hs : Shut F r) (hL : ∀ a, a ∈ L ↔ a ∈ F.map (renA r)) (hLs : SortA L) {ord : List Nat} {k x : Nat} (h : Bfs g L ord k x) (hk : ¬ k < ord.length) :
    (∀ a ∈ L, a.1 ∈ ord ∧ a.2.1 ∈ ord) ∧ FokP g ord.length ((L.map (renA ord.idxOf)).foldl putA []) := by
  have hd : Det L := fun a ha b hb => shut_meet hs a ((hL a).1 ha) b ((hL b).1 hb)
  have hrg : ∀ a ∈ L, a.1 < n ∧ a.2.1 < n ∧ a.2.2 < g := fun a ha => by
    obtain ⟨b, hb, rfl⟩ := List.mem_map.1 ((hL a).1 ha)
    obtain ⟨h1, h2, h3⟩ := hF b hb
    exact ⟨Nat.lt_of_le_of_lt (hr.le _) h1, Nat.lt_of_le_of_lt (hr.le _) h2, h3⟩
  have hcL : Conn L := hc.ren (by have := hr.le 0; omega) hL
  have hall := bfs_all hd (fun a ha => (hrg a ha).2.2) hcL h hk
  obtain ⟨l1, l2⟩ := ord_len h hn1 (fun a ha => ⟨(hrg a ha).1, (hrg a ha).2.1⟩)
  obtain ⟨p1, p2⟩ := fold_putA (L.map (renA ord.idxOf)) [] List.Pairwise.nil
  refine ⟨hall, hg1, hg2, l1, by omega, fun a ha => ?_, p1, fun a ha b hb => ?_⟩
  · rcases (p2 a).1 ha with h0 | h0
    · cases h0
    obtain ⟨c, hc, rfl⟩ := List.mem_map.1 h0
    exact ⟨List.idxOf_lt_length_of_mem (hall c hc).1, List.idxOf_lt_length_of_mem (hall c hc).2, (hrg c hc).2.2⟩
  · rcases (p2 a).1 ha with h0 | h0
    · cases h0
    rcases (p2 b).1 hb with h0' | h0'
    · cases h0'
    obtain ⟨c, hc, rfl⟩ := List.mem_map.1 h0
    obtain ⟨d, hd', rfl⟩ := List.mem_map.1 h0'
    have := hd c hc d hd'
    unfold meetA renA at *
    simp only
    by_cases e3 : c.2.2 = d.2.2
    · simp only [e3, beq_self_eq_true, Bool.true_and, Bool.or_eq_false_iff, Bool.and_eq_false_iff, bne_eq_false_iff_eq, beq_eq_false_iff_ne] at this ⊢
      refine ⟨?_, ?_⟩
      · by_cases e : c.1 = d.1
        · exact .inr (by rw [this.1.resolve_left (fun h => h e)])
        · exact .inl fun e2 => e (ix_inj (hall c hc).1 (hall d hd').1 e2)
      · by_cases e : c.2.1 = d.2.1
        · exact .inr (by rw [this.2.resolve_left (fun h => h e)])
        · exact .inl fun e2 => e (ix_inj (hall c hc).2 (hall d hd').2 e2)
    · simp [e3]
/-- a sorted rearrangement of the new arcs is what insertion gives -/
theorem sorted_put {M l : List Arc3} (hn : l.Nodup) (hp : M.Perm l) (hw : M.Pairwise (fun a b => ltA b a = false)) : M = l.foldl putA [] := by
  obtain ⟨p1, p2⟩ := fold_putA l [] List.Pairwise.nil
  refine sort_uniq (weak_strict hw (hp.nodup_iff.2 hn)) p1 fun a => ?_
  rw [p2, hp.mem_iff]
  simp
end Go.Proofs.YtklbehapbchnaaaDoor
namespace Go.Proofs.YtklbehapbchnaaaDoor
open Go.RowKit
set_option linter.unusedVariables false
/-- WordOk as a function of plain data -/
def wordOkB (k : Int) (s : ByteArray) : Bool := inB k 1 4 && (decide (s.size ≤ 16) && allB (letB k) s)
theorem letB_low {k : Int} {c : UInt8} (h : (c.toNat : Int) < 97) : letB k c = false := by
  simp [letB, inB]; omega
theorem letB_high {k : Int} {c : UInt8} (h : 97 ≤ (c.toNat : Int)) (h2 : k ≤ (c.toNat : Int) - 97) : letB k c = false := by
  simp [letB, inB]; omega
theorem letB_true {k : Int} {c : UInt8} (h : letB k c = true) : 97 ≤ (c.toNat : Int) ∧ (c.toNat : Int) - 97 < k := by
  simp [letB, inB] at h; omega
theorem wordOk_notk {k : Int} {s : ByteArray} (h : inB k 1 4 = false) : wordOkB k s = false := by simp [wordOkB, h]
theorem wordOk_long {k : Int} {s : ByteArray} (h : 16 < s.size) : wordOkB k s = false := by
  simp [wordOkB, show ¬ s.size ≤ 16 by omega]
theorem wordOk_all {k : Int} {s : ByteArray} (h : inB k 1 4 = true) (h2 : s.size ≤ 16) : wordOkB k s = allB (letB k) s := by simp [wordOkB, h, h2]
set_option maxHeartbeats 400000 in
theorem specWordOk_any (k : Int) (s : ByteArray) (w : World) (hs : s.size ≤ maxLen) :
    Calls Tryd.prog 61 #[.int .i64 k, .string s] w fun e w' => e = .returned (.bool (wordOkB k s)) ∧ w = w' := by
  unfold maxLen at hs
  cases hk : inB k 1 4
  · have F := Lib.hid (wordOk_notk (s := s) hk)
    go_enter Tryd.func61, Tryd.ntmps61
    go_wp2_with (go_at_call 37; refine (l01In_any _ _ _ _).mono ?_; rintro e w' ⟨rfl, rfl⟩)
    go_ret
    exact ⟨ret_bool F.out.symm, rfl⟩
  by_cases hl : 16 < s.size
  · have F := Lib.hid (wordOk_long (k := k) hl)
    go_enter Tryd.func61, Tryd.ntmps61
    go_wp2_with (go_at_call 37; refine (l01In_any _ _ _ _).mono ?_; rintro e w' ⟨rfl, rfl⟩)
    go_ret
    exact ⟨ret_bool F.out.symm, rfl⟩
  have hl' : s.size ≤ 16 := by omega
  have G := Lib.hid (wordOk_all (s := s) hk hl')
  have ⟨hk1, hk2⟩ := inB_bounds hk
  go_enter Tryd.func61, Tryd.ntmps61
  go_wp2_with (go_at_call 37; refine (l01In_any _ _ _ _).mono ?_; rintro e w' ⟨rfl, rfl⟩)
  go_loop [5] (fun i => ∃ j : Nat, j ≤ s.size ∧ i = .int .i64 j ∧ allTo (letB k) s j = true) (fun i => s.size - (intOf i).toNat)
  case atStart => exact ⟨0, Nat.zero_le _, rfl, allTo_zero _ _⟩
  case round =>
    obtain ⟨j, hj, rfl, hall⟩ := hrel
    have H := Lib.hid hall
    clear hall
    by_cases hlt : j < s.size
    · have hb := byte_lt s[j]
      by_cases h1 : (s[j].toNat : Int) < 97
      · have F := Lib.hid (allB_at s (letB k) j hlt (letB_low h1))
        go_wp2
        go_ret
        exact ⟨ret_bool (by rw [G.out, F.out]), rfl⟩
      · by_cases h2 : k ≤ (s[j].toNat : Int) - 97
        · have F := Lib.hid (allB_at s (letB k) j hlt (letB_high (by omega) h2))
          go_wp2
          go_ret
          exact ⟨ret_bool (by rw [G.out, F.out]), rfl⟩
        · have F := Lib.hid (allTo_succ s (letB k) j hlt H.out (by simp [letB, inB]; omega))
          go_wp2
          go_round
          case rel => exact ⟨j + 1, by omega, by go_num, F.out⟩
          case measure => simp [intOf]; omega
    · have F := Lib.hid (allTo_full s (letB k) j hlt H.out)
      go_wp2
      go_ret
      exact ⟨ret_bool (by rw [G.out, F.out]), rfl⟩
end Go.Proofs.YtklbehapbchnaaaDoor
namespace Go.Proofs.YtklbehapbchnaaaDoor
open Go.RowKit
set_option linter.unusedVariables false
theorem Below.next {B : Nat} {w W W' : World} (h : Below B w W) (h' : Below W.heap.size W W') (hB : B ≤ W.heap.size) : Below B w W' := h.trans (h'.mono hB)
theorem Below.now {w W W' : World} (h : Below w.heap.size w W) (h' : Below W.heap.size W W') : Below w.heap.size w W' := h.trans (h'.mono h.size)
/-- draws and new blocks -/
structure Ext where
  d : Nat
  h : Array Obj
instance : Inhabited Ext := ⟨⟨0, #[]⟩⟩
/-- w with other draws and with new blocks behind its own -/
def wide (w : World) (x : Ext) : World := { w with drawn := x.d, heap := w.heap ++ x.h }
theorem below_wide (w : World) (x : Ext) : Below w.heap.size w (wide w x) :=
  ⟨rfl, rfl, rfl, by simp [wide], fun k hk => by simp [wide, Array.getElem?_append_left hk]⟩
/-- the cells behind an address -/
def CellsIn (w : World) (a : Option Addr) (vs : List Value) : Prop :=
  vs = [] ∨ ∃ b off, a = some ⟨b, off, none⟩ ∧ ∀ i (h : i < vs.length), w.cell? ⟨b, off + i, none⟩ = some vs[i]
theorem CellsIn.later {w w' : World} {a : Option Addr} {vs : List Value} (h : CellsIn w a vs) (hb : Below w.heap.size w w') : CellsIn w' a vs := by
  rcases h with h | ⟨b, off, ha, hc⟩
  · exact .inl h
  · refine .inr ⟨b, off, ha, fun i hi => ?_⟩
    rw [hb.cell (World.block_lt_of_cell? w _ (hc i hi)), hc i hi]
/-- a slice of integers -/
def IntsIn (w : World) (a : Option Addr) (l : List Int) : Prop := CellsIn w a (l.map (Value.int .i64))
theorem IntsIn.later {w w' : World} {a : Option Addr} {l : List Int} (h : IntsIn w a l) (hb : Below w.heap.size w w') : IntsIn w' a l := CellsIn.later h hb
theorem IntsIn.at {w : World} {a : Option Addr} {l : List Int} (h : IntsIn w a l) {i : Nat} (hi : i < l.length) :
    ∃ b off, a = some ⟨b, off, none⟩ ∧ ∀ j, j < l.length → w.cell? ⟨b, off + j, none⟩ = some (.int .i64 (l.getD j 0)) := by
  rcases h with h | ⟨b, off, ha, hc⟩
  · simp at h; simp [h] at hi
  · refine ⟨b, off, ha, fun j hj => ?_⟩
    have := hc j (by simpa using hj)
    simpa [List.getD_eq_getElem?_getD, hj] using this
end Go.Proofs.YtklbehapbchnaaaDoor
