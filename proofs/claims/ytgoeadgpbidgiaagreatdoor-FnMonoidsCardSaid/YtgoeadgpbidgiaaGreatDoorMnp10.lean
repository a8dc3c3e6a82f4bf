/-
  The laws' own helpers over systems: sz, to, eq.
-/
import Derived.Test.YtgoeadgpbidgiaaGreatDoorMnp09
import Derived.Test.YtgoeadgpbidgiaaGreatDoorMnp03
import Derived.Deep.QuietTactic
namespace Go.Proofs.YtgoeadgpbidgiaaGreatDoor
open Go.RowKit
set_option linter.unusedVariables false
/-- the places of a part among the first j ones -/
def placeTo (w l : ByteArray) (j : Nat) : List Nat := (List.range j).filter fun i => preAt w i l
def placesF (w l : ByteArray) : List Nat := placeTo w l w.size
theorem placeTo_yes {w l : ByteArray} {j : Nat} (h : preAt w j l = true) : placeTo w l (j + 1) = placeTo w l j ++ [j] := by
  unfold placeTo; rw [List.range_succ, List.filter_append]; simp [h]
theorem placeTo_no {w l : ByteArray} {j : Nat} (h : preAt w j l = false) : placeTo w l (j + 1) = placeTo w l j := by
  unfold placeTo; rw [List.range_succ, List.filter_append]; simp [h]
theorem placeTo_len (w l : ByteArray) (j : Nat) : (placeTo w l j).length ≤ j := by
  unfold placeTo
  have := List.length_filter_le (fun i => preAt w i l) (List.range j)
  simpa using this
/-- beyond the last place where it fits there is none -/
theorem placeTo_end {w l : ByteArray} (hl : 0 < l.size) {j : Nat} (h : w.size < j + l.size) (hj : j ≤ w.size) : placeTo w l j = placesF w l := by
  unfold placesF placeTo
  obtain ⟨d, hd⟩ := Nat.exists_eq_add_of_le hj
  rw [hd, List.range_add, List.filter_append]
  have : (List.map (fun x => j + x) (List.range d)).filter (fun i => preAt w i l) = [] := by
    rw [List.filter_eq_nil_iff]
    intro i hi hp
    obtain ⟨x, _, rfl⟩ := List.mem_map.1 hi
    have := preAt_fits hp hl
    omega
  rw [this, List.append_nil]
theorem mem_places {w l : ByteArray} {i : Nat} : i ∈ placesF w l ↔ i < w.size ∧ preAt w i l = true := by
  unfold placesF placeTo
  rw [List.mem_filter, List.mem_range]
/-- the end of u of n letters is the beginning of v -/
def ovAt (u v : ByteArray) (n : Nat) : Bool := u.data.toList.drop (u.size - n) == v.data.toList.take n
/-- the overlaps of less than j letters -/
def overTo (u v : ByteArray) (j : Nat) : List Nat := (List.range j).filter fun n => decide (0 < n) && ovAt u v n
def overF (u v : ByteArray) : List Nat := overTo u v (min u.size v.size)
theorem overTo_yes {u v : ByteArray} {j : Nat} (h0 : 0 < j) (h : ovAt u v j = true) : overTo u v (j + 1) = overTo u v j ++ [j] := by
  unfold overTo; rw [List.range_succ, List.filter_append]; simp [h, h0]
theorem overTo_no {u v : ByteArray} {j : Nat} (h : ovAt u v j = false) : overTo u v (j + 1) = overTo u v j := by
  unfold overTo; rw [List.range_succ, List.filter_append]; simp [h]
theorem overTo_len (u v : ByteArray) (j : Nat) : (overTo u v j).length ≤ j := by
  unfold overTo
  have := List.length_filter_le (fun n => decide (0 < n) && ovAt u v n) (List.range j)
  simpa using this
theorem mem_over {u v : ByteArray} {n : Nat} : n ∈ overF u v ↔ (n < u.size ∧ n < v.size) ∧ 0 < n ∧ ovAt u v n = true := by
  unfold overF overTo
  rw [List.mem_filter, List.mem_range, Bool.and_eq_true, decide_eq_true_eq]
  constructor
  · rintro ⟨h1, h2, h3⟩; exact ⟨by omega, h2, h3⟩
  · rintro ⟨h1, h2, h3⟩; exact ⟨by omega, h2, h3⟩
/-- a pair: its word, its rules, the place of the second one -/
abbrev PairD := ByteArray × Nat × Nat × Nat
/-- one rule inside of another one -/
def inP (R : List RulD) (i j p : Nat) : PairD := ((nthR R i).1, i, j, p)
def inF (R : List RulD) (i j : Nat) : List PairD := if i = j then [] else (placesF (nthR R i).1 (nthR R j).1).map (inP R i j)
/-- the end of one the beginning of another one -/
def acP (R : List RulD) (i j n : Nat) : PairD := ((nthR R i).1 ++ (nthR R j).1.extract n (nthR R j).1.size, i, j, (nthR R i).1.size - n)
def acF (R : List RulD) (i j : Nat) : List PairD := (overF (nthR R i).1 (nthR R j).1).map (acP R i j)
/-- the pairs of a rule with the first j ones -/
def pairAt (R : List RulD) (i j : Nat) : List PairD := (List.range j).flatMap fun b => inF R i b ++ acF R i b
/-- the pairs of the first i rules, and of the rule i with the first j ones -/
def pairTo (R : List RulD) (i j : Nat) : List PairD := ((List.range i).flatMap fun a => pairAt R a R.length) ++ pairAt R i j
def pairsF (R : List RulD) : List PairD := (List.range R.length).flatMap fun a => pairAt R a R.length
theorem pairTo_step (R : List RulD) (i j : Nat) : pairTo R i (j + 1) = pairTo R i j ++ (inF R i j ++ acF R i j) := by
  unfold pairTo pairAt
  rw [List.range_succ, List.flatMap_append, List.append_assoc]
  simp
theorem pairTo_next (R : List RulD) (i : Nat) : pairTo R i R.length = pairTo R (i + 1) 0 := by
  unfold pairTo
  rw [List.range_succ, List.flatMap_append]
  simp [pairAt]
theorem pairTo_done (R : List RulD) : pairTo R R.length 0 = pairsF R := by
  unfold pairTo pairsF
  simp [pairAt]
theorem flat_len {α : Type} (f : Nat → List α) (c : Nat) (h : ∀ i, (f i).length ≤ c) : ∀ n, ((List.range n).flatMap f).length ≤ n * c
  | 0 => by simp
  | n + 1 => by
    have ih := flat_len f c h n
    have h1 := h n
    rw [List.range_succ, List.flatMap_append, List.length_append, Nat.succ_mul]
    simp only [List.flatMap_cons, List.flatMap_nil, List.append_nil]
    omega
theorem inF_len {R : List RulD} (h8 : ∀ r, (nthR R r).1.size ≤ 8) (i j : Nat) : (inF R i j).length ≤ 8 := by
  unfold inF
  split
  · simp
  · rw [List.length_map]
    exact Nat.le_trans (placeTo_len _ _ _) (h8 i)
theorem acF_len {R : List RulD} (h8 : ∀ r, (nthR R r).1.size ≤ 8) (i j : Nat) : (acF R i j).length ≤ 8 := by
  unfold acF
  rw [List.length_map]
  have h1 := overTo_len (nthR R i).1 (nthR R j).1 (min (nthR R i).1.size (nthR R j).1.size)
  have h2 := h8 i
  unfold overF
  omega
theorem pairAt_len {R : List RulD} (h8 : ∀ r, (nthR R r).1.size ≤ 8) (i j : Nat) : (pairAt R i j).length ≤ j * 16 :=
  flat_len _ 16 (fun b => by rw [List.length_append]; have := inF_len h8 i b; have := acF_len h8 i b; omega) j
theorem pairTo_len {R : List RulD} (h8 : ∀ r, (nthR R r).1.size ≤ 8) (hR : R.length ≤ 12) {i j : Nat} (hi : i ≤ 12) (hj : j ≤ 12) : (pairTo R i j).length ≤ 2496 := by
  unfold pairTo
  rw [List.length_append]
  have h1 := flat_len (fun a => pairAt R a R.length) 192 (fun a => by have := pairAt_len h8 a R.length; omega) i
  have h2 := pairAt_len h8 i j
  omega
/-- both steps of a pair can be made -/
structure PairOk (R : List RulD) (k : Int) (p : PairD) : Prop where
  one : (p.2.1, 0) ∈ stepsF R p.1
  two : (p.2.2.1, p.2.2.2) ∈ stepsF R p.1
  word : wordOkB k p.1 = true
theorem nthR_dflt {R : List RulD} {r : Nat} (h : ¬ r < R.length) : nthR R r = (⟨#[]⟩, ⟨#[]⟩) := by
  unfold nthR; rw [List.getD_eq_getElem?_getD, List.getElem?_eq_none (by omega)]; rfl
theorem left8 {k : Int} {R : List RulD} (hs : sysP k R) (r : Nat) : (nthR R r).1.size ≤ 8 := by
  by_cases h : r < R.length
  · exact (hs.1.2 _ (nthR_mem h)).1.2.1
  · rw [nthR_dflt h]; exact Nat.zero_le _
theorem preAt_zero (w : ByteArray) : preAt w 0 w = true := by
  unfold preAt; rw [List.drop_zero, List.isPrefixOf_iff_prefix]; exact List.prefix_refl _
theorem pairOk {k : Int} {R : List RulD} (hs : sysP k R) {p : PairD} (hp : p ∈ pairsF R) : PairOk R k p := by
  unfold pairsF pairAt at hp
  simp only [List.mem_flatMap, List.mem_range] at hp
  obtain ⟨i, hi, j, hj, hp⟩ := hp
  have ri := hs.1.2 _ (nthR_mem hi)
  have rj := hs.1.2 _ (nthR_mem hj)
  have wi := ri.1.1.1
  have wj := rj.1.1.1
  have zi := ri.2
  have zj := rj.2
  rcases List.mem_append.1 hp with hp | hp
  · unfold inF at hp
    split at hp
    · cases hp
    · obtain ⟨q, hq, rfl⟩ := List.mem_map.1 hp
      obtain ⟨h1, h2⟩ := mem_places.1 hq
      exact ⟨mem_stepsF.2 ⟨by show 0 < (nthR R i).1.size; omega, hi, preAt_zero _⟩, mem_stepsF.2 ⟨h1, hj, h2⟩, wi⟩
  · obtain ⟨n, hn, rfl⟩ := List.mem_map.1 hp
    obtain ⟨⟨h1, h2⟩, h3, h4⟩ := mem_over.1 hn
    have e1 : ((nthR R i).1 ++ (nthR R j).1.extract n (nthR R j).1.size).data.toList = (nthR R i).1.data.toList ++ (nthR R j).1.data.toList.drop n := by
      rw [ByteArray.data_append, Array.toList_append, extract_lt]
      have h : (nthR R j).1.data.toList.length = (nthR R j).1.size := rfl
      rw [List.take_of_length_le (Nat.le_of_eq h)]
    have e2 : ((nthR R i).1 ++ (nthR R j).1.extract n (nthR R j).1.size).size = (nthR R i).1.size + ((nthR R j).1.size - n) := by
      rw [ByteArray.size_append, ByteArray.size_extract]; omega
    have hli : (nthR R i).1.data.toList.length = (nthR R i).1.size := rfl
    unfold ovAt at h4
    rw [beq_iff_eq] at h4
    refine ⟨mem_stepsF.2 ⟨?_, hi, ?_⟩, mem_stepsF.2 ⟨?_, hj, ?_⟩, ?_⟩
    · show 0 < _
      show 0 < ((nthR R i).1 ++ (nthR R j).1.extract n (nthR R j).1.size).size
      rw [e2]; omega
    · show preAt ((nthR R i).1 ++ (nthR R j).1.extract n (nthR R j).1.size) 0 (nthR R i).1 = true
      unfold preAt
      rw [List.drop_zero, e1, List.isPrefixOf_iff_prefix]
      exact List.prefix_append _ _
    · show (nthR R i).1.size - n < ((nthR R i).1 ++ (nthR R j).1.extract n (nthR R j).1.size).size
      rw [e2]; omega
    · show preAt ((nthR R i).1 ++ (nthR R j).1.extract n (nthR R j).1.size) ((nthR R i).1.size - n) (nthR R j).1 = true
      unfold preAt
      rw [e1, List.isPrefixOf_iff_prefix, List.drop_append_of_le_length (by omega), h4, List.take_append_drop]
      exact List.prefix_refl _
    · obtain ⟨a1, a2, a3⟩ := wordOk_iff.1 wi
      obtain ⟨_, _, b3⟩ := wordOk_iff.1 wj
      refine wordOk_iff.2 ⟨a1, ?_, ?_⟩
      · show ((nthR R i).1 ++ (nthR R j).1.extract n (nthR R j).1.size).size ≤ 16
        have := ri.1.2.1; have := rj.1.2.1
        rw [e2]; omega
      · show okLt k ((nthR R i).1 ++ (nthR R j).1.extract n (nthR R j).1.size).data.toList
        rw [e1]
        intro y hy
        rcases List.mem_append.1 hy with hy | hy
        · exact a3 y hy
        · exact b3 y ((List.drop_sublist _ _).subset hy)
def leftP (R : List RulD) (p : PairD) : ByteArray := applyF R p.1 (p.2.1, 0)
def rightP (R : List RulD) (p : PairD) : ByteArray := applyF R p.1 (p.2.2.1, p.2.2.2)
/-- both sides of a pair have one normal form -/
def Joined (R : List RulD) (p : PairD) : Prop := ∃ x, NormIs R (leftP R p) x ∧ NormIs R (rightP R p) x
open Classical in
/-- the open ones among pairs -/
noncomputable def openL (R : List RulD) (l : List PairD) : List PairD := l.filter fun p => !decide (Joined R p)
noncomputable def openF (R : List RulD) : List PairD := openL R (pairsF R)
theorem openL_app (R : List RulD) (l m : List PairD) : openL R (l ++ m) = openL R l ++ openL R m := by unfold openL; rw [List.filter_append]
theorem openL_yes {R : List RulD} {p : PairD} (h : Joined R p) : openL R [p] = [] := by
  classical
  unfold openL
  simp [h]
theorem openL_no {R : List RulD} {p : PairD} (h : ¬ Joined R p) : openL R [p] = [p] := by
  classical
  unfold openL
  simp [h]
end Go.Proofs.YtgoeadgpbidgiaaGreatDoor
namespace Go.Proofs.YtgoeadgpbidgiaaGreatDoor
open Go.RowKit
set_option linter.unusedVariables false
open Classical in
/-- the normal form of a word, if there is one -/
noncomputable def nfC (R : List RulD) (u : ByteArray) : ByteArray := if h : ∃ x, NormIs R u x then Classical.choose h else ⟨#[]⟩
theorem nfC_eq {R : List RulD} {u x : ByteArray} (h : NormIs R u x) : nfC R u = x := by
  have h1 : ∃ x, NormIs R u x := ⟨x, h⟩
  unfold nfC
  rw [dif_pos h1]
  exact (Classical.choose_spec h1).uniq h
/-- the place of a word among words -/
def idxTo (L : List ByteArray) (v : ByteArray) (j : Nat) : Option Nat := (List.range j).find? fun i => (nthS L i).toList == v.toList
def idxB (L : List ByteArray) (v : ByteArray) : Int := match idxTo L v L.length with | some i => (i : Int) | none => -1
/-- the entries of a row of the table, up to a column -/
noncomputable def rowTo (R : List RulD) (L : List ByteArray) (i j : Nat) : List Int := (List.range j).map fun b => idxB L (nfC R (nthS L i ++ nthS L b))
/-- the entries of the rows before i, and of the row i up to a column -/
noncomputable def prodTo (R : List RulD) (L : List ByteArray) (i j : Nat) : List Int := ((List.range i).flatMap fun a => rowTo R L a L.length) ++ rowTo R L i j
noncomputable def prodF (R : List RulD) (L : List ByteArray) : List Int := (List.range L.length).flatMap fun a => rowTo R L a L.length
theorem prodTo_step (R : List RulD) (L : List ByteArray) (i j : Nat) : prodTo R L i (j + 1) = prodTo R L i j ++ [idxB L (nfC R (nthS L i ++ nthS L j))] := by
  unfold prodTo rowTo
  rw [List.range_succ, List.map_append, List.append_assoc]
  rfl
theorem prodTo_next (R : List RulD) (L : List ByteArray) (i : Nat) : prodTo R L i L.length = prodTo R L (i + 1) 0 := by
  unfold prodTo
  rw [List.range_succ, List.flatMap_append]
  simp [rowTo]
theorem prodTo_done (R : List RulD) (L : List ByteArray) : prodTo R L L.length 0 = prodF R L := by
  unfold prodTo prodF
  simp [rowTo]
theorem prodTo_len (R : List RulD) (L : List ByteArray) (i j : Nat) : (prodTo R L i j).length = i * L.length + j := by
  unfold prodTo
  rw [List.length_append]
  have h : ∀ n, ((List.range n).flatMap fun a => rowTo R L a L.length).length = n * L.length := fun n => by
    induction n with
    | zero => simp
    | succ n ih =>
      rw [List.range_succ, List.flatMap_append, List.length_append, ih, Nat.succ_mul]
      simp [rowTo]
  rw [h]
  simp [rowTo]
theorem prodTo_few {R : List RulD} {L : List ByteArray} (h : L.length ≤ 40) {i j : Nat} (hi : i ≤ L.length) (hj : j ≤ L.length) : (prodTo R L i j).length ≤ 1640 := by
  rw [prodTo_len]
  have : i * L.length ≤ 40 * 40 := Nat.mul_le_mul (by omega) h
  omega
end Go.Proofs.YtgoeadgpbidgiaaGreatDoor
namespace Go.Proofs.YtgoeadgpbidgiaaGreatDoor
open Go.RowKit
set_option linter.unusedVariables false
/-- the cells of a list of structs -/
def cellsL {α : Type} (f : α → List Value) (l : List α) : List Value := l.flatMap f
theorem cellsL_app {α : Type} (f : α → List Value) (l m : List α) : cellsL f (l ++ m) = cellsL f l ++ cellsL f m := by simp [cellsL]
theorem cellsL_one {α : Type} (f : α → List Value) (x : α) : cellsL f [x] = f x := by simp [cellsL]
theorem cellsL_len {α : Type} {f : α → List Value} {m : Nat} (hf : ∀ x, (f x).length = m) : ∀ l : List α, (cellsL f l).length = l.length * m
  | [] => by simp [cellsL]
  | x :: l => by
    have ih := cellsL_len hf l
    unfold cellsL at *
    rw [List.flatMap_cons, List.length_append, hf, ih, List.length_cons, Nat.succ_mul]
    omega
theorem cellsL_at {α : Type} {f : α → List Value} {m : Nat} (hf : ∀ x, (f x).length = m) : ∀ (l : List α) (j : Nat) (hj : j < l.length) (i : Nat), i < m → (cellsL f l)[j * m + i]? = (f l[j])[i]?
  | [], j, hj, _, _ => by simp at hj
  | x :: l, 0, _, i, hi => by
    unfold cellsL
    rw [List.flatMap_cons, List.getElem?_append_left (by rw [hf]; omega)]
    simp
  | x :: l, j + 1, hj, i, hi => by
    have ih := cellsL_at hf l j (by simpa using hj) i hi
    unfold cellsL at *
    rw [List.flatMap_cons, List.getElem?_append_right (by rw [hf, Nat.succ_mul]; omega), hf]
    rw [show (j + 1) * m + i - m = j * m + i by rw [Nat.succ_mul]; omega, ih]
    rfl
/-- a row of structs -/
def RowsIn {α : Type} (f : α → List Value) (w : World) (a : Option Addr) (l : List α) : Prop := CellsIn w a (cellsL f l)
theorem RowsIn.later {α : Type} {f : α → List Value} {w w' : World} {a : Option Addr} {l : List α} (h : RowsIn f w a l) (hb : Below w.heap.size w w') : RowsIn f w' a l := CellsIn.later h hb
theorem owns_rows {α : Type} {f : α → List Value} {w : World} {base : Nat} {T : TypeId} {size : Nat} {a : Option Addr} {n m cap : Nat} {l : List α} (h : w.ownsRow base T size (.slice a m cap) n (cellsL f l)) : RowsIn f w a l := owns_cells h
theorem RowsIn.cell {α : Type} {f : α → List Value} {m : Nat} (hf : ∀ x, (f x).length = m) (hm : 0 < m) {w : World} {a : Option Addr} {l : List α} (h : RowsIn f w a l) {i : Nat} (hi : i < l.length) :
    ∃ b off, a = some ⟨b, off, none⟩ ∧ b < w.heap.size ∧ ∀ j (hj : j < l.length) c v, (f l[j])[c]? = some v → w.cell? ⟨b, off + j * m + c, none⟩ = some v := by
  have hlen := cellsL_len hf l
  rcases h with h | ⟨b, off, ha, hc⟩
  · rw [h, List.length_nil] at hlen
    have : l.length * m ≠ 0 := Nat.mul_ne_zero (by omega) (by omega)
    omega
  · have key : ∀ j (hj : j < l.length) c v, (f l[j])[c]? = some v → w.cell? ⟨b, off + j * m + c, none⟩ = some v := fun j hj c v hv => by
      have hcm : c < m := by rw [← hf l[j]]; exact (List.getElem?_eq_some_iff.1 hv).1
      have h1 := cellsL_at hf l j hj c hcm
      rw [hv] at h1
      obtain ⟨h2, h3⟩ := List.getElem?_eq_some_iff.1 h1
      have h4 := hc (j * m + c) h2
      rw [h3] at h4
      rw [Nat.add_assoc]
      exact h4
    refine ⟨b, off, ha, ?_, key⟩
    have h0 : 0 < (f l[i]).length := by rw [hf]; exact hm
    exact World.block_lt_of_cell? w _ (key i hi 0 (f l[i])[0] (List.getElem?_eq_getElem h0))
/-- the cells of a step -/
def stV (s : Nat × Nat) : List Value := [.int .i64 (s.1 : Nat), .int .i64 (s.2 : Nat)]
theorem stV_len (s : Nat × Nat) : (stV s).length = 2 := rfl
/-- the cells of a pair -/
def prV (p : ByteArray × Nat × Nat × Nat) : List Value := [.string p.1, .int .i64 (p.2.1 : Nat), .int .i64 0, .int .i64 (p.2.2.1 : Nat), .int .i64 (p.2.2.2 : Nat)]
theorem prV_len (p : ByteArray × Nat × Nat × Nat) : (prV p).length = 5 := rfl
/-- the cells of numbers -/
def nV (n : Nat) : List Value := [.int .i64 (n : Nat)]
theorem nV_len (n : Nat) : (nV n).length = 1 := rfl
end Go.Proofs.YtgoeadgpbidgiaaGreatDoor
namespace Go.Proofs.YtgoeadgpbidgiaaGreatDoor
open Go.RowKit
set_option linter.unusedVariables false
/-- a part of a word and a part of that length compared -/
theorem preAt_ext {w0 l : ByteArray} {i : Nat} : ((w0.extract i (i + l.size)).toList == l.toList) = preAt w0 i l := by
  have h2 : l.data.toList.length = l.size := rfl
  have key : (w0.extract i (i + l.size)).toList = (w0.data.toList.drop i).take l.data.toList.length := by
    rw [ByteArray.toList_eq, extract_lt, List.drop_take, h2, Nat.add_sub_cancel_left]
  rw [key, ByteArray.toList_eq]
  unfold preAt
  cases h : l.data.toList.isPrefixOf (w0.data.toList.drop i)
  · rw [beq_eq_false_iff_ne]
    intro e
    have h3 : l.data.toList <+: w0.data.toList.drop i := by rw [← e]; exact List.take_prefix _ _
    rw [List.isPrefixOf_iff_prefix.2 h3] at h
    cases h
  · rw [beq_iff_eq]
    exact (List.prefix_iff_eq_take.1 (List.isPrefixOf_iff_prefix.1 h)).symm
theorem preAt_hp {w0 l : ByteArray} {i : Nat} : Lib.hasPrefix (w0.extract i w0.size).data.toList l.data.toList = preAt w0 i l := by
  unfold Lib.hasPrefix preAt
  rw [extract_lt]
  have h : w0.data.toList.length = w0.size := rfl
  rw [List.take_of_length_le (Nat.le_of_eq h)]
theorem ovAt_ext {u v : ByteArray} {n : Nat} : ((u.extract (u.size - n) u.size).toList == (v.extract 0 n).toList) = ovAt u v n := by
  unfold ovAt
  rw [ByteArray.toList_eq, ByteArray.toList_eq, extract_lt, extract_lt, List.drop_zero]
  have h : u.data.toList.length = u.size := rfl
  rw [List.take_of_length_le (Nat.le_of_eq h)]
theorem cells_nV (l : List Nat) (j : Nat) : cellsL nV (l ++ [j]) = cellsL nV l ++ [.int .i64 (j : Nat)] := by rw [cellsL_app, cellsL_one]; rfl
set_option maxHeartbeats 400000 in
theorem implReplaceAt_ok (w0 by_ : ByteArray) (i l : Nat) (w : World) (h1 : i + l ≤ w0.size) (h2 : w0.size - l + by_.size ≤ 16) (hz : w0.size ≤ 1000) (hy : by_.size ≤ 1000) :
    Calls Tryz.prog 135 #[.string w0, .int .i64 (i : Nat), .int .i64 (l : Nat), .string by_] w fun e w' => e = .returned (.tuple #[.string (replF w0 i l by_), .bool true]) ∧ Below w.heap.size w w' := by
  have HF : Hid (∀ W, Below w.heap.size w W → Ending.returned (.tuple #[.string (w0.extract 0 i ++ by_ ++ w0.extract (i + l) w0.size), .bool true]) = .returned (.tuple #[.string (replF w0 i l by_), .bool true]) ∧ Below w.heap.size w W) := Lib.hid (fun W h => ⟨rfl, h⟩)
  have a1 : (w0.extract 0 i).size = i := by rw [ByteArray.size_extract]; omega
  have a2 : (w0.extract (i + l) w0.size).size = w0.size - (i + l) := by rw [ByteArray.size_extract]; omega
  have a3 : ¬ 9223372036854775807 < (w0.extract 0 i).size + by_.size := by omega
  have a4 : ¬ 9223372036854775807 < (w0.extract 0 i).size + by_.size + (w0.extract (i + l) w0.size).size := by omega
  have g1 : ¬ (i : Int) < 0 := by omega
  have g2 : ¬ (l : Int) < 0 := by omega
  have g3 : ¬ (w0.size : Int) < (i : Int) := by omega
  have g4 : ¬ (w0.size : Int) - (i : Int) < (l : Int) := by omega
  have g5 : ¬ (16 : Int) < (w0.size : Int) - (l : Int) + (by_.size : Int) := by omega
  have s1 : (i : Int) + (l : Int) ≤ (w0.size : Int) := by omega
  have s2 : i + l ≤ w0.size := h1
  have s3 : i ≤ w0.size := by omega
  clear h2
  go_enter Tryz.func135, Tryz.ntmps135
  go_wp2_with fail
  go_quiet (fail)
  go_wp2_with fail
  go_ret2
  exact HF.out _ (below_drewN (Below.refl _ _) _)
set_option maxHeartbeats 400000 in
theorem specReplaceAt_ok (w0 by_ : ByteArray) (i l : Nat) (w : World) (h1 : i + l ≤ w0.size) (h2 : w0.size - l + by_.size ≤ 16) (hz : w0.size ≤ 1000) (hy : by_.size ≤ 1000) :
    Calls Tryz.prog 214 #[.string w0, .int .i64 (i : Nat), .int .i64 (l : Nat), .string by_] w fun e w' => e = .returned (.tuple #[.string (replF w0 i l by_), .bool true]) ∧ Below w.heap.size w w' := by
  have HF : Hid (∀ W, Below w.heap.size w W → Ending.returned (.tuple #[.string (w0.extract 0 i ++ by_ ++ w0.extract (i + l) w0.size), .bool true]) = .returned (.tuple #[.string (replF w0 i l by_), .bool true]) ∧ Below w.heap.size w W) := Lib.hid (fun W h => ⟨rfl, h⟩)
  have a1 : (w0.extract 0 i).size = i := by rw [ByteArray.size_extract]; omega
  have a2 : (w0.extract (i + l) w0.size).size = w0.size - (i + l) := by rw [ByteArray.size_extract]; omega
  have a3 : ¬ 9223372036854775807 < (w0.extract 0 i).size + by_.size := by omega
  have a4 : ¬ 9223372036854775807 < (w0.extract 0 i).size + by_.size + (w0.extract (i + l) w0.size).size := by omega
  have g1 : ¬ (i : Int) < 0 := by omega
  have g2 : ¬ (l : Int) < 0 := by omega
  have g3 : ¬ (w0.size : Int) < (i : Int) := by omega
  have g4 : ¬ (w0.size : Int) - (i : Int) < (l : Int) := by omega
  have g5 : ¬ (16 : Int) < (w0.size : Int) - (l : Int) + (by_.size : Int) := by omega
  have s1 : (i : Int) + (l : Int) ≤ (w0.size : Int) := by omega
  have s2 : i + l ≤ w0.size := h1
  have s3 : i ≤ w0.size := by omega
  clear h2
  go_enter Tryz.func214, Tryz.ntmps214
  go_wp2_with fail
  go_quiet (fail)
  go_wp2_with fail
  go_ret2
  exact HF.out _ (below_drewN (Below.refl _ _) _)
set_option maxRecDepth 20000 in
set_option maxHeartbeats 1000000 in
theorem specPlacesOf_any (w0 l : ByteArray) (w : World) (hl : 0 < l.size) (hz : w0.size ≤ 1000) (hy : l.size ≤ 1000) :
    Calls Tryz.prog 195 #[.string w0, .string l] w (RetSl 3 1 (placesF w0 l).length (cellsL nV (placesF w0 l)) w) := by
  obtain ⟨p1, p2⟩ := full_facts (x := l) (by omega)
  have hb0 := alloc_belowS w (.cells #[] 3)
  have HB0 : Hid (Bld 3 1 w (w.alloc (.cells #[] 3)) (.slice (some ⟨w.heap.size, 0, none⟩) 0 0) (placeTo w0 l 0).length (cellsL nV (placeTo w0 l 0))) := Lib.hid (Bld.empty 3 1 w)
  have HEND := Lib.hid (fun j => placeTo_end (w := w0) (l := l) hl (j := j))
  clear hb0
  go_enter Tryz.func195, Tryz.ntmps195
  go_wp2_with fail
  go_loopw [5, 6] (fun vo vi wr => ∃ j : Nat, j ≤ w0.size ∧ vi = .int .i64 (j : Nat) ∧ Bld 3 1 w wr vo (placeTo w0 l j).length (cellsL nV (placeTo w0 l j))) (fun _ vi _ => w0.size - (intOf vi).toNat)
  case atStart => exact ⟨0, Nat.zero_le _, rfl, HB0.out⟩
  case round =>
    clear HB0
    obtain ⟨j, hj, rfl, hbd⟩ := hrel
    obtain ⟨ao, co, rfl⟩ := owns_form hbd.1
    have HB := Lib.hid hbd
    clear hbd
    have hlen := placeTo_len w0 l j
    by_cases hlt : j + l.size ≤ w0.size
    · have h1 : j + l.size ≤ w0.size ∨ w0.size < j + l.size := by omega
      have HEX := Lib.hid (preAt_ext (w0 := w0) (l := l) (i := j))
      have HY := Lib.hid (fun h => placeTo_yes (w := w0) (l := l) (j := j) h)
      have HN := Lib.hid (fun h => placeTo_no (w := w0) (l := l) (j := j) h)
      clear h1
      cases hp : preAt w0 j l
      · have hn := HN.out hp
        have he := HEX.out.trans hp
        have s1 : (j : Int) + (l.size : Int) ≤ (w0.size : Int) := by omega
        have s2 : j + l.size ≤ w0.size := hlt
        clear hp
        generalize placeTo w0 l j = X at *
        have HNX := Lib.hid hn
        clear hn
        go_wp2_with fail
        go_roundw
        case rel => exact ⟨j + 1, by omega, by go_num, by rw [HNX.out]; exact HB.out⟩
        case measure => simp [intOf]; omega
      · have hn := HY.out hp
        have he := HEX.out.trans hp
        have s1 : (j : Int) + (l.size : Int) ≤ (w0.size : Int) := by omega
        have s2 : j + l.size ≤ w0.size := hlt
        clear hp
        generalize placeTo w0 l j = X at *
        have HNX := Lib.hid hn
        clear hn
        go_wp2_with (at_builtin; refine wpList_app1 rfl _ _ rfl Tryz.underlying45 Tryz.infoInt rfl (by decide) rfl HB.out rfl ?c1 ?c2 ?c3 ?c4 ?c5)
        case c2 => intro u hu; simp at hu; rw [hu]; rfl
        case c3 => unfold maxLen; omega
        case c4 => omega
        case c1 => rfl
        intro v4 w4 hb4
        have HB4 : Hid (Bld 3 1 w w4 v4 (placeTo w0 l (j + 1)).length (cellsL nV (placeTo w0 l (j + 1)))) := Lib.hid (by
          rw [HNX.out, List.length_append, cells_nV]; exact hb4)
        obtain ⟨a4, c4, hv4⟩ := owns_form HB4.out.1
        subst hv4
        clear hb4
        go_wp2_with fail
        go_roundw
        case rel => exact ⟨j + 1, by omega, by go_num, HB4.out⟩
        case measure => simp [intOf]; omega
    · have hd := HEND.out j (by omega) hj
      have F : Hid (RetSl 3 1 (placesF w0 l).length (cellsL nV (placesF w0 l)) w (.returned (.slice ao (placeTo w0 l j).length co)) wr) := Lib.hid (by
        rw [hd] at HB ⊢
        exact HB.out.ret)
      clear hd
      go_wp2_with fail
      go_ret
      exact F.out
set_option maxRecDepth 20000 in
set_option maxHeartbeats 1000000 in
theorem implPlacesOf_any (w0 l : ByteArray) (w : World) (hl : 0 < l.size) (hz : w0.size ≤ 1000) (hy : l.size ≤ 1000) :
    Calls Tryz.prog 163 #[.string w0, .string l] w (RetSl 3 1 (placesF w0 l).length (cellsL nV (placesF w0 l)) w) := by
  obtain ⟨p1, p2⟩ := full_facts (x := l) (by omega)
  have hb0 := alloc_belowS w (.cells #[] 3)
  have HB0 : Hid (Bld 3 1 w w (.slice none 0 0) (placeTo w0 l 0).length (cellsL nV (placeTo w0 l 0))) := Lib.hid (Bld.nil 3 1 (Below.refl _ _))
  have HEND := Lib.hid (fun j => placeTo_end (w := w0) (l := l) hl (j := j))
  clear hb0
  go_enter Tryz.func163, Tryz.ntmps163
  go_wp2_with fail
  go_loopw [5, 11] (fun vo vi wr => ∃ j : Nat, j ≤ w0.size ∧ vi = .int .i64 (j : Nat) ∧ Bld 3 1 w wr vo (placeTo w0 l j).length (cellsL nV (placeTo w0 l j))) (fun _ vi _ => w0.size - (intOf vi).toNat)
  case atStart => exact ⟨0, Nat.zero_le _, rfl, HB0.out⟩
  case round =>
    clear HB0
    obtain ⟨j, hj, rfl, hbd⟩ := hrel
    obtain ⟨ao, co, rfl⟩ := owns_form hbd.1
    have HB := Lib.hid hbd
    clear hbd
    have hlen := placeTo_len w0 l j
    by_cases hlt : j < w0.size
    · have h1 : j + l.size ≤ w0.size ∨ w0.size < j + l.size := by omega
      have HEX := Lib.hid (preAt_hp (w0 := w0) (l := l) (i := j))
      have HY := Lib.hid (fun h => placeTo_yes (w := w0) (l := l) (j := j) h)
      have HN := Lib.hid (fun h => placeTo_no (w := w0) (l := l) (j := j) h)
      clear h1
      cases hp : preAt w0 j l
      · have hn := HN.out hp
        have HC := Lib.hid (fun W => Tryz.strings_HasPrefix (w0.extract j w0.size) l W)
        rw [HEX.out, hp] at HC
        clear hp
        generalize placeTo w0 l j = X at *
        have HNX := Lib.hid hn
        clear hn
        go_wp2_with fail
        refine (HC.out _).mono ?_
        rintro e w2 ⟨rfl, rfl⟩
        go_wp2_with fail
        go_roundw
        case rel => exact ⟨j + 1, by omega, by go_num, by rw [HNX.out]; exact HB.out⟩
        case measure => simp [intOf]; omega
      · have hn := HY.out hp
        have HC := Lib.hid (fun W => Tryz.strings_HasPrefix (w0.extract j w0.size) l W)
        rw [HEX.out, hp] at HC
        clear hp
        generalize placeTo w0 l j = X at *
        have HNX := Lib.hid hn
        clear hn
        go_wp2_with fail
        refine (HC.out _).mono ?_
        rintro e w2 ⟨rfl, rfl⟩
        go_wp2_with (at_builtin; refine wpList_app1 rfl _ _ rfl Tryz.underlying45 Tryz.infoInt rfl (by decide) rfl HB.out rfl ?c1 ?c2 ?c3 ?c4 ?c5)
        case c2 => intro u hu; simp at hu; rw [hu]; rfl
        case c3 => unfold maxLen; omega
        case c4 => omega
        case c1 => rfl
        intro v4 w4 hb4
        have HB4 : Hid (Bld 3 1 w w4 v4 (placeTo w0 l (j + 1)).length (cellsL nV (placeTo w0 l (j + 1)))) := Lib.hid (by
          rw [HNX.out, List.length_append, cells_nV]; exact hb4)
        obtain ⟨a4, c4, hv4⟩ := owns_form HB4.out.1
        subst hv4
        clear hb4
        go_wp2_with fail
        go_roundw
        case rel => exact ⟨j + 1, by omega, by go_num, HB4.out⟩
        case measure => simp [intOf]; omega
    · have hd : placeTo w0 l j = placesF w0 l := by rw [show j = w0.size by omega]; rfl
      have F : Hid (RetSl 3 1 (placesF w0 l).length (cellsL nV (placesF w0 l)) w (.returned (.slice ao (placeTo w0 l j).length co)) wr) := Lib.hid (by
        rw [hd] at HB ⊢
        exact HB.out.ret)
      clear hd
      go_wp2_with fail
      go_ret
      exact F.out
theorem overTo_end {u v : ByteArray} {j : Nat} (h0 : 1 ≤ j) (h1 : j ≤ min u.size v.size ∨ j = 1) (h2 : ¬ j < min u.size v.size) : overTo u v j = overF u v := by
  unfold overF
  rcases h1 with h1 | rfl
  · rw [show j = min u.size v.size by omega]
  · have h3 : min u.size v.size = 0 ∨ min u.size v.size = 1 := by omega
    rcases h3 with h3 | h3
    · rw [h3]; rfl
    · rw [h3]
set_option maxRecDepth 20000 in
set_option maxHeartbeats 1000000 in
theorem specOverlapsOf_any (u v : ByteArray) (w : World) (hz : u.size ≤ 1000) (hy : v.size ≤ 1000) :
    Calls Tryz.prog 206 #[.string u, .string v] w (RetSl 3 1 (overF u v).length (cellsL nV (overF u v)) w) := by
  have HB0 : Hid (Bld 3 1 w (w.alloc (.cells #[] 3)) (.slice (some ⟨w.heap.size, 0, none⟩) 0 0) (overTo u v 1).length (cellsL nV (overTo u v 1))) := Lib.hid (Bld.empty 3 1 w)
  have HEND := Lib.hid (fun j => overTo_end (u := u) (v := v) (j := j))
  go_enter Tryz.func206, Tryz.ntmps206
  go_wp2_with fail
  go_loopw [5, 6] (fun vo vi wr => ∃ j : Nat, (1 ≤ j ∧ j ≤ 1001) ∧ (j ≤ min u.size v.size ∨ j = 1) ∧ vi = .int .i64 (j : Nat) ∧ Bld 3 1 w wr vo (overTo u v j).length (cellsL nV (overTo u v j))) (fun _ vi _ => 1002 - (intOf vi).toNat)
  case atStart => exact ⟨1, ⟨Nat.le_refl _, by omega⟩, .inr rfl, rfl, HB0.out⟩
  case round =>
    clear HB0
    obtain ⟨j, ⟨hj0, hj1⟩, hj2, rfl, hbd⟩ := hrel
    obtain ⟨ao, co, rfl⟩ := owns_form hbd.1
    have HB := Lib.hid hbd
    clear hbd
    have hlen := overTo_len u v j
    by_cases hlt : j < min u.size v.size
    · have HEX := Lib.hid (ovAt_ext (u := u) (v := v) (n := j))
      have HY := Lib.hid (fun h => overTo_yes (u := u) (v := v) (j := j) (by omega) h)
      have HN := Lib.hid (fun h => overTo_no (u := u) (v := v) (j := j) h)
      have hlu : j < u.size := by omega
      have hlv : j < v.size := by omega
      have hw : IntKind.i64.wrap ((u.size : Int) - (j : Int)) = ((u.size - j : Nat) : Int) := by rw [IntWalk.i64_in _ (by omega)]; omega
      have s1 : ((u.size - j : Nat) : Int) ≤ (u.size : Int) := by omega
      have s2 : u.size - j ≤ u.size := by omega
      have s3 : (j : Int) ≤ (v.size : Int) := by omega
      have s4 : j ≤ v.size := by omega
      have s5 : (j : Int) < (u.size : Int) := by omega
      have s6 : (j : Int) < (v.size : Int) := by omega
      cases hp : ovAt u v j
      · have HNX := Lib.hid (HN.out hp)
        have he := HEX.out.trans hp
        clear hp HY HN
        generalize overTo u v j = X at *
        go_wp2_with fail
        go_quiet (fail)
        have HB2 := Lib.hid (HB.out.later (below_drewN (Below.refl _ _) nq))
        go_wp2_with fail
        go_roundw
        case rel => exact ⟨j + 1, ⟨by omega, by omega⟩, .inl (by omega), by go_num, by rw [HNX.out]; exact HB2.out⟩
        case measure => simp [intOf]; omega
      · have HNX := Lib.hid (HY.out hp)
        have he := HEX.out.trans hp
        clear hp HY HN
        generalize overTo u v j = X at *
        go_wp2_with fail
        go_quiet (fail)
        have HB2 := Lib.hid (HB.out.later (below_drewN (Below.refl _ _) nq))
        go_wp2_with (at_builtin; refine wpList_app1 rfl _ _ rfl Tryz.underlying45 Tryz.infoInt rfl (by decide) rfl HB2.out rfl ?c1 ?c2 ?c3 ?c4 ?c5)
        case c2 => intro x hx; simp at hx; rw [hx]; rfl
        case c3 => unfold maxLen; omega
        case c4 => omega
        case c1 => rfl
        intro v4 w4 hb4
        have HB4 : Hid (Bld 3 1 w w4 v4 (overTo u v (j + 1)).length (cellsL nV (overTo u v (j + 1)))) := Lib.hid (by
          rw [HNX.out, List.length_append, cells_nV]; exact hb4)
        obtain ⟨a4, c4, hv4⟩ := owns_form HB4.out.1
        subst hv4
        clear hb4
        go_wp2_with fail
        go_roundw
        case rel => exact ⟨j + 1, ⟨by omega, by omega⟩, .inl (by omega), by go_num, HB4.out⟩
        case measure => simp [intOf]; omega
    · have hd := HEND.out j hj0 hj2 hlt
      have F : Hid (RetSl 3 1 (overF u v).length (cellsL nV (overF u v)) w (.returned (.slice ao (overTo u v j).length co)) wr) := Lib.hid (by
        rw [hd] at HB ⊢
        exact HB.out.ret)
      clear hd
      by_cases hu : j < u.size
      · have s5 : (j : Int) < (u.size : Int) := by omega
        have s6 : ¬ (j : Int) < (v.size : Int) := by omega
        go_wp2_with fail
        go_ret
        exact F.out
      · have s5 : ¬ (j : Int) < (u.size : Int) := by omega
        go_wp2_with fail
        go_ret
        exact F.out
set_option maxRecDepth 20000 in
set_option maxHeartbeats 1000000 in
theorem implOverlapsOf_any (u v : ByteArray) (w : World) (hz : u.size ≤ 1000) (hy : v.size ≤ 1000) :
    Calls Tryz.prog 164 #[.string u, .string v] w (RetSl 3 1 (overF u v).length (cellsL nV (overF u v)) w) := by
  have HB0 : Hid (Bld 3 1 w w (.slice none 0 0) (overTo u v 1).length (cellsL nV (overTo u v 1))) := Lib.hid (Bld.nil 3 1 (Below.refl _ _))
  have HEND := Lib.hid (fun j => overTo_end (u := u) (v := v) (j := j))
  go_enter Tryz.func164, Tryz.ntmps164
  go_wp2_with fail
  go_loopw [5, 6] (fun vo vi wr => ∃ j : Nat, (1 ≤ j ∧ j ≤ 1001) ∧ (j ≤ min u.size v.size ∨ j = 1) ∧ vi = .int .i64 (j : Nat) ∧ Bld 3 1 w wr vo (overTo u v j).length (cellsL nV (overTo u v j))) (fun _ vi _ => 1002 - (intOf vi).toNat)
  case atStart => exact ⟨1, ⟨Nat.le_refl _, by omega⟩, .inr rfl, rfl, HB0.out⟩
  case round =>
    clear HB0
    obtain ⟨j, ⟨hj0, hj1⟩, hj2, rfl, hbd⟩ := hrel
    obtain ⟨ao, co, rfl⟩ := owns_form hbd.1
    have HB := Lib.hid hbd
    clear hbd
    have hlen := overTo_len u v j
    by_cases hlt : j < min u.size v.size
    · have HEX := Lib.hid (ovAt_ext (u := u) (v := v) (n := j))
      have HY := Lib.hid (fun h => overTo_yes (u := u) (v := v) (j := j) (by omega) h)
      have HN := Lib.hid (fun h => overTo_no (u := u) (v := v) (j := j) h)
      have hlu : j < u.size := by omega
      have hlv : j < v.size := by omega
      have hw : IntKind.i64.wrap ((u.size : Int) - (j : Int)) = ((u.size - j : Nat) : Int) := by rw [IntWalk.i64_in _ (by omega)]; omega
      have s1 : ((u.size - j : Nat) : Int) ≤ (u.size : Int) := by omega
      have s2 : u.size - j ≤ u.size := by omega
      have s3 : (j : Int) ≤ (v.size : Int) := by omega
      have s4 : j ≤ v.size := by omega
      have s5 : (j : Int) < min (u.size : Int) (v.size : Int) := by omega
      cases hp : ovAt u v j
      · have HNX := Lib.hid (HN.out hp)
        have he := HEX.out.trans hp
        clear hp HY HN
        generalize overTo u v j = X at *
        go_wp2_with fail
        go_quiet (fail)
        have HB2 := Lib.hid (HB.out.later (below_drewN (Below.refl _ _) nq))
        go_wp2_with fail
        go_roundw
        case rel => exact ⟨j + 1, ⟨by omega, by omega⟩, .inl (by omega), by go_num, by rw [HNX.out]; exact HB2.out⟩
        case measure => simp [intOf]; omega
      · have HNX := Lib.hid (HY.out hp)
        have he := HEX.out.trans hp
        clear hp HY HN
        generalize overTo u v j = X at *
        go_wp2_with fail
        go_quiet (fail)
        have HB2 := Lib.hid (HB.out.later (below_drewN (Below.refl _ _) nq))
        go_wp2_with (at_builtin; refine wpList_app1 rfl _ _ rfl Tryz.underlying45 Tryz.infoInt rfl (by decide) rfl HB2.out rfl ?c1 ?c2 ?c3 ?c4 ?c5)
        case c2 => intro x hx; simp at hx; rw [hx]; rfl
        case c3 => unfold maxLen; omega
        case c4 => omega
        case c1 => rfl
        intro v4 w4 hb4
        have HB4 : Hid (Bld 3 1 w w4 v4 (overTo u v (j + 1)).length (cellsL nV (overTo u v (j + 1)))) := Lib.hid (by
          rw [HNX.out, List.length_append, cells_nV]; exact hb4)
        obtain ⟨a4, c4, hv4⟩ := owns_form HB4.out.1
        subst hv4
        clear hb4
        go_wp2_with fail
        go_roundw
        case rel => exact ⟨j + 1, ⟨by omega, by omega⟩, .inl (by omega), by go_num, HB4.out⟩
        case measure => simp [intOf]; omega
    · have hd := HEND.out j hj0 hj2 hlt
      have F : Hid (RetSl 3 1 (overF u v).length (cellsL nV (overF u v)) w (.returned (.slice ao (overTo u v j).length co)) wr) := Lib.hid (by
        rw [hd] at HB ⊢
        exact HB.out.ret)
      clear hd
      have s5 : ¬ (j : Int) < min (u.size : Int) (v.size : Int) := by omega
      go_wp2_with fail
      go_ret
      exact F.out
end Go.Proofs.YtgoeadgpbidgiaaGreatDoor
namespace Go.Proofs.YtgoeadgpbidgiaaGreatDoor
open Go.RowKit Go.ChangeShapes Go.WideShapes Go.ChangeAt Go.Joins Go.Deep
set_option linter.unusedVariables false
theorem Tryz.infoRule : (Tryz.prog.info? 39).map (fun i => (i.zero, i.size, i.bytes)) = some (some (.agg #[.string ⟨#[]⟩, .string ⟨#[]⟩]), 2, 32) := by kernel_rfl
end Go.Proofs.YtgoeadgpbidgiaaGreatDoor
