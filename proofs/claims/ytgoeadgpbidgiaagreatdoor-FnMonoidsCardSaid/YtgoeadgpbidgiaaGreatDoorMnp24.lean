/-
  Works of the reference: WorkOk, l06Copy.
-/
import Derived.Test.YtgoeadgpbidgiaaGreatDoorMnp22
import Derived.Test.YtgoeadgpbidgiaaGreatDoorMnp17
import Derived.Test.YtgoeadgpbidgiaaGreatDoorMnp09
import Derived.Test.YtgoeadgpbidgiaaGreatDoorMnp06
import Derived.Test.YtgoeadgpbidgiaaGreatDoorMnp03
import Derived.Deep.AppendSrc
import Derived.Test.YtgoeadgpbidgiaaGreatDoorMnp13
import Derived.Test.YtgoeadgpbidgiaaGreatDoorMnp18
import Derived.IntWalk
namespace Go.Proofs.YtgoeadgpbidgiaaGreatDoor
open Go.RowKit
set_option linter.unusedVariables false
def hyB : ByteArray := ⟨#[45]⟩
/-- the word of a list of letters' numbers, and the list's rank -/
def wdN (ys : List Nat) : ByteArray := ys.foldl (fun u y => u ++ letterN y) ⟨#[]⟩
def rkN (ys : List Nat) : Nat := ys.foldl (fun a y => 5 * a + y + 1) 0
theorem wdN_snoc (ys : List Nat) (y : Nat) : wdN (ys ++ [y]) = wdN ys ++ letterN y := by unfold wdN; rw [List.foldl_append]; rfl
theorem rkN_snoc (ys : List Nat) (y : Nat) : rkN (ys ++ [y]) = 5 * rkN ys + y + 1 := by unfold rkN; rw [List.foldl_append]; rfl
theorem wdN_fold : ∀ (ys : List Nat) (u : ByteArray), (ys.foldl (fun u y => u ++ letterN y) u).data.toList = u.data.toList ++ ys.map lt97
  | [], u => by simp
  | y :: ys, u => by
    rw [List.foldl_cons, wdN_fold ys, app_lt, List.map_cons, List.append_assoc]; rfl
theorem wdN_list (ys : List Nat) : (wdN ys).data.toList = ys.map lt97 := by unfold wdN; rw [wdN_fold]; rfl
theorem wdN_size (ys : List Nat) : (wdN ys).size = ys.length := by
  have h : (wdN ys).data.toList.length = (wdN ys).size := rfl
  rw [wdN_list, List.length_map] at h
  exact h.symm
theorem lt97_num {y : Nat} (h : y < 4) : (lt97 y).toNat = 97 + y := by unfold lt97; simp; omega
theorem wdN_ne (ys : List Nat) (h : ∀ y ∈ ys, y < 4) : wdN ys ≠ hyB := fun e => by
  have h2 := congrArg (fun u : ByteArray => u.data.toList) e
  simp only [wdN_list] at h2
  have h3 : hyB.data.toList = [45] := rfl
  rw [h3] at h2
  cases ys with
  | nil => cases h2
  | cons y ys =>
    rw [List.map_cons] at h2
    have h4 := (List.cons.inj h2).1
    have h5 := lt97_num (h y List.mem_cons_self)
    rw [h4] at h5
    have : (45 : UInt8).toNat = 45 := rfl
    omega
theorem rk_wdN_fold : ∀ (ys : List Nat) (a : Nat) (v : List UInt8), (∀ y ∈ ys, y < 4) → a = rk v → ys.foldl (fun a y => 5 * a + y + 1) a = rk (v ++ ys.map lt97)
  | [], a, v, _, e => by simp [e]
  | y :: ys, a, v, h, e => by
    have h5 := lt97_num (h y List.mem_cons_self)
    rw [List.foldl_cons, List.map_cons]
    rw [rk_wdN_fold ys (5 * a + y + 1) (v ++ [lt97 y]) (fun z hz => h z (List.mem_cons_of_mem _ hz)) ?_]
    · rw [List.append_assoc]; rfl
    · rw [rk_app, e, rk_cons, h5]
      have : rk [] = 0 := rfl
      simp only [List.length_nil, List.length_cons, Nat.zero_add, Nat.pow_one, Nat.pow_zero, Nat.mul_one, this]
      omega
theorem rk_wdN {ys : List Nat} (h : ∀ y ∈ ys, y < 4) : rk (wdN ys).data.toList = rkN ys := by
  rw [wdN_list]
  exact (rk_wdN_fold ys 0 [] h rfl).symm
/-- the step of a letter -/
def nxT (m : Nat) (ln zn : List Nat) (d y : Nat) : Nat := tm m ln d (zn.getD y 0)
theorem val_wdN_fold (m : Nat) (ln zn : List Nat) : ∀ (ys : List Nat) (x : Nat), (∀ y ∈ ys, y < 4) → (ys.map lt97).foldl (fun x c => tm m ln x (imN zn c)) x = ys.foldl (nxT m ln zn) x
  | [], x, _ => rfl
  | y :: ys, x, h => by
    have h5 := lt97_num (h y List.mem_cons_self)
    have e : imN zn (lt97 y) = zn.getD y 0 := by unfold imN; rw [h5, Nat.add_sub_cancel_left]
    rw [List.map_cons, List.foldl_cons, List.foldl_cons, e]
    exact val_wdN_fold m ln zn ys _ (fun z hz => h z (List.mem_cons_of_mem _ hz))
theorem val_wdN (m : Nat) (ln zn : List Nat) {ys : List Nat} (h : ∀ y ∈ ys, y < 4) : valF m ln zn (wdN ys) = ys.foldl (nxT m ln zn) 0 := by
  have e : valF m ln zn (wdN ys) = (wdN ys).data.toList.foldl (fun x c => tm m ln x (imN zn c)) 0 := by
    have e2 : (wdN ys).data.toList.take (wdN ys).size = (wdN ys).data.toList := List.take_of_length_le (Nat.le_of_eq rfl)
    unfold valF valTo
    rw [e2]
  rw [e, wdN_list]
  exact val_wdN_fold m ln zn ys 0 h
/-- a search under way: S the words told, D done, Q waiting, j letters done with the first of Q -/
def ShP (m : Nat) (ln zn : List Nat) (S : List ByteArray) (D Q : List Nat) (j : Nat) : Prop :=
  ∃ O : Nat → List Nat, S.length = m ∧ BfsP rkN (fun u y => u ++ [y]) [] (nxT m ln zn) zn.length O D Q j ∧ (∀ v ∈ D ++ Q, v < m) ∧ (∀ v ∈ D ++ Q, nthS S v = wdN (O v)) ∧ ∀ v, v < m → v ∉ D ++ Q → nthS S v = hyB
theorem foldl_snoc : ∀ (ys u : List Nat), ys.foldl (fun u y => u ++ [y]) u = u ++ ys
  | [], u => by simp
  | y :: ys, u => by rw [List.foldl_cons, foldl_snoc]; simp
section
variable {m : Nat} {ln zn : List Nat} {S : List ByteArray} {D Q : List Nat} {j : Nat}
theorem ShP.let (h : ShP m ln zn S D Q j) (hz4 : zn.length ≤ 4) {v : Nat} (hv : v ∈ D ++ Q) : ∃ ys : List Nat, (∀ y ∈ ys, y < zn.length) ∧ nthS S v = wdN ys ∧ ys.foldl (nxT m ln zn) 0 = v ∧ ys.length < (D ++ Q).length := by
  obtain ⟨O, h1, h2, h3, h4, h5⟩ := h
  obtain ⟨i, hi, rfl⟩ := List.getElem_of_mem hv
  obtain ⟨ys, a1, a2, a3, a4⟩ := h2.way i hi
  rw [foldl_snoc, List.nil_append] at a2
  exact ⟨ys, a1, by rw [h4 _ (List.getElem_mem hi), a2], a3, by omega⟩
theorem ShP.few (h : ShP m ln zn S D Q j) : (D ++ Q).length ≤ m := by
  obtain ⟨O, h1, h2, h3, h4, h5⟩ := h
  exact nodup_bound m _ h2.nd h3
theorem ShP.hy (h : ShP m ln zn S D Q j) (hz4 : zn.length ≤ 4) {v : Nat} (hv : v < m) : v ∈ D ++ Q ↔ nthS S v ≠ hyB := by
  constructor
  · intro hm
    obtain ⟨ys, a1, a2, _⟩ := h.let hz4 hm
    rw [a2]
    exact wdN_ne ys (fun y hy => by have := a1 y hy; omega)
  · intro hn
    obtain ⟨O, h1, h2, h3, h4, h5⟩ := h
    exact Classical.byContradiction fun hc => hn (h5 v hv hc)
theorem ShP.size (h : ShP m ln zn S D Q j) (hz4 : zn.length ≤ 4) (hm : m ≤ 40) (v : Nat) (hv : v < m) : (nthS S v).size ≤ 40 := by
  by_cases hc : v ∈ D ++ Q
  · obtain ⟨ys, a1, a2, a3, a4⟩ := h.let hz4 hc
    have := h.few
    rw [a2, wdN_size]; omega
  · obtain ⟨O, h1, h2, h3, h4, h5⟩ := h
    rw [h5 v hv hc]
    exact (by decide : hyB.size ≤ 40)
theorem nthS_set_same {S : List ByteArray} {v : Nat} (x : ByteArray) (h : v < S.length) : nthS (S.set v x) v = x := by
  rw [nthS_lt (by rw [List.length_set]; exact h)]
  simp
theorem nthS_set_ne {S : List ByteArray} {v i : Nat} (x : ByteArray) (h : i ≠ v) : nthS (S.set v x) i = nthS S i := by
  unfold nthS
  simp [List.getD_eq_getElem?_getD, h.symm]
theorem ShP.start (hm : 1 ≤ m) : ShP m ln zn ((List.replicate m hyB).set 0 ⟨#[]⟩) [] [0] 0 := by
  refine ⟨fun _ => [], by simp, BfsP.start rfl, fun v hv => ?_, fun v hv => ?_, fun v hv hn => ?_⟩
  · have : v = 0 := by simpa using hv
    omega
  · obtain rfl : v = 0 := by simpa using hv
    exact nthS_set_same _ (by simp; omega)
  · have h0 : v ≠ 0 := by simpa using hn
    rw [nthS_set_ne _ h0, nthS_lt (by simpa using hv)]
    simp
theorem ShP.head (h : ShP m ln zn S D Q j) {q : Nat} (hq : Q.head? = some q) : q < m := by
  obtain ⟨O, h1, h2, h3, h4, h5⟩ := h
  exact h3 q (List.mem_append.2 (.inr (List.mem_of_mem_head? hq)))
theorem ShP.old (h : ShP m ln zn S D Q j) (hz4 : zn.length ≤ 4) {q : Nat} (hq : Q.head? = some q) (hlt : nxT m ln zn q j < m) (hm : nthS S (nxT m ln zn q j) ≠ hyB) : ShP m ln zn S D Q (j + 1) := by
  have hmem := (h.hy hz4 hlt).2 hm
  obtain ⟨O, h1, h2, h3, h4, h5⟩ := h
  exact ⟨O, h1, h2.old rkN_snoc rfl hz4 hq hmem, h3, h4, h5⟩
theorem ShP.new (h : ShP m ln zn S D Q j) (hz4 : zn.length ≤ 4) (hj : j < zn.length) {q : Nat} (hq : Q.head? = some q) (hlt : nxT m ln zn q j < m) (hm : nthS S (nxT m ln zn q j) = hyB) :
    ShP m ln zn (S.set (nxT m ln zn q j) (nthS S q ++ letterN j)) D (Q ++ [nxT m ln zn q j]) (j + 1) := by
  have hmem : nxT m ln zn q j ∉ D ++ Q := fun hc => (h.hy hz4 hlt).1 hc hm
  obtain ⟨O, h1, h2, h3, h4, h5⟩ := h
  have hqm : q ∈ D ++ Q := List.mem_append.2 (.inr (List.mem_of_mem_head? hq))
  have ea : ∀ v, v ∈ D ++ (Q ++ [nxT m ln zn q j]) ↔ v ∈ D ++ Q ∨ v = nxT m ln zn q j := fun v => by rw [← List.append_assoc, List.mem_append (s := D ++ Q), List.mem_singleton]
  refine ⟨putO O (nxT m ln zn q j) (O q ++ [j]), by rw [List.length_set]; exact h1, h2.new rkN_snoc rfl hz4 hj hq hmem, fun v hv => ?_, fun v hv => ?_, fun v hv hn => ?_⟩
  · rcases (ea v).1 hv with h6 | rfl
    · exact h3 v h6
    · exact hlt
  · rcases (ea v).1 hv with h6 | rfl
    · have hne : v ≠ nxT m ln zn q j := fun e => hmem (e ▸ h6)
      rw [nthS_set_ne _ hne, putO_ne _ hne]
      exact h4 v h6
    · rw [nthS_set_same _ (by rw [h1]; exact hlt), putO_at, wdN_snoc, h4 q hqm]
  · have h6 : ¬ (v ∈ D ++ Q ∨ v = nxT m ln zn q j) := fun hc => hn ((ea v).2 hc)
    rw [nthS_set_ne _ (fun e => h6 (.inr e))]
    exact h5 v hv (fun hc => h6 (.inl hc))
theorem ShP.next {q : Nat} {Qt : List Nat} (h : ShP m ln zn S D (q :: Qt) zn.length) : ShP m ln zn S (D ++ [q]) Qt 0 := by
  obtain ⟨O, h1, h2, h3, h4, h5⟩ := h
  have ea : (D ++ [q]) ++ Qt = D ++ q :: Qt := by simp
  exact ⟨O, h1, h2.next rfl rfl, by rw [ea]; exact h3, by rw [ea]; exact h4, by rw [ea]; exact h5⟩
end
/-- the least words of all elements -/
structure ShortP (m : Nat) (ln zn : List Nat) (S : List ByteArray) : Prop where
  len : S.length = m
  none : ∀ i, i < m → nthS S i = hyB → ∀ zs : List Nat, (∀ z ∈ zs, z < zn.length) → zs.foldl (nxT m ln zn) 0 ≠ i
  some : ∀ i, i < m → nthS S i ≠ hyB → ∃ ys : List Nat, (∀ y ∈ ys, y < zn.length) ∧ ys.length < m ∧ nthS S i = wdN ys ∧ ys.foldl (nxT m ln zn) 0 = i ∧ ∀ zs : List Nat, (∀ z ∈ zs, z < zn.length) → zs.foldl (nxT m ln zn) 0 = i → rkN ys ≤ rkN zs
theorem ShP.done {m : Nat} {ln zn : List Nat} {S : List ByteArray} {D : List Nat} {j : Nat} (h : ShP m ln zn S D [] j) (hz4 : zn.length ≤ 4) : ShortP m ln zn S := by
  have hfew := h.few
  have hmem := fun v hv => h.hy (v := v) hz4 hv
  obtain ⟨O, h1, h2, h3, h4, h5⟩ := h
  have hd := h2.done rkN_snoc
  rw [List.append_nil] at hfew
  refine ⟨h1, fun i hi hn zs hzs e => ?_, fun i hi hn => ?_⟩
  · obtain ⟨a, _⟩ := hd zs hzs
    rw [e] at a
    exact (hmem i hi).1 (by rw [List.append_nil]; exact a) hn
  · have hm := (hmem i hi).2 hn
    obtain ⟨p, hp, e⟩ := List.getElem_of_mem hm
    obtain ⟨ys, a1, a2, a3, a4⟩ := h2.way p hp
    rw [foldl_snoc, List.nil_append] at a2
    rw [e] at a2 a3
    have hp2 : p < D.length := by simpa using hp
    refine ⟨ys, a1, by omega, by rw [h4 i hm, a2], a3, fun zs hzs ez => ?_⟩
    obtain ⟨_, b⟩ := hd zs hzs
    rw [ez, foldl_snoc, List.nil_append, a2] at b
    exact b
end Go.Proofs.YtgoeadgpbidgiaaGreatDoor
namespace Go.Proofs.YtgoeadgpbidgiaaGreatDoor
open Go.RowKit
set_option linter.unusedVariables false
/-- a slice of n elements somewhere in a block from base on -/
def ownsOff (w : World) (base : Nat) (T : TypeId) (size : Nat) (v : Value) (n : Nat) (xs : List Value) : Prop :=
  xs.length = n * size ∧ ((v = .slice none 0 0 ∧ n = 0) ∨ ∃ g o cap cur, v = .slice (some ⟨g, o, none⟩) n cap ∧ base ≤ g ∧ w.heap[g]? = some (.cells cur T (0, 0)) ∧ n ≤ cap ∧ cap ≤ maxLen ∧ o + cap * size ≤ cur.size ∧ (cur.toList.drop o).take (n * size) = xs)
section
variable {w : World} {base : Nat} {T : TypeId} {size : Nat} {v : Value} {n : Nat} {xs : List Value}
theorem ownsOff.of_row (h : w.ownsRow base T size v n xs) : ownsOff w base T size v n xs := by
  refine ⟨h.1, ?_⟩
  rcases h.2 with h' | ⟨g, cap, cur, hv, hb, hg, hn, hc, hs, ht⟩
  · exact .inl h'
  · exact .inr ⟨g, 0, cap, cur, hv, hb, hg, hn, hc, by omega, by rw [List.drop_zero]; exact ht⟩
theorem ownsOff.form (h : ownsOff w base T size v n xs) : ∃ a cap, v = .slice a n cap := by
  rcases h.2 with ⟨hv, h0⟩ | ⟨g, o, cap, cur, hv, _⟩
  · exact ⟨none, 0, by rw [hv, h0]⟩
  · exact ⟨_, _, hv⟩
theorem ownsOff.lt (h : ownsOff w base T size v n xs) : ∀ k, v.ownBlock = some k → base ≤ k ∧ k < w.heap.size := by
  intro k hk
  rcases h.2 with ⟨rfl, _⟩ | ⟨g, o, cap, cur, rfl, hb, hg, _⟩
  · simp [Value.ownBlock] at hk
  · simp [Value.ownBlock] at hk
    subst hk
    exact ⟨hb, (Array.getElem?_eq_some_iff.1 hg).1⟩
theorem ownsOff.kept {w' : World} {row : Option Nat} (h : ownsOff w base T size v n xs) (hg : w.grownBy w' row) (hne : v.ownBlock = none ∨ v.ownBlock ≠ row) : ownsOff w' base T size v n xs := by
  refine ⟨h.1, ?_⟩
  rcases h.2 with hn | ⟨g, o, cap, cur, rfl, hb, hgg, rest⟩
  · exact .inl hn
  · refine .inr ⟨g, o, cap, cur, rfl, hb, ?_, rest⟩
    rw [hg.block g (Array.getElem?_eq_some_iff.1 hgg).1 (by simpa [Value.ownBlock] using hne)]
    exact hgg
theorem ownsOff.later {w' : World} (h : ownsOff w base T size v n xs) (hb : Below w.heap.size w w') : ownsOff w' base T size v n xs :=
  h.kept (row := none) ⟨hb.os, hb.tape, hb.output, hb.size, fun k hk _ => hb.block k hk⟩ (by cases h : v.ownBlock <;> simp)
theorem ownsOff.cellAt {g o cap : Nat} (h : ownsOff w base T size (.slice (some ⟨g, o, none⟩) n cap) n xs) : ∀ j u, xs[j]? = some u → w.cell? ⟨g, o + j, none⟩ = some u := by
  intro j u hu
  rcases h.2 with ⟨hv, _⟩ | ⟨g', o', cap', cur, hv, _, hgg, _, _, _, ht⟩
  · simp at hv
  · simp only [Value.slice.injEq, Option.some.injEq, Addr.mk.injEq] at hv
    obtain ⟨⟨rfl, rfl, _⟩, _, rfl⟩ := hv
    rw [cell_of_row w g _ cur T (0, 0) hgg]
    rw [← ht, List.getElem?_take] at hu
    split at hu
    · rw [List.getElem?_drop] at hu
      simpa using hu
    · cases hu
theorem ownsOff.cells {a : Option Addr} {cap : Nat} (h : ownsOff w base T size (.slice a n cap) n xs) : CellsIn w a xs := by
  rcases h.2 with ⟨hv, h0⟩ | ⟨g, o, cap', cur, hv, _⟩
  · exact .inl (List.eq_nil_of_length_eq_zero (by rw [h.1, h0, Nat.zero_mul]))
  · simp only [Value.slice.injEq] at hv
    obtain ⟨rfl, _, rfl⟩ := hv
    refine .inr ⟨g, o, rfl, fun i hi => ?_⟩
    exact h.cellAt i _ (List.getElem?_eq_getElem hi)
/-- all but the first element -/
theorem ownsOff.tail {g o cap : Nat} {x : List Value} (h : ownsOff w base T size (.slice (some ⟨g, o, none⟩) (n + 1) cap) (n + 1) (x ++ xs)) (hx : x.length = size) : ownsOff w base T size (.slice (some ⟨g, o + size, none⟩) n (cap - 1)) n xs := by
  have h1 := h.1
  rw [List.length_append, hx, Nat.succ_mul] at h1
  refine ⟨by omega, ?_⟩
  rcases h.2 with ⟨hv, _⟩ | ⟨g', o', cap', cur, hv, hb, hgg, hn, hc, hs, ht⟩
  · simp at hv
  · simp only [Value.slice.injEq, Option.some.injEq, Addr.mk.injEq] at hv
    obtain ⟨⟨rfl, rfl, _⟩, _, rfl⟩ := hv
    obtain ⟨c, rfl⟩ : ∃ c, cap = c + 1 := ⟨cap - 1, by omega⟩
    rw [Nat.succ_mul] at hs
    refine .inr ⟨g, o + size, c, cur, by rw [Nat.add_sub_cancel], hb, hgg, by omega, by omega, by omega, ?_⟩
    rw [← List.drop_drop]
    have h2 : ((cur.toList.drop o).take ((n + 1) * size)).drop size = xs := by rw [ht, ← hx, List.drop_left]
    rw [List.drop_take] at h2
    rw [← h2]
    congr 1
    rw [Nat.succ_mul]
    omega
/-- nothing of a slice of one element -/
theorem ownsOff.none_left {g o cap : Nat} {x : List Value} (h : ownsOff w base T size (.slice (some ⟨g, o, none⟩) 1 cap) 1 x) : ownsOff w base T size (.slice (some ⟨g, o, none⟩) 0 0) 0 [] := by
  refine ⟨by simp, ?_⟩
  rcases h.2 with ⟨hv, _⟩ | ⟨g', o', cap', cur, hv, hb, hgg, hn, hc, hs, ht⟩
  · simp at hv
  · simp only [Value.slice.injEq, Option.some.injEq, Addr.mk.injEq] at hv
    obtain ⟨⟨rfl, rfl, _⟩, _, rfl⟩ := hv
    exact .inr ⟨g, o, 0, cur, rfl, hb, hgg, Nat.le_refl _, Nat.zero_le _, by omega, by simp⟩
end
section
variable {P : Program}
theorem src_of {w : World} {x : Value} {m size : Nat} {news : List Value} {tx e' : TypeId} (hk : P.underlying tx = some (.slice e')) (h : Src w x m news) (hl : news.length = m * size) (h1 : ∀ u ∈ news, u.oneCell' = true) : Go.Src P size tx x m news w := by
  rcases h with ⟨rfl, rfl, rfl⟩ | ⟨ad, c, rfl, hc⟩
  · exact Go.Src.ofNil w hk 0
  · exact Go.Src.ofSlice w hk ad m c news hl hc h1
theorem run_append_off {tsl ty T : TypeId} {z : Value} {size bytes : Nat} (ht : P.underlying tsl = some (.slice T)) (hinfo : (P.info? T).map (fun i => (i.zero, i.size, i.bytes)) = some (some z, size, bytes))
    (hzs : z.cells.size = size) (hpos : 0 < size) {w : World} {base : Nat} {v x : Value} {n m : Nat} {xs news : List Value} (hb : ownsOff w base T size v n xs) (hbase : base ≤ w.heap.size) (hS : Go.Src P size tsl x m news w) (h63 : n + m ≤ maxLen) (hbytes : (n + m) * bytes ≤ 140737488355328) :
    ∃ v' w', (Builtin.append_ #[tsl, tsl] ty #[v, x]).run P w = .ok v' w' ∧ ownsOff w' base T size v' (n + m) (xs ++ news) ∧ w.grownBy w' v.ownBlock := by
  have hn := hS.newsLen
  have h1 := hS.one
  obtain ⟨i, hi, hz, hsize, hby⟩ := info_parts hinfo
  subst hsize
  subst hby
  have hlen : (xs ++ news).length = (n + m) * i.size := by rw [List.length_append, hb.1, hn, Nat.add_mul]
  have h63' : ((n + m : Nat) : Int) ≤ 9223372036854775807 := by simp only [maxLen] at h63; omega
  have grown : ∀ (base0 : Option Addr) (cap : Nat), cap < n + m → (Builtin.firstCells i.size n (.slice base0 n cap)).run P w.drew = .ok xs.toArray w.drew → ∀ row,
      ∃ v' w', (Builtin.append_ #[tsl, tsl] ty #[.slice base0 n cap, x]).run P w = .ok v' w' ∧ ownsOff w' base T i.size v' (n + m) (xs ++ news) ∧ w.grownBy w' row := by
    intro base0 cap hg hold row
    have hr := run_append_grow_src (P := P) w tsl tsl ty T i z ht hi hz base0 n cap xs hold x m news hS hg h63' (growslice_fits hg hbytes)
    have hge := grownCap_ge w (n + m) cap T
    have hcm : grownCap w (n + m) cap T ≤ maxLen := grownCap_le_maxLen w (n + m) cap T h63
    refine ⟨_, _, hr, ownsOff.of_row ⟨hlen, .inr ⟨w.heap.size, _, _, rfl, hbase, heap_alloc_new w.drew _, hge, hcm, ?_, ?_⟩⟩, ⟨rfl, rfl, rfl, by simp, fun k hk _ => heap_alloc_old w.drew _ hk⟩⟩
    · simp only [Array.size_append, List.size_toArray, size_zeroCells, hzs, hlen, ← Nat.add_mul]
      congr 1
      omega
    · simp only [Array.toList_append, List.append_assoc]
      rw [← List.append_assoc, ← hlen]
      exact List.take_left
  rcases hb.2 with ⟨rfl, rfl⟩ | ⟨g, o, cap, cur, rfl, hbg, hg, hnc, hcm, hcs, htake⟩
  · have hxs : xs = [] := List.eq_nil_of_length_eq_zero (by simpa using hb.1)
    subst hxs
    by_cases hm : m = 0
    · subst hm
      have hnn : news = [] := List.eq_nil_of_length_eq_zero (by simpa using hn)
      subst hnn
      refine ⟨.slice none 0 0, w, ?_, hb, ⟨rfl, rfl, rfl, Nat.le_refl _, fun _ _ _ => rfl⟩⟩
      simp [Builtin.append_, run_underlying ht, sizeOf, typeInfo, hi, hS.len, hS.cells]
    · refine grown none 0 (by omega) ?_ _
      simp [Builtin.firstCells]
  · by_cases hroom : n + m ≤ cap
    · have hfit : o + n * i.size + news.length ≤ cur.size := by
        rw [hn, Nat.add_assoc, ← Nat.add_mul]
        exact Nat.le_trans (Nat.add_le_add_left (Nat.mul_le_mul_right _ hroom) _) hcs
      have hst := run_storeCells_at P g (o + n * i.size) T news 0 cur w hg (by simpa using hfit) h1
      simp only [Nat.add_zero] at hst
      have hr : (Builtin.append_ #[tsl, tsl] ty #[.slice (some ⟨g, o, none⟩) n cap, x]).run P w = .ok (.slice (some ⟨g, o, none⟩) (n + m) cap) (w.setRow g (cur.toList.take (o + n * i.size) ++ news ++ cur.toList.drop (o + n * i.size + news.length)).toArray) := by
        simp [Builtin.append_, run_underlying ht, sizeOf, typeInfo, hi, hS.len, hroom, hS.cells, Addr.add_lit, hst]
      refine ⟨_, _, hr, ⟨hlen, .inr ⟨g, o, cap, _, rfl, hbg, setRow_heap w g cur _ T _ hg, hroom, hcm, ?_, ?_⟩⟩, ⟨rfl, rfl, rfl, by simp, fun k _ hk => setRow_other w g k _ (fun e => hk (by simp [Value.ownBlock, e]))⟩⟩
      · simp only [List.size_toArray, List.length_append, List.length_take, List.length_drop, Array.length_toList]
        omega
      · have e1 : (cur.toList.take (o + n * i.size)).drop o = xs := by rw [List.drop_take, Nat.add_sub_cancel_left, htake]
        have e2 : (cur.toList.take (o + n * i.size)).length = o + n * i.size := by rw [List.length_take, Array.length_toList]; omega
        have e3 : ((cur.toList.take (o + n * i.size) ++ news ++ cur.toList.drop (o + n * i.size + news.length)).toArray.toList).drop o = xs ++ news ++ cur.toList.drop (o + n * i.size + news.length) := by
          show (cur.toList.take (o + n * i.size) ++ news ++ cur.toList.drop (o + n * i.size + news.length)).drop o = _
          rw [List.append_assoc, List.drop_append_of_le_length (by omega), e1, List.append_assoc]
        rw [e3, ← hlen]
        exact List.take_left
    · refine grown (some ⟨g, o, none⟩) cap (by omega) ?_ _
      have hc := hb.cellAt
      have := run_firstCells_some (P := P) w.drew i.size n ⟨g, o, none⟩ n cap xs hb.1 (fun j u hu => by rw [add_off]; simpa using hc j u hu)
      exact this
theorem wpList_append_off {ops : Array Oper} {rest : List Oper} {o : Oper} {a : Act} {Q : Exit → Act → World → Prop} {T tsl : TypeId} {z : Value} {size bytes : Nat} (hgd : o.guard = none) (s x : Operand)
    (ho : o.op = .call { callee := .builtin .append, args := #[s, x], argTypes := #[tsl, tsl] }) (ht : P.underlying tsl = some (.slice T)) (hinfo : (P.info? T).map (fun i => (i.zero, i.size, i.bytes)) = some (some z, size, bytes))
    (hzs : z.cells.size = size) (hpos : 0 < size) {w : World} {base : Nat} {v u : Value} {n m : Nat} {xs news : List Value} (hs : a.eval s = v) (hb : ownsOff w base T size v n xs) (hbase : base ≤ w.heap.size) (hx : a.eval x = u) (hsrc : Go.Src P size tsl u m news w) (h63 : n + m ≤ maxLen) (hbytes : (n + m) * bytes ≤ 140737488355328)
    (hK : ∀ v' w', ownsOff w' base T size v' (n + m) (xs ++ news) → w.grownBy w' v.ownBlock → wpList P ops Q rest (a.put o.dst v') w') : wpList P ops Q (o :: rest) a w := by
  refine wpList_plain hgd fun K hK' => ?_
  obtain ⟨v', w', hr, h2, h3⟩ := run_append_off (P := P) (ty := o.type) ht hinfo hzs hpos hb hbase hsrc h63 hbytes
  unfold Oper.wp
  simp [execOp, ho, resolve, invoke, builtin, hs, hx, hr, Result.andThen]
  exact hK' _ _ (hK v' w' h2 h3)
theorem step_append_off {ops : Array Oper} {o : Oper} {a : Act} {K : Act → World → Prop} {Q : Exit → Act → World → Prop} {E : Prop} {T tsl : TypeId} {z : Value} {size bytes : Nat} (hgd : o.guard = none) (s x : Operand)
    (ho : o.op = .call { callee := .builtin .append, args := #[s, x], argTypes := #[tsl, tsl] }) (ht : P.underlying tsl = some (.slice T)) (hinfo : (P.info? T).map (fun i => (i.zero, i.size, i.bytes)) = some (some z, size, bytes))
    (hzs : z.cells.size = size) (hpos : 0 < size) {w : World} {base : Nat} {v u : Value} {n m : Nat} {xs news : List Value} (hs : a.eval s = v) (hb : ownsOff w base T size v n xs) (hbase : base ≤ w.heap.size) (hx : a.eval x = u) (hsrc : Go.Src P size tsl u m news w) (h63 : n + m ≤ maxLen) (hbytes : (n + m) * bytes ≤ 140737488355328)
    (hK : ∀ v' w', ownsOff w' base T size v' (n + m) (xs ++ news) → w.grownBy w' v.ownBlock → K (a.put o.dst v') w') : if Region.wanted o (yielded ops a.tmps) = true then Oper.wp P o a w K Q else E := by
  have hw : Region.wanted o (yielded ops a.tmps) = true := by simp [Region.wanted, hgd]
  rw [if_pos hw]
  obtain ⟨v', w', hr, h2, h3⟩ := run_append_off (P := P) (ty := o.type) ht hinfo hzs hpos hb hbase hsrc h63 hbytes
  unfold Oper.wp
  simp [execOp, ho, resolve, invoke, builtin, hs, hx, hr, Result.andThen]
  exact hK v' w' h2 h3
end
end Go.Proofs.YtgoeadgpbidgiaaGreatDoor
namespace Go.Proofs.YtgoeadgpbidgiaaGreatDoor
open Go.RowKit
set_option linter.unusedVariables false
/-- the value of a work -/
def workVal (k : Int) (aR : Option Addr) (nR cR : Nat) (aQ : Option Addr) (nQ cQ : Nat) (T : Nat) : Value := .agg #[.int .i64 k, .slice aR nR cR, .slice aQ nQ cQ, .int .i64 (T : Nat)]
theorem box_four {W : World} {T : TypeId} {a b c d : Value} {W2 : World} (hb : Below (W.alloc (.cells #[a, b, c, d] T)).heap.size (W.alloc (.cells #[a, b, c, d] T)) W2) :
    (W2.cell? ⟨W.heap.size, 0, none⟩ = some a ∧ W2.cell? ⟨W.heap.size, 1, none⟩ = some b ∧ W2.cell? ⟨W.heap.size, 2, none⟩ = some c ∧ W2.cell? ⟨W.heap.size, 3, none⟩ = some d) ∧
    W2.frozen? ⟨W.heap.size, 0, none⟩ = false ∧ W2.frozen? ⟨W.heap.size, 1, none⟩ = false ∧ W2.frozen? ⟨W.heap.size, 2, none⟩ = false ∧ W2.frozen? ⟨W.heap.size, 3, none⟩ = false := by
  have h := (hb.block W.heap.size (by simp)).trans (alloc_at W _)
  refine ⟨⟨?_, ?_, ?_, ?_⟩, ?_, ?_, ?_, ?_⟩ <;> simp [World.cell?, World.frozen?, h]
theorem ruleCells_one : ∀ (l : List RulD), ∀ u ∈ ruleCells l, u.oneCell' = true
  | [], u, hu => by cases hu
  | p :: l, u, hu => by
    simp only [ruleCells, List.mem_cons] at hu
    rcases hu with rfl | rfl | hu
    · rfl
    · rfl
    · exact ruleCells_one l u hu
theorem src_rules {P : Program} {w : World} {a : Option Addr} {l : List RulD} {tx e' : TypeId} (hk : P.underlying tx = some (.slice e')) (h : RulesIn w a l) (cap : Nat) : Go.Src P 2 tx (.slice a l.length cap) l.length (ruleCells l) w := by
  cases a with
  | none =>
    rcases h with h | ⟨b, off, ha, hc⟩
    · have hl := ruleCells_len l
      rw [h] at hl
      obtain rfl : l = [] := List.eq_nil_of_length_eq_zero (by simp at hl; omega)
      exact Go.Src.ofNil w hk cap
    · cases ha
  | some ad =>
    refine Go.Src.ofSlice w hk ad l.length cap (ruleCells l) (ruleCells_len l) (fun j u hu => ?_) (ruleCells_one l)
    rcases h with h | ⟨b, off, ha, hc⟩
    · rw [h] at hu; cases hu
    · cases ha
      rw [add_off]
      obtain ⟨hj, rfl⟩ := List.getElem?_eq_some_iff.1 hu
      exact hc j hj
set_option maxRecDepth 100000 in
set_option maxHeartbeats 2000000 in
theorem specWorkOk_ok (k : Int) (R Q : List RulD) (T : Nat) (aR aQ : Option Addr) (cR cQ : Nat) (w : World) (hR : RulesIn w aR R) (hQ : RulesIn w aQ Q) (h : WorkP k R Q T) :
    Calls Tryz.prog 153 #[workVal k aR R.length cR aQ Q.length cQ T] w fun e w' => e = .returned (.bool true) ∧ Below w.heap.size w w' := by
  have hf := h.few
  have ht := h.turns
  have hz := szR_of h.sys
  have h12 : R.length ≤ 12 := h.sys.1.1.2
  have HSO := Lib.hid (fun W h => specSystemOk_any k R aR cR W h (by omega) hz)
  have HWK := Lib.hid h
  have HR := Lib.hid hR
  have HQ := Lib.hid hQ
  have HWO := Lib.hid (fun (q : ByteArray) (hq : wordOkB k q = true) W => specWordOk_any k q W (by have := (wdP_of hq).len; unfold maxLen; omega))
  have HB0 := Lib.hid (alloc_belowS w (.cells #[.int .i64 k, .slice aR R.length cR, .slice aQ Q.length cQ, .int .i64 (T : Nat)] 69))
  have HBX := Lib.hid (fun W2 (h : Below (w.alloc (.cells #[.int .i64 k, .slice aR R.length cR, .slice aQ Q.length cQ, .int .i64 (T : Nat)] 69)).heap.size (w.alloc (.cells #[.int .i64 k, .slice aR R.length cR, .slice aQ Q.length cQ, .int .i64 (T : Nat)] 69)) W2) => (box_four h).1)
  clear h hz hR hQ
  unfold workVal
  go_enter Tryz.func153, Tryz.ntmps153
  go_wp2_with fail
  generalize w.alloc (.cells #[.int .i64 k, .slice aR R.length cR, .slice aQ Q.length cQ, .int .i64 (T : Nat)] 69) = w1 at *
  refine (HSO.out _ (HR.out.later HB0.out)).mono ?_
  rintro e w2 ⟨bb, hbb, rfl, hb2⟩
  obtain rfl := hbb.2 HWK.out.sys
  obtain ⟨s0, s1, s2, s3⟩ := HBX.out _ hb2
  have HB2 := Lib.hid hb2
  have hin : inB (T : Int) 0 200 = true := by unfold inB; simp; omega
  have HIN := Lib.hid (fun W => (l01In_any (T : Int) 0 200 W).mono (fun e w' h => show e = .returned (.bool true) ∧ W = w' from ⟨by rw [h.1, hin], h.2⟩))
  clear hbb hb2 hin
  go_wp2_with (go_at_call 100; refine (HIN.out _).mono ?_; rintro e w' ⟨rfl, rfl⟩)
  go_loopw [24] (fun vi wr => ∃ i : Nat, i ≤ Q.length ∧ vi = .int .i64 (i : Nat) ∧ Below w1.heap.size w1 wr) (fun vi _ => Q.length - (intOf vi).toNat)
  case atStart => exact ⟨0, Nat.zero_le _, rfl, HB2.out⟩
  case round =>
    obtain ⟨i, hi, rfl, hbw⟩ := hrel
    have HB := Lib.hid hbw
    obtain ⟨s0, s1, s2, s3⟩ := HBX.out wr hbw
    clear hbw
    by_cases hlt : i < Q.length
    · obtain ⟨b, off, rfl, hb, k0, k1⟩ := rule_at HQ.out (Below.now HB0.out HB.out) hlt
      have hq := HWK.out.word _ (nthR_mem hlt)
      have HQ1 := Lib.hid (fun W => (HWO.out _ hq.1 W).mono (fun e w' h => show e = .returned (.bool true) ∧ Below W.heap.size W w' from ⟨by rw [h.1, hq.1], by have := h.2; subst this; exact Below.refl _ _⟩))
      have HQ2 := Lib.hid (fun W => (HWO.out _ hq.2 W).mono (fun e w' h => show e = .returned (.bool true) ∧ Below W.heap.size W w' from ⟨by rw [h.1, hq.2], by have := h.2; subst this; exact Below.refl _ _⟩))
      clear hq
      generalize (nthR Q i).1 = x at *
      generalize (nthR Q i).2 = y at *
      have HBR : Hid (∀ W2, Below (wr.alloc (.cells #[.string x, .string y] 39)).heap.size (wr.alloc (.cells #[.string x, .string y] 39)) W2 → W2.cell? ⟨wr.heap.size, 0, none⟩ = some (.string x) ∧ W2.cell? ⟨wr.heap.size, 1, none⟩ = some (.string y)) := Lib.hid (fun W2 h => box_two h)
      have HB5 := Lib.hid (Below.now HB.out (alloc_belowS wr (.cells #[.string x, .string y] 39)))
      have p0 := fun o => (HBX.out _ (Below.now HB.out (alloc_belowS wr o))).1
      go_wp2_with fail
      refine (HQ1.out _).mono ?_
      rintro e w6 ⟨rfl, hb6⟩
      clear p0
      obtain ⟨r0, r1⟩ := HBR.out _ hb6
      have HB6 := Lib.hid (Below.now HB5.out hb6)
      obtain ⟨t0, t1, t2, t3⟩ := HBX.out _ HB6.out
      clear hb6 k0 k1 s0 s1 s2 s3
      go_wp2_with fail
      refine (HQ2.out _).mono ?_
      rintro e w7 ⟨rfl, hb7⟩
      have HB7 := Lib.hid (Below.now HB6.out hb7)
      clear hb7 r0 r1 t0 t1 t2 t3
      go_wp2_with fail
      go_roundw
      case rel => exact ⟨i + 1, by omega, by go_num, HB7.out⟩
      case measure => simp [intOf]; omega
    · go_wp2_with fail
      go_ret
      exact ⟨rfl, Below.now HB0.out HB.out⟩
end Go.Proofs.YtgoeadgpbidgiaaGreatDoor
