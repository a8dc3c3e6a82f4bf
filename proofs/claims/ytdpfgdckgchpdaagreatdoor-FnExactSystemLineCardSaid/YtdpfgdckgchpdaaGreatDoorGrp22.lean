/-
  How many reduced words there are, as plain data: ends, ways, paths.
-/
import Derived.Test.YtdpfgdckgchpdaaGreatDoorGrp11
import Derived.Test.YtdpfgdckgchpdaaGreatDoorGrp21
namespace Go.Proofs.YtdpfgdckgchpdaaGreatDoor
open Go.RowKit
set_option linter.unusedVariables false
theorem ba_ext0 {a b : ByteArray} (h : a.data.toList = b.data.toList) : a = b := blW_inj h
def sufBB (x p : ByteArray) : Bool := p.data.toList.isSuffixOf x.data.toList
/-- a Left of a rule ends v -/
def endsR (R : List RulD) (v : ByteArray) : Bool := R.any fun r => sufBB v r.1
theorem endsR_iff {R : List RulD} {v : ByteArray} : endsR R v = true ↔ ∃ r ∈ R, sufBB v r.1 = true := by simp [endsR, List.any_eq_true]
def keepR (R : List RulD) : Nat := lsL R - 1
/-- the letters that are kept -/
def cutR (R : List RulD) (v : ByteArray) : ByteArray := v.extract (v.size - keepR R) v.size
theorem cutR_size (R : List RulD) (v : ByteArray) : (cutR R v).size ≤ keepR R := by unfold cutR; rw [ByteArray.size_extract]; omega
theorem ba_all (v : ByteArray) : v.extract 0 v.size = v := by
  apply ba_ext0
  rw [ByteArray.data_extract, Array.toList_extract, List.extract_eq_take_drop]
  have : v.data.toList.length = v.size := rfl
  simp
  exact List.take_of_length_le (Nat.le_of_eq this)
theorem cutR_short {R : List RulD} {v : ByteArray} (h : v.size ≤ keepR R) : cutR R v = v := by
  unfold cutR; rw [show v.size - keepR R = 0 by omega, ba_all]
def okX (R : List RulD) (e : ByteArray) (x : Nat) : Bool := !endsR R (e ++ letterN x)
def nxtX (R : List RulD) (e : ByteArray) (x : Nat) : ByteArray := cutR R (e ++ letterN x)
/-- the number of ways to go on from an end by m letters -/
def paths (R : List RulD) (k : Nat) : Nat → ByteArray → Nat
  | 0, _ => 1
  | m + 1, e => ((List.range k).map fun x => if okX R e x = true then paths R k m (nxtX R e x) else 0).sum
/-- .. that begin with one of the first j letters -/
def pTo (R : List RulD) (k m : Nat) (e : ByteArray) (j : Nat) : Nat := ((List.range j).map fun x => if okX R e x = true then paths R k m (nxtX R e x) else 0).sum
theorem paths_succ (R : List RulD) (k m : Nat) (e : ByteArray) : paths R k (m + 1) e = pTo R k m e k := rfl
theorem pTo_zero (R : List RulD) (k m : Nat) (e : ByteArray) : pTo R k m e 0 = 0 := rfl
theorem pTo_yes {R : List RulD} {k m : Nat} {e : ByteArray} {j : Nat} (h : okX R e j = true) : pTo R k m e (j + 1) = pTo R k m e j + paths R k m (nxtX R e j) := by
  unfold pTo; rw [List.range_succ, List.map_append, List.sum_append]; simp [h]
theorem pTo_no {R : List RulD} {k m : Nat} {e : ByteArray} {j : Nat} (h : okX R e j = false) : pTo R k m e (j + 1) = pTo R k m e j := by
  unfold pTo; rw [List.range_succ, List.map_append, List.sum_append]; simp [h]
theorem paths_le {R : List RulD} {k : Nat} (hk : k ≤ 4) : ∀ (m : Nat) (e : ByteArray), paths R k m e ≤ 4 ^ m
  | 0, e => Nat.le_refl _
  | m + 1, e => by
    rw [paths_succ]
    have key : ∀ j, pTo R k m e j ≤ j * 4 ^ m := fun j => by
      induction j with
      | zero => rw [pTo_zero]; omega
      | succ j ih =>
        have := paths_le (R := R) hk m (nxtX R e j)
        rw [Nat.succ_mul]
        cases h : okX R e j
        · rw [pTo_no h]; omega
        · rw [pTo_yes h]; omega
    have h1 := key k
    have h2 : k * 4 ^ m ≤ 4 * 4 ^ m := Nat.mul_le_mul_right _ hk
    rw [Nat.pow_succ, Nat.mul_comm (4 ^ m) 4]
    omega
theorem pTo_mono (R : List RulD) (k m : Nat) (e : ByteArray) {i j : Nat} (h : i ≤ j) : pTo R k m e i ≤ pTo R k m e j := by
  induction h with
  | refl => exact Nat.le_refl _
  | @step j _ ih =>
    cases h : okX R e j
    · rw [pTo_no h]; exact ih
    · rw [pTo_yes h]; omega
/-- ends, and how many words have each of them -/
abbrev WayD := List (ByteArray × Nat)
/-- the words that they become by m letters more -/
def wsum (R : List RulD) (k m : Nat) (W : WayD) : Nat := (W.map fun p => p.2 * paths R k m p.1).sum
theorem wsum_nil (R : List RulD) (k m : Nat) : wsum R k m [] = 0 := rfl
theorem wsum_app (R : List RulD) (k m : Nat) (W V : WayD) : wsum R k m (W ++ V) = wsum R k m W + wsum R k m V := by unfold wsum; rw [List.map_append, List.sum_append]
theorem wsum_one (R : List RulD) (k m : Nat) (v : ByteArray) (c : Nat) : wsum R k m [(v, c)] = c * paths R k m v := by simp [wsum]
theorem wsum_take (R : List RulD) (k m : Nat) (W : WayD) {i : Nat} (h : i < W.length) : wsum R k m (W.take (i + 1)) = wsum R k m (W.take i) + W[i].2 * paths R k m W[i].1 := by
  rw [List.take_succ_eq_append_getElem h, wsum_app, wsum_one]
theorem wsum_take_le (R : List RulD) (k m : Nat) (W : WayD) (i : Nat) : wsum R k m (W.take i) ≤ wsum R k m W := by
  have h := wsum_app R k m (W.take i) (W.drop i)
  rw [List.take_append_drop] at h
  omega
/-- more words with an end that is there -/
def addW (W : WayD) (i c : Nat) : WayD := W.modify i fun p => (p.1, p.2 + c)
theorem addW_len (W : WayD) (i c : Nat) : (addW W i c).length = W.length := by simp [addW]
theorem addW_split {W : WayD} {i c : Nat} (h : i < W.length) : addW W i c = W.take i ++ [(W[i].1, W[i].2 + c)] ++ W.drop (i + 1) := by
  unfold addW
  rw [List.modify_eq_take_cons_drop h]
  simp
theorem wsum_add {R : List RulD} {k m : Nat} {W : WayD} {i c : Nat} (h : i < W.length) : wsum R k m (addW W i c) = wsum R k m W + c * paths R k m W[i].1 := by
  have e : W = W.take i ++ [W[i]] ++ W.drop (i + 1) := by
    conv => lhs; rw [← List.take_append_drop i W, List.drop_eq_getElem_cons h]
    simp
  have h1 : wsum R k m W = wsum R k m (W.take i) + W[i].2 * paths R k m W[i].1 + wsum R k m (W.drop (i + 1)) := by
    conv => lhs; rw [e]
    rw [wsum_app, wsum_app]
    congr 2
  rw [addW_split h, wsum_app, wsum_app, wsum_one, h1, Nat.add_mul]
  omega
/-- each number is at least one -/
def PosW (W : WayD) : Prop := ∀ p ∈ W, 1 ≤ p.2
theorem PosW.len {R : List RulD} {k : Nat} : ∀ {W : WayD}, PosW W → W.length ≤ wsum R k 0 W
  | [], _ => Nat.le_refl _
  | p :: W, h => by
    have ih := PosW.len (R := R) (k := k) (W := W) (fun q hq => h q (List.mem_cons_of_mem _ hq))
    have h1 := h p List.mem_cons_self
    have e : wsum R k 0 (p :: W) = p.2 * 1 + wsum R k 0 W := by simp [wsum, paths]
    rw [e, List.length_cons]; omega
theorem PosW.add {W : WayD} (h : PosW W) (i c : Nat) : PosW (addW W i c) := fun p hp => by
  unfold addW at hp
  obtain ⟨j, hj, he⟩ := List.getElem_of_mem hp
  rw [List.getElem_modify] at he
  have h1 := h _ (List.getElem_mem (show j < W.length by simpa using hj))
  split at he
  · rw [← he]; show 1 ≤ _ + c; omega
  · rw [← he]; exact h1
theorem PosW.push {W : WayD} (h : PosW W) {v : ByteArray} {c : Nat} (hc : 1 ≤ c) : PosW (W ++ [(v, c)]) := fun p hp => by
  rcases List.mem_append.1 hp with hp | hp
  · exact h p hp
  · rw [List.mem_singleton.1 hp]; exact hc
/-- the ends are short -/
def ShortW (n : Nat) (W : WayD) : Prop := ∀ p ∈ W, p.1.size ≤ n
theorem ShortW.add {n : Nat} {W : WayD} (h : ShortW n W) (i c : Nat) : ShortW n (addW W i c) := fun p hp => by
  unfold addW at hp
  obtain ⟨j, hj, he⟩ := List.getElem_of_mem hp
  rw [List.getElem_modify] at he
  have h1 := h _ (List.getElem_mem (show j < W.length by simpa using hj))
  split at he
  · rw [← he]; exact h1
  · rw [← he]; exact h1
theorem ShortW.push {n : Nat} {W : WayD} (h : ShortW n W) {v : ByteArray} {c : Nat} (hv : v.size ≤ n) : ShortW n (W ++ [(v, c)]) := fun p hp => by
  rcases List.mem_append.1 hp with hp | hp
  · exact h p hp
  · rw [List.mem_singleton.1 hp]; exact hv
/-- the numbers of reduced words of the lengths from 0 to n -/
def growL (R : List RulD) (k n : Nat) : List Int := (List.range (n + 1)).map fun i => ((paths R k i ⟨#[]⟩ : Nat) : Int)
theorem growL_len (R : List RulD) (k n : Nat) : (growL R k n).length = n + 1 := by simp [growL]
theorem growL_succ (R : List RulD) (k n : Nat) : growL R k (n + 1) = growL R k n ++ [((paths R k (n + 1) ⟨#[]⟩ : Nat) : Int)] := by
  unfold growL; rw [List.range_succ, List.map_append]; rfl
/-- the ways of a length -/
structure WayAt (R : List RulD) (k i : Nat) (W : WayD) : Prop where
  eq : ∀ m, wsum R k m W = paths R k (i + m) ⟨#[]⟩
  pos : PosW W
  short : ShortW (keepR R) W
theorem WayAt.start (R : List RulD) (k : Nat) : WayAt R k 0 [(⟨#[]⟩, 1)] := by
  refine ⟨fun m => by rw [wsum_one, Nat.zero_add]; omega, fun p hp => ?_, fun p hp => ?_⟩
  · rw [List.mem_singleton.1 hp]; exact Nat.le_refl _
  · rw [List.mem_singleton.1 hp]; exact Nat.zero_le _
/-- behind i ends and j letters of the next one -/
structure WayTo (R : List RulD) (k : Nat) (W : WayD) (i j : Nat) (e : ByteArray) (c : Nat) (V : WayD) : Prop where
  eq : ∀ m, wsum R k m V = wsum R k (m + 1) (W.take i) + c * pTo R k m e j
  pos : PosW V
  short : ShortW (keepR R) V
theorem WayTo.start (R : List RulD) (k : Nat) (W : WayD) (e : ByteArray) (c : Nat) : WayTo R k W 0 0 e c [] :=
  ⟨fun m => by rw [pTo_zero]; simp [wsum], fun p hp => (by cases hp), fun p hp => (by cases hp)⟩
theorem WayTo.no {R : List RulD} {k : Nat} {W V : WayD} {i j c : Nat} {e : ByteArray} (h : WayTo R k W i j e c V) (hx : okX R e j = false) : WayTo R k W i (j + 1) e c V :=
  ⟨fun m => by rw [pTo_no hx]; exact h.eq m, h.pos, h.short⟩
theorem WayTo.old {R : List RulD} {k : Nat} {W V : WayD} {i j c a : Nat} {e : ByteArray} (h : WayTo R k W i j e c V) (hx : okX R e j = true) (ha : a < V.length) (he : V[a].1 = nxtX R e j) : WayTo R k W i (j + 1) e c (addW V a c) :=
  ⟨fun m => by rw [wsum_add ha, he, h.eq m, pTo_yes hx, Nat.mul_add]; omega, h.pos.add _ _, h.short.add _ _⟩
theorem WayTo.new {R : List RulD} {k : Nat} {W V : WayD} {i j c : Nat} {e : ByteArray} (h : WayTo R k W i j e c V) (hx : okX R e j = true) (hc : 1 ≤ c) : WayTo R k W i (j + 1) e c (V ++ [(nxtX R e j, c)]) :=
  ⟨fun m => by rw [wsum_app, wsum_one, h.eq m, pTo_yes hx, Nat.mul_add]; omega, h.pos.push hc, h.short.push (cutR_size _ _)⟩
theorem WayTo.row {R : List RulD} {k : Nat} {W V : WayD} {i : Nat} (hi : i < W.length) (h : WayTo R k W i k W[i].1 W[i].2 V) (e : ByteArray) (c : Nat) : WayTo R k W (i + 1) 0 e c V :=
  ⟨fun m => by rw [h.eq m, wsum_take _ _ _ _ hi, paths_succ, pTo_zero]; omega, h.pos, h.short⟩
theorem WayTo.other {R : List RulD} {k : Nat} {W V : WayD} {i : Nat} {e e' : ByteArray} {c c' : Nat} (h : WayTo R k W i 0 e c V) : WayTo R k W i 0 e' c' V := ⟨fun m => by rw [h.eq m, pTo_zero, pTo_zero]; omega, h.pos, h.short⟩
theorem WayTo.done {R : List RulD} {k n : Nat} {W V : WayD} {e : ByteArray} {c : Nat} (hW : WayAt R k n W) (h : WayTo R k W W.length 0 e c V) : WayAt R k (n + 1) V :=
  ⟨fun m => by rw [h.eq m, List.take_length, hW.eq, pTo_zero, show n + (m + 1) = n + 1 + m by omega]; omega, h.pos, h.short⟩
/-- the numbers stay small -/
theorem WayTo.le {R : List RulD} {k n : Nat} (hk : k ≤ 4) {W V : WayD} {i j : Nat} (hW : WayAt R k n W) (hi : i < W.length) (hj : j ≤ k) (h : WayTo R k W i j W[i].1 W[i].2 V) : wsum R k 0 V ≤ 4 ^ (n + 1) := by
  rw [h.eq 0]
  have h1 := wsum_take_le R k (0 + 1) W (i + 1)
  rw [wsum_take _ _ _ _ hi, paths_succ] at h1
  have h2 := pTo_mono R k 0 W[i].1 hj
  have h3 : W[i].2 * pTo R k 0 W[i].1 j ≤ W[i].2 * pTo R k 0 W[i].1 k := Nat.mul_le_mul_left _ h2
  have h4 := hW.eq (0 + 1)
  have h5 := paths_le (R := R) hk (n + (0 + 1)) ⟨#[]⟩
  rw [← h4] at h5
  have h6 : n + (0 + 1) = n + 1 := by omega
  rw [h6] at h5
  omega
theorem pow16 {n : Nat} (h : n ≤ 17) : 4 ^ n ≤ 17179869184 := Nat.le_trans (Nat.pow_le_pow_right (by omega) h) (by decide)
/-- the sum of the numbers -/
def cntTo (W : WayD) (j : Nat) : Nat := ((W.take j).map (·.2)).sum
theorem cntTo_succ {W : WayD} {j : Nat} (h : j < W.length) : cntTo W (j + 1) = cntTo W j + W[j].2 := by
  unfold cntTo; rw [List.take_succ_eq_append_getElem h, List.map_append, List.sum_append]; simp
theorem cntTo_all (R : List RulD) (k : Nat) (W : WayD) : cntTo W W.length = wsum R k 0 W := by
  unfold cntTo wsum paths; rw [List.take_length]; simp
theorem cntTo_mono (W : WayD) {i j : Nat} (h : i ≤ j) : cntTo W i ≤ cntTo W j := by
  unfold cntTo
  have e : W.take j = W.take i ++ (W.take j).drop i := by
    conv => lhs; rw [← List.take_append_drop i (W.take j)]
    rw [List.take_take, Nat.min_eq_left h]
  rw [e, List.map_append, List.sum_append]; omega
end Go.Proofs.YtdpfgdckgchpdaaGreatDoor
