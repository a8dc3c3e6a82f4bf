/-
  The reference's l07Next.
-/
import Derived.Test.YtgoeadgpbidgiaaGreatDoorCom06
import Derived.Test.YtgoeadgpbidgiaaGreatDoorCom10
import Derived.Deep.QuietTactic
import Derived.BigQuiet
import Derived.Test.YtgoeadgpbidgiaaGreatDoorCom04
import Derived.Test.YtgoeadgpbidgiaaGreatDoorCom03
import Derived.Test.YtgoeadgpbidgiaaGreatDoorCom01
namespace Go.Proofs.YtgoeadgpbidgiaaGreatDoor
open Go.RowKit
set_option linter.unusedVariables false
theorem ba_ext0 {a b : ByteArray} (h : a.data.toList = b.data.toList) : a = b := blW_inj h
def sufBB (x p : ByteArray) : Bool := p.data.toList.isSuffixOf x.data.toList
/-- a Left of a rule ends v -/
def endsR (R : List RulD) (v : ByteArray) : Bool := R.any fun r => sufBB v r.1
theorem endsR_iff {R : List RulD} {v : ByteArray} : endsR R v = true ↔ ∃ r ∈ R, sufBB v r.1 = true := by simp [endsR, List.any_eq_true]
def keepR (R : List RulD) : Nat := lsL R - 1
/-- the letters that are kept -/
def cutR (R : List RulD) (v : ByteArray) : ByteArray := v.extract (v.size - keepR R) v.size
theorem cutR_size (R : List RulD) (v : ByteArray) : (cutR R v).size ≤ keepR R := by unfold cutR; rw [ByteArray.size_extract]; omega
theorem ba_all (v : ByteArray) : v.extract 0 v.size = v := by
  apply ba_ext0
  rw [ByteArray.data_extract, Array.toList_extract, List.extract_eq_take_drop]
  have : v.data.toList.length = v.size := rfl
  simp
  exact List.take_of_length_le (Nat.le_of_eq this)
theorem cutR_short {R : List RulD} {v : ByteArray} (h : v.size ≤ keepR R) : cutR R v = v := by
  unfold cutR; rw [show v.size - keepR R = 0 by omega, ba_all]
def okX (R : List RulD) (e : ByteArray) (x : Nat) : Bool := !endsR R (e ++ letterN x)
def nxtX (R : List RulD) (e : ByteArray) (x : Nat) : ByteArray := cutR R (e ++ letterN x)
/-- the number of ways to go on from an end by m letters -/
def paths (R : List RulD) (k : Nat) : Nat → ByteArray → Nat
  | 0, _ => 1
  | m + 1, e => ((List.range k).map fun x => if okX R e x = true then paths R k m (nxtX R e x) else 0).sum
/-- .. that begin with one of the first j letters -/
def pTo (R : List RulD) (k m : Nat) (e : ByteArray) (j : Nat) : Nat := ((List.range j).map fun x => if okX R e x = true then paths R k m (nxtX R e x) else 0).sum
theorem paths_succ (R : List RulD) (k m : Nat) (e : ByteArray) : paths R k (m + 1) e = pTo R k m e k := rfl
theorem pTo_zero (R : List RulD) (k m : Nat) (e : ByteArray) : pTo R k m e 0 = 0 := rfl
theorem pTo_yes {R : List RulD} {k m : Nat} {e : ByteArray} {j : Nat} (h : okX R e j = true) : pTo R k m e (j + 1) = pTo R k m e j + paths R k m (nxtX R e j) := by
  unfold pTo; rw [List.range_succ, List.map_append, List.sum_append]; simp [h]
theorem pTo_no {R : List RulD} {k m : Nat} {e : ByteArray} {j : Nat} (h : okX R e j = false) : pTo R k m e (j + 1) = pTo R k m e j := by
  unfold pTo; rw [List.range_succ, List.map_append, List.sum_append]; simp [h]
theorem paths_le {R : List RulD} {k : Nat} (hk : k ≤ 4) : ∀ (m : Nat) (e : ByteArray), paths R k m e ≤ 4 ^ m
  | 0, e => Nat.le_refl _
  | m + 1, e => by
    rw [paths_succ]
    have key : ∀ j, pTo R k m e j ≤ j * 4 ^ m := fun j => by
      induction j with
      | zero => rw [pTo_zero]; omega
      | succ j ih =>
        have := paths_le (R := R) hk m (nxtX R e j)
        rw [Nat.succ_mul]
        cases h : okX R e j
        · rw [pTo_no h]; omega
        · rw [pTo_yes h]; omega
    have h1 := key k
    have h2 : k * 4 ^ m ≤ 4 * 4 ^ m := Nat.mul_le_mul_right _ hk
    rw [Nat.pow_succ, Nat.mul_comm (4 ^ m) 4]
    omega
theorem pTo_mono (R : List RulD) (k m : Nat) (e : ByteArray) {i j : Nat} (h : i ≤ j) : pTo R k m e i ≤ pTo R k m e j := by
  induction h with
  | refl => exact Nat.le_refl _
  | @step j _ ih =>
    cases h : okX R e j
    · rw [pTo_no h]; exact ih
    · rw [pTo_yes h]; omega
/-- ends, and how many words have each of them -/
abbrev WayD := List (ByteArray × Nat)
/-- the words that they become by m letters more -/
def wsum (R : List RulD) (k m : Nat) (W : WayD) : Nat := (W.map fun p => p.2 * paths R k m p.1).sum
theorem wsum_nil (R : List RulD) (k m : Nat) : wsum R k m [] = 0 := rfl
theorem wsum_app (R : List RulD) (k m : Nat) (W V : WayD) : wsum R k m (W ++ V) = wsum R k m W + wsum R k m V := by unfold wsum; rw [List.map_append, List.sum_append]
theorem wsum_one (R : List RulD) (k m : Nat) (v : ByteArray) (c : Nat) : wsum R k m [(v, c)] = c * paths R k m v := by simp [wsum]
theorem wsum_take (R : List RulD) (k m : Nat) (W : WayD) {i : Nat} (h : i < W.length) : wsum R k m (W.take (i + 1)) = wsum R k m (W.take i) + W[i].2 * paths R k m W[i].1 := by
  rw [List.take_succ_eq_append_getElem h, wsum_app, wsum_one]
theorem wsum_take_le (R : List RulD) (k m : Nat) (W : WayD) (i : Nat) : wsum R k m (W.take i) ≤ wsum R k m W := by
  have h := wsum_app R k m (W.take i) (W.drop i)
  rw [List.take_append_drop] at h
  omega
/-- more words with an end that is there -/
def addW (W : WayD) (i c : Nat) : WayD := W.modify i fun p => (p.1, p.2 + c)
theorem addW_len (W : WayD) (i c : Nat) : (addW W i c).length = W.length := by simp [addW]
theorem addW_split {W : WayD} {i c : Nat} (h : i < W.length) : addW W i c = W.take i ++ [(W[i].1, W[i].2 + c)] ++ W.drop (i + 1) := by
  unfold addW
  rw [List.modify_eq_take_cons_drop h]
  simp
theorem wsum_add {R : List RulD} {k m : Nat} {W : WayD} {i c : Nat} (h : i < W.length) : wsum R k m (addW W i c) = wsum R k m W + c * paths R k m W[i].1 := by
  have e : W = W.take i ++ [W[i]] ++ W.drop (i + 1) := by
    conv => lhs; rw [← List.take_append_drop i W, List.drop_eq_getElem_cons h]
    simp
  have h1 : wsum R k m W = wsum R k m (W.take i) + W[i].2 * paths R k m W[i].1 + wsum R k m (W.drop (i + 1)) := by
    conv => lhs; rw [e]
    rw [wsum_app, wsum_app]
    congr 2
  rw [addW_split h, wsum_app, wsum_app, wsum_one, h1, Nat.add_mul]
  omega
/-- each number is at least one -/
def PosW (W : WayD) : Prop := ∀ p ∈ W, 1 ≤ p.2
theorem PosW.len {R : List RulD} {k : Nat} : ∀ {W : WayD}, PosW W → W.length ≤ wsum R k 0 W
  | [], _ => Nat.le_refl _
  | p :: W, h => by
    have ih := PosW.len (R := R) (k := k) (W := W) (fun q hq => h q (List.mem_cons_of_mem _ hq))
    have h1 := h p List.mem_cons_self
    have e : wsum R k 0 (p :: W) = p.2 * 1 + wsum R k 0 W := by simp [wsum, paths]
    rw [e, List.length_cons]; omega
theorem PosW.add {W : WayD} (h : PosW W) (i c : Nat) : PosW (addW W i c) := fun p hp => by
  unfold addW at hp
  obtain ⟨j, hj, he⟩ := List.getElem_of_mem hp
  rw [List.getElem_modify] at he
  have h1 := h _ (List.getElem_mem (show j < W.length by simpa using hj))
  split at he
  · rw [← he]; show 1 ≤ _ + c; omega
  · rw [← he]; exact h1
theorem PosW.push {W : WayD} (h : PosW W) {v : ByteArray} {c : Nat} (hc : 1 ≤ c) : PosW (W ++ [(v, c)]) := fun p hp => by
  rcases List.mem_append.1 hp with hp | hp
  · exact h p hp
  · rw [List.mem_singleton.1 hp]; exact hc
/-- the ends are short -/
def ShortW (n : Nat) (W : WayD) : Prop := ∀ p ∈ W, p.1.size ≤ n
theorem ShortW.add {n : Nat} {W : WayD} (h : ShortW n W) (i c : Nat) : ShortW n (addW W i c) := fun p hp => by
  unfold addW at hp
  obtain ⟨j, hj, he⟩ := List.getElem_of_mem hp
  rw [List.getElem_modify] at he
  have h1 := h _ (List.getElem_mem (show j < W.length by simpa using hj))
  split at he
  · rw [← he]; exact h1
  · rw [← he]; exact h1
theorem ShortW.push {n : Nat} {W : WayD} (h : ShortW n W) {v : ByteArray} {c : Nat} (hv : v.size ≤ n) : ShortW n (W ++ [(v, c)]) := fun p hp => by
  rcases List.mem_append.1 hp with hp | hp
  · exact h p hp
  · rw [List.mem_singleton.1 hp]; exact hv
/-- the numbers of reduced words of the lengths from 0 to n -/
def growL (R : List RulD) (k n : Nat) : List Int := (List.range (n + 1)).map fun i => ((paths R k i ⟨#[]⟩ : Nat) : Int)
theorem growL_len (R : List RulD) (k n : Nat) : (growL R k n).length = n + 1 := by simp [growL]
theorem growL_succ (R : List RulD) (k n : Nat) : growL R k (n + 1) = growL R k n ++ [((paths R k (n + 1) ⟨#[]⟩ : Nat) : Int)] := by
  unfold growL; rw [List.range_succ, List.map_append]; rfl
/-- the ways of a length -/
structure WayAt (R : List RulD) (k i : Nat) (W : WayD) : Prop where
  eq : ∀ m, wsum R k m W = paths R k (i + m) ⟨#[]⟩
  pos : PosW W
  short : ShortW (keepR R) W
theorem WayAt.start (R : List RulD) (k : Nat) : WayAt R k 0 [(⟨#[]⟩, 1)] := by
  refine ⟨fun m => by rw [wsum_one, Nat.zero_add]; omega, fun p hp => ?_, fun p hp => ?_⟩
  · rw [List.mem_singleton.1 hp]; exact Nat.le_refl _
  · rw [List.mem_singleton.1 hp]; exact Nat.zero_le _
/-- behind i ends and j letters of the next one -/
structure WayTo (R : List RulD) (k : Nat) (W : WayD) (i j : Nat) (e : ByteArray) (c : Nat) (V : WayD) : Prop where
  eq : ∀ m, wsum R k m V = wsum R k (m + 1) (W.take i) + c * pTo R k m e j
  pos : PosW V
  short : ShortW (keepR R) V
theorem WayTo.start (R : List RulD) (k : Nat) (W : WayD) (e : ByteArray) (c : Nat) : WayTo R k W 0 0 e c [] :=
  ⟨fun m => by rw [pTo_zero]; simp [wsum], fun p hp => (by cases hp), fun p hp => (by cases hp)⟩
theorem WayTo.no {R : List RulD} {k : Nat} {W V : WayD} {i j c : Nat} {e : ByteArray} (h : WayTo R k W i j e c V) (hx : okX R e j = false) : WayTo R k W i (j + 1) e c V :=
  ⟨fun m => by rw [pTo_no hx]; exact h.eq m, h.pos, h.short⟩
theorem WayTo.old {R : List RulD} {k : Nat} {W V : WayD} {i j c a : Nat} {e : ByteArray} (h : WayTo R k W i j e c V) (hx : okX R e j = true) (ha : a < V.length) (he : V[a].1 = nxtX R e j) : WayTo R k W i (j + 1) e c (addW V a c) :=
  ⟨fun m => by rw [wsum_add ha, he, h.eq m, pTo_yes hx, Nat.mul_add]; omega, h.pos.add _ _, h.short.add _ _⟩
theorem WayTo.new {R : List RulD} {k : Nat} {W V : WayD} {i j c : Nat} {e : ByteArray} (h : WayTo R k W i j e c V) (hx : okX R e j = true) (hc : 1 ≤ c) : WayTo R k W i (j + 1) e c (V ++ [(nxtX R e j, c)]) :=
  ⟨fun m => by rw [wsum_app, wsum_one, h.eq m, pTo_yes hx, Nat.mul_add]; omega, h.pos.push hc, h.short.push (cutR_size _ _)⟩
theorem WayTo.row {R : List RulD} {k : Nat} {W V : WayD} {i : Nat} (hi : i < W.length) (h : WayTo R k W i k W[i].1 W[i].2 V) (e : ByteArray) (c : Nat) : WayTo R k W (i + 1) 0 e c V :=
  ⟨fun m => by rw [h.eq m, wsum_take _ _ _ _ hi, paths_succ, pTo_zero]; omega, h.pos, h.short⟩
theorem WayTo.other {R : List RulD} {k : Nat} {W V : WayD} {i : Nat} {e e' : ByteArray} {c c' : Nat} (h : WayTo R k W i 0 e c V) : WayTo R k W i 0 e' c' V := ⟨fun m => by rw [h.eq m, pTo_zero, pTo_zero]; omega, h.pos, h.short⟩
theorem WayTo.done {R : List RulD} {k n : Nat} {W V : WayD} {e : ByteArray} {c : Nat} (hW : WayAt R k n W) (h : WayTo R k W W.length 0 e c V) : WayAt R k (n + 1) V :=
  ⟨fun m => by rw [h.eq m, List.take_length, hW.eq, pTo_zero, show n + (m + 1) = n + 1 + m by omega]; omega, h.pos, h.short⟩
/-- the numbers stay small -/
theorem WayTo.le {R : List RulD} {k n : Nat} (hk : k ≤ 4) {W V : WayD} {i j : Nat} (hW : WayAt R k n W) (hi : i < W.length) (hj : j ≤ k) (h : WayTo R k W i j W[i].1 W[i].2 V) : wsum R k 0 V ≤ 4 ^ (n + 1) := by
  rw [h.eq 0]
  have h1 := wsum_take_le R k (0 + 1) W (i + 1)
  rw [wsum_take _ _ _ _ hi, paths_succ] at h1
  have h2 := pTo_mono R k 0 W[i].1 hj
  have h3 : W[i].2 * pTo R k 0 W[i].1 j ≤ W[i].2 * pTo R k 0 W[i].1 k := Nat.mul_le_mul_left _ h2
  have h4 := hW.eq (0 + 1)
  have h5 := paths_le (R := R) hk (n + (0 + 1)) ⟨#[]⟩
  rw [← h4] at h5
  have h6 : n + (0 + 1) = n + 1 := by omega
  rw [h6] at h5
  omega
theorem pow16 {n : Nat} (h : n ≤ 17) : 4 ^ n ≤ 17179869184 := Nat.le_trans (Nat.pow_le_pow_right (by omega) h) (by decide)
/-- the sum of the numbers -/
def cntTo (W : WayD) (j : Nat) : Nat := ((W.take j).map (·.2)).sum
theorem cntTo_succ {W : WayD} {j : Nat} (h : j < W.length) : cntTo W (j + 1) = cntTo W j + W[j].2 := by
  unfold cntTo; rw [List.take_succ_eq_append_getElem h, List.map_append, List.sum_append]; simp
theorem cntTo_all (R : List RulD) (k : Nat) (W : WayD) : cntTo W W.length = wsum R k 0 W := by
  unfold cntTo wsum paths; rw [List.take_length]; simp
theorem cntTo_mono (W : WayD) {i j : Nat} (h : i ≤ j) : cntTo W i ≤ cntTo W j := by
  unfold cntTo
  have e : W.take j = W.take i ++ (W.take j).drop i := by
    conv => lhs; rw [← List.take_append_drop i (W.take j)]
    rw [List.take_take, Nat.min_eq_left h]
  rw [e, List.map_append, List.sum_append]; omega
end Go.Proofs.YtgoeadgpbidgiaaGreatDoor
namespace Go.Proofs.YtgoeadgpbidgiaaGreatDoor
open Go.RowKit
set_option linter.unusedVariables false
theorem sufBB_iff {s p : ByteArray} : sufBB s p = true ↔ p.size ≤ s.size ∧ s.extract (s.size - p.size) s.size = p := by
  unfold sufBB
  rw [List.isSuffixOf_iff_suffix]
  have hl : ∀ s : ByteArray, s.data.toList.length = s.size := fun s => rfl
  have hx : p.size ≤ s.size → (s.extract (s.size - p.size) s.size).data.toList = s.data.toList.drop (s.size - p.size) := fun h => by
    rw [ByteArray.data_extract, Array.toList_extract, List.extract_eq_take_drop, List.take_of_length_le (by rw [List.length_drop, hl]; exact Nat.le_refl _)]
  constructor
  · rintro ⟨t, ht⟩
    have h1 : p.size ≤ s.size := by rw [← hl, ← hl, ← ht, List.length_append]; omega
    refine ⟨h1, ba_ext0 ?_⟩
    rw [hx h1, ← ht, List.drop_left']
    have := congrArg List.length ht
    rw [List.length_append, hl, hl] at this
    omega
  · rintro ⟨h1, h2⟩
    rw [← h2, hx h1]
    exact List.drop_suffix _ _
theorem bytes_eq2 {a b : ByteArray} : (a.toList == b.toList) = true ↔ a = b := bytes_eq
end Go.Proofs.YtgoeadgpbidgiaaGreatDoor
namespace Go.Proofs.YtgoeadgpbidgiaaGreatDoor
open Go.RowKit
set_option linter.unusedVariables false
def TwoB (w wr : World) (v : Value) (xs : List Value) (u : Value) (ys : List Value) : Prop :=
  Bld 9 1 w wr v xs.length xs ∧ Bld 3 1 w wr u ys.length ys ∧ ∀ k, v.ownBlock = some k → u.ownBlock ≠ some k
theorem TwoB.later {w wr wr' : World} {v u : Value} {xs ys : List Value} (h : TwoB w wr v xs u ys) (hb : Below wr.heap.size wr wr') : TwoB w wr' v xs u ys := ⟨h.1.later hb, h.2.1.later hb, h.2.2⟩
theorem keptB {T : TypeId} {w wr wr' : World} {v : Value} {n : Nat} {xs : List Value} {own : Option Nat} (h : Bld T 1 w wr v n xs) (hg : wr.grownBy wr' own) (hne : ∀ k, v.ownBlock = some k → own ≠ some k) (ho : ∀ k, own = some k → w.heap.size ≤ k) : Bld T 1 w wr' v n xs := by
  refine ⟨h.1.kept hg ?_, h.2.grown hg h.2.size ho⟩
  cases hv : v.ownBlock with
  | none => exact .inl rfl
  | some k => exact .inr fun e => hne k hv (e.symm ▸ rfl)
theorem TwoB.putV {w wr w' : World} {v v' u : Value} {xs ys : List Value} {y : Value} {T : TypeId} (h : TwoB w wr v xs u ys) (hb : Bld 9 1 w w' v' (xs.length + 1) (xs ++ [y])) (hg : (wr.alloc (.cells #[y] T)).grownBy w' v.ownBlock)
    (ho : v'.ownBlock = v.ownBlock ∨ v'.ownBlock = some (wr.alloc (.cells #[y] T)).heap.size) : TwoB w w' v' (xs ++ [y]) u ys := by
  have hal : Below wr.heap.size wr (wr.alloc (.cells #[y] T)) := (Below.refl _ _).alloc (Nat.le_refl _) _
  refine ⟨?_, keptB (h.2.1.later hal) hg (fun k hk e => h.2.2 k e hk) (fun k hk => (h.1.1.lt k hk).1), fun k hk e => ?_⟩
  · rw [List.length_append]; exact hb
  · rcases ho with h1 | h1
    · exact h.2.2 k (h1 ▸ hk) e
    · rw [h1] at hk
      have h2 := Option.some.inj hk
      have h3 := (h.2.1.1.lt k e).2
      simp at h2; omega
theorem TwoB.putU {w wr w' : World} {v u u' : Value} {xs ys : List Value} {y : Value} {T : TypeId} (h : TwoB w wr v xs u ys) (hb : Bld 3 1 w w' u' (ys.length + 1) (ys ++ [y])) (hg : (wr.alloc (.cells #[y] T)).grownBy w' u.ownBlock)
    (ho : u'.ownBlock = u.ownBlock ∨ u'.ownBlock = some (wr.alloc (.cells #[y] T)).heap.size) : TwoB w w' v xs u' (ys ++ [y]) := by
  have hal : Below wr.heap.size wr (wr.alloc (.cells #[y] T)) := (Below.refl _ _).alloc (Nat.le_refl _) _
  refine ⟨keptB (h.1.later hal) hg (fun k hk e => h.2.2 k hk e) (fun k hk => (h.2.1.1.lt k hk).1), ?_, fun k hk e => ?_⟩
  · rw [List.length_append]; exact hb
  · rcases ho with h1 | h1
    · exact h.2.2 k hk (h1 ▸ e)
    · rw [h1] at e
      have h2 := Option.some.inj e
      have h3 := (h.1.1.lt k hk).2
      simp at h2; omega
theorem setGrownB (w : World) (B o : Nat) (v : Value) : w.grownBy (w.setCell ⟨B, o, none⟩ v) (some B) := by
  have hszc : (w.setCell ⟨B, o, none⟩ v).heap.size = w.heap.size := by simp
  exact ⟨rfl, rfl, rfl, by rw [hszc]; exact Nat.le_refl _, fun k hk hne => by
    unfold World.setCell
    rw [Array.getElem?_modify, if_neg (fun e : B = k => hne (by rw [e]))]⟩
theorem TwoB.setU {w wr : World} {v : Value} {xs ys : List Value} {g cap : Nat} (h : TwoB w wr v xs (.slice (some ⟨g, 0, none⟩) ys.length cap) ys) {a : Nat} (ha : a < ys.length) (y : Value) : TwoB w (wr.setCell ⟨g, a, none⟩ y) v xs (.slice (some ⟨g, 0, none⟩) ys.length cap) (ys.set a y) := by
  refine ⟨keptB h.1 (setGrownB wr g a y) (fun k hk e => h.2.2 k hk (by simp only [Value.ownBlock]; exact e)) (fun k hk => ?_), ?_, h.2.2⟩
  · have h1 := (h.2.1.1.lt g rfl).1
    have := Option.some.inj hk
    omega
  · rw [List.length_set]
    exact ⟨(h.2.1.1.stored a y).1, h.2.1.2.setCell (h.2.1.1.lt g rfl).1 y⟩
theorem owns_slot {w : World} {base : Nat} {T : TypeId} {v : Value} {n : Nat} {xs : List Value} (h : w.ownsRow base T 1 v n xs) (h0 : 0 < n) : ∃ g cap, v = .slice (some ⟨g, 0, none⟩) n cap := by
  rcases h.2 with ⟨hv, h1⟩ | ⟨g, cap', cur, hv, _⟩
  · omega
  · exact ⟨g, cap', hv⟩
end Go.Proofs.YtgoeadgpbidgiaaGreatDoor
namespace Go.Proofs.YtgoeadgpbidgiaaGreatDoor
open Go.RowKit
set_option linter.unusedVariables false
/-- the number at a place of a list -/
def nthZ (l : List Int) (i : Nat) : Int := l.getD i 0
/-- the product of two elements -/
def tm (m : Nat) (ln : List Nat) (i k : Nat) : Nat := ln.getD (i * m + k) 0
def asc (m : Nat) (ln : List Nat) (i j k : Nat) : Bool := decide (tm m ln (tm m ln i j) k = tm m ln i (tm m ln j k))
def idn (m : Nat) (ln : List Nat) (i : Nat) : Bool := decide (tm m ln 0 i = i) && decide (tm m ln i 0 = i)
def ascRow (m : Nat) (ln : List Nat) (i j : Nat) : Bool := (List.range m).all (asc m ln i j)
def rowOk (m : Nat) (ln : List Nat) (i : Nat) : Bool := idn m ln i && (List.range m).all (ascRow m ln i)
def rowsOk (m : Nat) (ln : List Nat) : Bool := (List.range m).all (rowOk m ln)
/-- the numbers lie in range -/
def rngB (n : Int) (l : List Int) : Bool := l.all fun x => inB x 0 (n - 1)
/-- TableOk as a function of plain data -/
def tabB (n : Int) (l : List Int) : Bool := inB n 1 40 && (decide ((l.length : Int) = n * n) && (rngB n l && rowsOk n.toNat (l.map Int.toNat)))
/-- a table whose numbers lie in range -/
structure Tb (m : Nat) (ln : List Nat) : Prop where
  lo : 1 ≤ m
  hi : m ≤ 40
  len : ln.length = m * m
  rng : ∀ x ∈ ln, x < m
/-- a valid table -/
structure TabOk (m : Nat) (ln : List Nat) : Prop extends Tb m ln where
  left : ∀ i, i < m → tm m ln 0 i = i
  right : ∀ i, i < m → tm m ln i 0 = i
  assoc : ∀ i j k, i < m → j < m → k < m → tm m ln (tm m ln i j) k = tm m ln i (tm m ln j k)
theorem ix_lt {m i k : Nat} (hi : i < m) (hk : k < m) : i * m + k < m * m := by
  have := Nat.mul_le_mul_right m (show i + 1 ≤ m from hi)
  rw [Nat.add_mul] at this
  omega
theorem mul_le {m i : Nat} (hm : m ≤ 40) (hi : i < m) : i * m ≤ 1600 :=
  Nat.le_trans (Nat.mul_le_mul (Nat.le_of_lt hi) (Nat.le_refl _)) (by have := Nat.mul_le_mul hm hm; omega)
theorem sq_le {m : Nat} (hm : m ≤ 40) : m * m ≤ 1600 := by have := Nat.mul_le_mul hm hm; omega
theorem Tb.tm_lt {m : Nat} {ln : List Nat} (h : Tb m ln) {i k : Nat} (hi : i < m) (hk : k < m) : tm m ln i k < m := by
  have hlt : i * m + k < ln.length := by rw [h.len]; exact ix_lt hi hk
  unfold tm
  rw [List.getD_eq_getElem?_getD, List.getElem?_eq_getElem hlt]
  exact h.rng _ (List.getElem_mem hlt)
/-- a slice of natural numbers -/
def NatsIn (w : World) (a : Option Addr) (ln : List Nat) : Prop := IntsIn w a (ln.map Int.ofNat)
theorem NatsIn.later {w w' : World} {a : Option Addr} {l : List Nat} (h : NatsIn w a l) (hb : Below w.heap.size w w') : NatsIn w' a l := IntsIn.later h hb
/-- the cells of a table's products -/
theorem Tb.cell {m : Nat} {ln : List Nat} (h : Tb m ln) {w : World} {a : Option Addr} (hn : NatsIn w a ln) :
    ∃ b off, a = some ⟨b, off, none⟩ ∧ b < w.heap.size ∧ ∀ i k, i < m → k < m → w.cell? ⟨b, off + (i * m + k), none⟩ = some (.int .i64 (tm m ln i k : Nat)) := by
  have h0 : 0 * m + 0 < m * m := ix_lt h.lo h.lo
  obtain ⟨b, off, ha, hc⟩ := IntsIn.at hn (i := 0) (by simp [h.len]; omega)
  have key : ∀ i k, i < m → k < m → w.cell? ⟨b, off + (i * m + k), none⟩ = some (.int .i64 (tm m ln i k : Nat)) := by
    intro i k hi hk
    have hlt : i * m + k < ln.length := by rw [h.len]; exact ix_lt hi hk
    rw [hc _ (by simpa using hlt)]
    simp [tm, List.getD_eq_getElem?_getD, hlt]
  exact ⟨b, off, ha, World.block_lt_of_cell? w _ (key 0 0 h.lo h.lo), key⟩
theorem all_range {m : Nat} {p : Nat → Bool} : (List.range m).all p = true ↔ ∀ i, i < m → p i = true := by simp
theorem all_range_false {m : Nat} {p : Nat → Bool} {i : Nat} (hi : i < m) (h : p i = false) : (List.range m).all p = false := by
  rw [List.all_eq_false]; exact ⟨i, by simpa using hi, by simp [h]⟩
/-- the first c of them hold -/
def upto (p : Nat → Bool) (c : Nat) : Prop := ∀ i, i < c → p i = true
theorem upto_zero (p : Nat → Bool) : upto p 0 := fun _ h => absurd h (Nat.not_lt_zero _)
theorem upto_succ {p : Nat → Bool} {c : Nat} (h : upto p c) (hc : p c = true) : upto p (c + 1) := fun i hi => by
  by_cases e : i = c
  · rw [e]; exact hc
  · exact h i (by omega)
theorem upto_all {p : Nat → Bool} {c m : Nat} (h : upto p c) (hc : ¬ c < m) : (List.range m).all p = true := all_range.2 fun i hi => h i (by omega)
theorem nthZ_lt {l : List Int} {j : Nat} (h : j < l.length) : nthZ l j = l[j] := by simp [nthZ, List.getD_eq_getElem?_getD, h]
theorem IntsIn.cell {w : World} {a : Option Addr} {l : List Int} (h : IntsIn w a l) {i : Nat} (hi : i < l.length) :
    ∃ b off, a = some ⟨b, off, none⟩ ∧ b < w.heap.size ∧ ∀ j, j < l.length → w.cell? ⟨b, off + j, none⟩ = some (.int .i64 (nthZ l j)) := by
  obtain ⟨b, off, ha, hc⟩ := h.at hi
  exact ⟨b, off, ha, World.block_lt_of_cell? w _ (hc i hi), hc⟩
/-- the first j numbers lie in range -/
def rngTo (n : Int) (l : List Int) (j : Nat) : Prop := ∀ i, i < j → inB (nthZ l i) 0 (n - 1) = true
theorem rngTo_zero (n : Int) (l : List Int) : rngTo n l 0 := fun _ h => absurd h (Nat.not_lt_zero _)
theorem rngTo_succ {n : Int} {l : List Int} {j : Nat} (h : rngTo n l j) (hj : inB (nthZ l j) 0 (n - 1) = true) : rngTo n l (j + 1) := fun i hi => by
  by_cases e : i = j
  · rw [e]; exact hj
  · exact h i (by omega)
theorem rngTo_full {n : Int} {l : List Int} {j : Nat} (h : rngTo n l j) (hj : ¬ j < l.length) : rngB n l = true := by
  unfold rngB
  rw [List.all_eq_true]
  intro x hx
  obtain ⟨i, hi, rfl⟩ := List.getElem_of_mem hx
  rw [← nthZ_lt hi]
  exact h i (by omega)
theorem rngB_false {n : Int} {l : List Int} {j : Nat} (h : j < l.length) (hj : inB (nthZ l j) 0 (n - 1) = false) : rngB n l = false := by
  unfold rngB
  rw [List.all_eq_false]
  exact ⟨l[j], List.getElem_mem h, by rw [← nthZ_lt h, hj]; simp⟩
theorem tabB_notn {n : Int} {l : List Int} (h : inB n 1 40 = false) : tabB n l = false := by simp [tabB, h]
theorem tabB_notlen {n : Int} {l : List Int} (h : ¬ (l.length : Int) = n * n) : tabB n l = false := by simp [tabB, h]
theorem tabB_notrng {n : Int} {l : List Int} (h : rngB n l = false) : tabB n l = false := by simp [tabB, h]
theorem tabB_rows {m : Nat} {ln : List Nat} {b : Bool} (h : Tb m ln) (hr : rowsOk m ln = b) : tabB m (ln.map Int.ofNat) = b := by
  have h1 : inB (m : Int) 1 40 = true := by have := h.lo; have := h.hi; simp [inB]; omega
  have h2 : ((ln.map Int.ofNat).length : Int) = (m : Int) * m := by simp [h.len]
  have h3 : rngB (m : Int) (ln.map Int.ofNat) = true := by
    unfold rngB
    rw [List.all_eq_true]
    intro x hx
    obtain ⟨y, hy, rfl⟩ := List.mem_map.1 hx
    have := h.rng y hy
    simp [inB]; omega
  have h4 : (ln.map Int.ofNat).map Int.toNat = ln := by rw [List.map_map]; exact List.map_id'' (fun x => rfl) ln
  simp [tabB, h1, h3, h4, hr, h.len]
/-- out of the first three tests -/
theorem tb_of {n : Int} {l : List Int} (h1 : inB n 1 40 = true) (h2 : (l.length : Int) = n * n) (h3 : rngB n l = true) : ∃ m ln, n = (m : Nat) ∧ l = ln.map Int.ofNat ∧ Tb m ln := by
  have hn : 1 ≤ n ∧ n ≤ 40 := by simpa [inB] using h1
  obtain ⟨m, rfl⟩ := Int.eq_ofNat_of_zero_le (show 0 ≤ n by omega)
  unfold rngB at h3
  rw [List.all_eq_true] at h3
  refine ⟨m, l.map Int.toNat, rfl, ?_, ⟨by omega, by omega, ?_, ?_⟩⟩
  · rw [List.map_map]
    symm
    have : ∀ x ∈ l, (Int.ofNat ∘ Int.toNat) x = x := fun x hx => by
      have := h3 x hx
      simp [inB] at this
      simp; omega
    rw [List.map_congr_left this]
    simp
  · simp only [List.length_map]
    have : ((l.length : Nat) : Int) = ((m * m : Nat) : Int) := by rw [h2]; simp
    omega
  · intro x hx
    obtain ⟨y, hy, rfl⟩ := List.mem_map.1 hx
    have := h3 y hy
    simp [inB] at this
    omega
theorem tabOk_of {m : Nat} {ln : List Nat} (h : Tb m ln) (hr : rowsOk m ln = true) : TabOk m ln := by
  have h1 := all_range.1 hr
  refine ⟨h, fun i hi => ?_, fun i hi => ?_, fun i j k hi hj hk => ?_⟩
  · have := h1 i hi; simp [rowOk, idn] at this; exact this.1.1
  · have := h1 i hi; simp [rowOk, idn] at this; exact this.1.2
  · have := h1 i hi
    simp only [rowOk, Bool.and_eq_true] at this
    have := all_range.1 (all_range.1 this.2 j hj) k hk
    simpa [asc] using this
/-- a valid table's two forms -/
theorem tabOk_out {n : Int} {l : List Int} (h : tabB n l = true) : ∃ m ln, n = (m : Nat) ∧ l = ln.map Int.ofNat ∧ TabOk m ln := by
  have h' := h
  simp only [tabB, Bool.and_eq_true, decide_eq_true_eq] at h
  obtain ⟨h1, h2, h3, h4⟩ := h
  obtain ⟨m, ln, rfl, rfl, ht⟩ := tb_of h1 h2 h3
  refine ⟨m, ln, rfl, rfl, tabOk_of ht ?_⟩
  have h5 : (ln.map Int.ofNat).map Int.toNat = ln := by rw [List.map_map]; exact List.map_id'' (fun x => rfl) ln
  rw [h5] at h4
  exact h4
theorem idn_of {m : Nat} {ln : List Nat} {c : Nat} (h1 : (((tm m ln 0 c : Nat) : Int) != (c : Nat)) = false) (h2 : (((tm m ln c 0 : Nat) : Int) != (c : Nat)) = false) : idn m ln c = true := by
  simp at h1 h2; simp [idn]; omega
theorem idn_not1 {m : Nat} {ln : List Nat} {c : Nat} (h1 : (((tm m ln 0 c : Nat) : Int) != (c : Nat)) = true) : idn m ln c = false := by
  simp at h1; simp [idn]; omega
theorem idn_not2 {m : Nat} {ln : List Nat} {c : Nat} (h1 : (((tm m ln c 0 : Nat) : Int) != (c : Nat)) = true) : idn m ln c = false := by
  simp at h1; simp [idn]; omega
theorem rowsOk_idn {m : Nat} {ln : List Nat} {c : Nat} (hc : c < m) (h : idn m ln c = false) : rowsOk m ln = false := all_range_false hc (by simp [rowOk, h])
theorem rowsOk_asc {m : Nat} {ln : List Nat} {i j k : Nat} (hi : i < m) (hj : j < m) (hk : k < m) (h : asc m ln i j k = false) : rowsOk m ln = false :=
  all_range_false hi (by unfold rowOk; rw [all_range_false hj (all_range_false hk h)]; simp)
theorem asc_of {m : Nat} {ln : List Nat} {i j k : Nat} {b : Bool} (h : (((tm m ln (tm m ln i j) k : Nat) : Int) != ((tm m ln i (tm m ln j k) : Nat) : Int)) = b) : asc m ln i j k = !b := by
  cases b <;> simp at h <;> simp [asc] <;> omega
theorem rowOk_of {m : Nat} {ln : List Nat} {c x : Nat} (h : idn m ln c = true) (h2 : upto (ascRow m ln c) x) (hx : ¬ x < m) : rowOk m ln c = true := by
  unfold rowOk; rw [h, upto_all h2 hx]; rfl
theorem ascRow_of {m : Nat} {ln : List Nat} {c d x : Nat} (h2 : upto (asc m ln c d) x) (hx : ¬ x < m) : ascRow m ln c d = true := upto_all h2 hx
end Go.Proofs.YtgoeadgpbidgiaaGreatDoor
namespace Go.Proofs.YtgoeadgpbidgiaaGreatDoor
open Go.RowKit
set_option linter.unusedVariables false
def idxVals (m : Nat) : List Value := (List.range m).map fun (i : Nat) => Value.int .i64 (i : Nat)
theorem idxVals_at {m j : Nat} (h : j < m) : (idxVals m)[j]? = some (.int .i64 (j : Nat)) := by simp [idxVals, h]
theorem idxVals_len (m : Nat) : (idxVals m).length = m := by simp [idxVals]
set_option maxHeartbeats 400000 in
theorem indices_any (m : Nat) (w : World) (hm : m ≤ 1000000) :
    Calls Tryz.prog 111 #[.int .i64 m] w (RetSl 3 1 m (idxVals m) w) := by
  have hmk := run_make_row' (P := Tryz.prog) 45 3 (.int .i64 0) 8 Tryz.underlying45 Tryz.infoInt rfl .i64 .i64 m (by omega) (by omega)
  go_enter Tryz.func111, Tryz.ntmps111
  go_wp2_with fail
  clear hmk
  have HF := Filling.start w 3 (madeCells #[.int .i64 0] m) m (idxVals m) (size_madeCells _ _) (by unfold maxLen; omega) (idxVals_len m)
  generalize (w.alloc (.cells (madeCells #[.int .i64 0] m) 3)) = w1 at *
  obtain ⟨g, hg⟩ : ∃ g, w.heap.size = g := ⟨_, rfl⟩
  rw [hg] at HF
  rw [hg]
  have HG := Lib.hid hg
  clear hg
  go_loopw [9] (fun i wr => ∃ j : Nat, j ≤ m ∧ i = .int .i64 j ∧ Filling w wr 3 g m (idxVals m) j) (fun i _ => m - (intOf i).toNat)
  case atStart => exact ⟨0, Nat.zero_le _, rfl, HF⟩
  case round =>
    clear HF
    obtain ⟨j, hj, rfl, HF⟩ := hrel
    by_cases hlt : j < m
    · obtain ⟨v, hv⟩ := HF.cell hlt
      have hz := HF.frozen j
      have HF2 := Lib.hid (HF.store hlt (idxVals_at hlt))
      clear HF
      go_wp2_with fail
      go_roundw
      case rel => exact ⟨j + 1, by omega, by go_num, HF2.out⟩
      case measure => simp [intOf]; omega
    · have HF2 := Lib.hid (HF.done hlt)
      clear HF
      go_wp2_with fail
      go_ret
      exact HF2.out
end Go.Proofs.YtgoeadgpbidgiaaGreatDoor
namespace Go.Proofs.YtgoeadgpbidgiaaGreatDoor
open Go.RowKit
set_option linter.unusedVariables false
def keyV (V : WayD) : List Value := V.map fun p => .string p.1
def cntV (V : WayD) : List Value := V.map fun p => .int .i64 (p.2 : Int)
theorem keyV_len (V : WayD) : (keyV V).length = V.length := by simp [keyV]
theorem cntV_len (V : WayD) : (cntV V).length = V.length := by simp [cntV]
/-- ends and numbers that are being built -/
def Ways (w wr : World) (v u : Value) (V : WayD) : Prop := TwoB w wr v (keyV V) u (cntV V)
def nthW (V : WayD) (i : Nat) : ByteArray × Nat := V.getD i (⟨#[]⟩, 0)
theorem nthW_lt {V : WayD} {i : Nat} (h : i < V.length) : nthW V i = V[i] := by simp [nthW, List.getD_eq_getElem?_getD, h]
/-- the ends and the numbers lie in two slices -/
def WaysIn (w : World) (a a2 : Option Addr) (W : WayD) : Prop := CellsIn w a (keyV W) ∧ CellsIn w a2 (cntV W)
theorem WaysIn.later {w w' : World} {a a2 : Option Addr} {W : WayD} (h : WaysIn w a a2 W) (hb : Below w.heap.size w w') : WaysIn w' a a2 W := ⟨h.1.later hb, h.2.later hb⟩
theorem cells_at {w : World} {a : Option Addr} {xs : List Value} (h : CellsIn w a xs) {i : Nat} {x : Value} (hi : xs[i]? = some x) : ∃ b off, a = some ⟨b, off, none⟩ ∧ w.cell? ⟨b, off + i, none⟩ = some x := by
  obtain ⟨hl, rfl⟩ := List.getElem?_eq_some_iff.1 hi
  rcases h with h | ⟨b, off, ha, hc⟩
  · rw [h] at hl; simp at hl
  · exact ⟨b, off, ha, hc i hl⟩
theorem WaysIn.at {w : World} {a a2 : Option Addr} {W : WayD} (h : WaysIn w a a2 W) {i : Nat} (hi : i < W.length) :
    ∃ b off b2 off2, a = some ⟨b, off, none⟩ ∧ a2 = some ⟨b2, off2, none⟩ ∧ w.cell? ⟨b, off + i, none⟩ = some (.string (nthW W i).1) ∧ w.cell? ⟨b2, off2 + i, none⟩ = some (.int .i64 ((nthW W i).2 : Int)) := by
  obtain ⟨b, off, ha, h1⟩ := cells_at h.1 (i := i) (x := .string (nthW W i).1) (by simp [keyV, hi, nthW_lt hi])
  obtain ⟨b2, off2, ha2, h2⟩ := cells_at h.2 (i := i) (x := .int .i64 ((nthW W i).2 : Int)) (by simp [cntV, hi, nthW_lt hi])
  exact ⟨b, off, b2, off2, ha, ha2, h1, h2⟩
theorem keyV_app (V : WayD) (e : ByteArray) (c : Nat) : keyV (V ++ [(e, c)]) = keyV V ++ [.string e] := by simp [keyV]
theorem cntV_app (V : WayD) (e : ByteArray) (c : Nat) : cntV (V ++ [(e, c)]) = cntV V ++ [.int .i64 (c : Int)] := by simp [cntV]
theorem keyV_add (V : WayD) (i c : Nat) : keyV (addW V i c) = keyV V := by
  unfold keyV addW
  apply List.ext_getElem (by simp)
  intro j h1 h2
  simp [List.getElem_modify]
  split <;> rfl
theorem cntV_add {V : WayD} {i : Nat} (h : i < V.length) (c : Nat) : cntV (addW V i c) = (cntV V).set i (.int .i64 (((nthW V i).2 + c : Nat) : Int)) := by
  unfold cntV addW
  apply List.ext_getElem (by simp)
  intro j h1 h2
  simp only [List.getElem_map, List.getElem_modify, List.getElem_set]
  by_cases e : i = j
  · subst e; simp [nthW_lt h]
  · simp [e]
theorem addW_last (V : WayD) (e : ByteArray) (c : Nat) : addW (V ++ [(e, 0)]) V.length c = V ++ [(e, c)] := by
  rw [addW_split (by simp)]
  simp
theorem Ways.later {w wr wr' : World} {v u : Value} {V : WayD} (h : Ways w wr v u V) (hb : Below wr.heap.size wr wr') : Ways w wr' v u V := TwoB.later h hb
theorem Ways.form {w wr : World} {v u : Value} {V : WayD} (h : Ways w wr v u V) : ∃ a c a2 c2, v = .slice a V.length c ∧ u = .slice a2 V.length c2 := by
  obtain ⟨a, c, hv⟩ := owns_form h.1.1
  obtain ⟨a2, c2, hu⟩ := owns_form h.2.1.1
  rw [keyV_len] at hv
  rw [cntV_len] at hu
  exact ⟨a, c, a2, c2, hv, hu⟩
theorem Ways.read {w wr : World} {v u : Value} {V : WayD} (h : Ways w wr v u V) {i : Nat} (hi : i < V.length) : ∃ g c g2 c2, v = .slice (some ⟨g, 0, none⟩) V.length c ∧ u = .slice (some ⟨g2, 0, none⟩) V.length c2 ∧
    wr.cell? ⟨g, i, none⟩ = some (.string (nthW V i).1) ∧ wr.cell? ⟨g2, i, none⟩ = some (.int .i64 ((nthW V i).2 : Int)) ∧ wr.frozen? ⟨g2, i, none⟩ = false := by
  obtain ⟨g, c, hv⟩ := owns_slot h.1.1 (by rw [keyV_len]; omega)
  obtain ⟨g2, c2, hu⟩ := owns_slot h.2.1.1 (by rw [cntV_len]; omega)
  rw [keyV_len] at hv
  rw [cntV_len] at hu
  subst hv hu
  refine ⟨g, c, g2, c2, rfl, rfl, ?_, ?_, by have h2 := h.2.1.1; rw [cntV_len] at h2; exact h2.frozenAt i⟩
  · have h1 := h.1.1
    rw [keyV_len] at h1
    rw [World.ownsRow.cellAt h1 i (by omega)]; simp [keyV, hi, nthW_lt hi]
  · have h1 := h.2.1.1
    rw [cntV_len] at h1
    rw [World.ownsRow.cellAt h1 i (by omega)]; simp [cntV, hi, nthW_lt hi]
theorem Ways.addU {w wr : World} {v : Value} {V : WayD} {g2 c2 : Nat} (h : Ways w wr v (.slice (some ⟨g2, 0, none⟩) V.length c2) V) {i : Nat} (hi : i < V.length) (c : Nat) : Ways w (wr.setCell ⟨g2, i, none⟩ (.int .i64 (((nthW V i).2 + c : Nat) : Int))) v (.slice (some ⟨g2, 0, none⟩) V.length c2) (addW V i c) := by
  unfold Ways at *
  rw [keyV_add, cntV_add hi]
  have h1 : (Value.slice (some ⟨g2, 0, none⟩) V.length c2) = .slice (some ⟨g2, 0, none⟩) (cntV V).length c2 := by rw [cntV_len]
  rw [h1] at h ⊢
  exact h.setU (by rw [cntV_len]; exact hi) _
theorem Ways.drewN {w wr : World} {v u : Value} {V : WayD} (h : Ways w wr v u V) (n : Nat) : Ways w (wr.drewN n) v u V := h.later ⟨rfl, rfl, rfl, Nat.le_refl _, fun _ _ => rfl⟩
/-- what l07Next hands back -/
def RetWays (R : List RulD) (k n : Nat) (w : World) (e : Ending) (w' : World) : Prop :=
  ∃ V a c a2 c2, e = .returned (.tuple #[.slice a V.length c, .slice a2 V.length c2]) ∧ WayAt R k (n + 1) V ∧ WaysIn w' a a2 V ∧ Below w.heap.size w w' ∧ (∀ x, a = some x → w.heap.size ≤ x.block ∧ x.block < w'.heap.size) ∧ ∀ x, a2 = some x → w.heap.size ≤ x.block ∧ x.block < w'.heap.size
theorem Ways.out {w wr : World} {v u : Value} {V : WayD} (h : Ways w wr v u V) : ∃ a c a2 c2, v = .slice a V.length c ∧ u = .slice a2 V.length c2 ∧ WaysIn wr a a2 V ∧ (∀ x, a = some x → w.heap.size ≤ x.block ∧ x.block < wr.heap.size) ∧ ∀ x, a2 = some x → w.heap.size ≤ x.block ∧ x.block < wr.heap.size := by
  obtain ⟨a, c, a2, c2, rfl, rfl⟩ := h.form
  exact ⟨a, c, a2, c2, rfl, rfl, ⟨owns_cells h.1.1, owns_cells h.2.1.1⟩, fun x hx => by subst hx; exact h.1.1.lt x.block rfl, fun x hx => by subst hx; exact h.2.1.1.lt x.block rfl⟩
theorem eq_natB {j k : Nat} (h : ¬ j = k) : ((j : Int) == (k : Int)) = false := by rw [beq_eq_false_iff_ne]; omega
theorem nthW_app {V : WayD} {p : ByteArray × Nat} : nthW (V ++ [p]) V.length = p := by rw [nthW_lt (by simp)]; simp
end Go.Proofs.YtgoeadgpbidgiaaGreatDoor
