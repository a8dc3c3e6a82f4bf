/-
  Functions over slices of integers: indices, and the laws' own copies and comparisons.
-/
import Derived.Test.YtdhaebbfiaddnaaGreatDoorGre07
import Derived.Test.YtdhaebbfiaddnaaGreatDoorGre04
import Derived.Deep.QuietTactic
import Derived.BigQuiet
import Derived.Test.YtdhaebbfiaddnaaGreatDoorGre02
import Derived.Test.YtdhaebbfiaddnaaGreatDoorGre01
namespace Go.Proofs.YtdhaebbfiaddnaaGreatDoor
open Go.RowKit
set_option linter.unusedVariables false
theorem ba_ext0 {a b : ByteArray} (h : a.data.toList = b.data.toList) : a = b := blW_inj h
def sufBB (x p : ByteArray) : Bool := p.data.toList.isSuffixOf x.data.toList
/-- a Left of a rule ends v -/
def endsR (R : List RulD) (v : ByteArray) : Bool := R.any fun r => sufBB v r.1
theorem endsR_iff {R : List RulD} {v : ByteArray} : endsR R v = true ↔ ∃ r ∈ R, sufBB v r.1 = true := by simp [endsR, List.any_eq_true]
def keepR (R : List RulD) : Nat := lsL R - 1
/-- the letters that are kept -/
def cutR (R : List RulD) (v : ByteArray) : ByteArray := v.extract (v.size - keepR R) v.size
theorem cutR_size (R : List RulD) (v : ByteArray) : (cutR R v).size ≤ keepR R := by unfold cutR; rw [ByteArray.size_extract]; omega
theorem ba_all (v : ByteArray) : v.extract 0 v.size = v := by
  apply ba_ext0
  rw [ByteArray.data_extract, Array.toList_extract, List.extract_eq_take_drop]
  have : v.data.toList.length = v.size := rfl
  simp
  exact List.take_of_length_le (Nat.le_of_eq this)
theorem cutR_short {R : List RulD} {v : ByteArray} (h : v.size ≤ keepR R) : cutR R v = v := by
  unfold cutR; rw [show v.size - keepR R = 0 by omega, ba_all]
def okX (R : List RulD) (e : ByteArray) (x : Nat) : Bool := !endsR R (e ++ letterN x)
def nxtX (R : List RulD) (e : ByteArray) (x : Nat) : ByteArray := cutR R (e ++ letterN x)
/-- the number of ways to go on from an end by m letters -/
def paths (R : List RulD) (k : Nat) : Nat → ByteArray → Nat
  | 0, _ => 1
  | m + 1, e => ((List.range k).map fun x => if okX R e x = true then paths R k m (nxtX R e x) else 0).sum
/-- .. that begin with one of the first j letters -/
def pTo (R : List RulD) (k m : Nat) (e : ByteArray) (j : Nat) : Nat := ((List.range j).map fun x => if okX R e x = true then paths R k m (nxtX R e x) else 0).sum
theorem paths_succ (R : List RulD) (k m : Nat) (e : ByteArray) : paths R k (m + 1) e = pTo R k m e k := rfl
theorem pTo_zero (R : List RulD) (k m : Nat) (e : ByteArray) : pTo R k m e 0 = 0 := rfl
theorem pTo_yes {R : List RulD} {k m : Nat} {e : ByteArray} {j : Nat} (h : okX R e j = true) : pTo R k m e (j + 1) = pTo R k m e j + paths R k m (nxtX R e j) := by
  unfold pTo; rw [List.range_succ, List.map_append, List.sum_append]; simp [h]
theorem pTo_no {R : List RulD} {k m : Nat} {e : ByteArray} {j : Nat} (h : okX R e j = false) : pTo R k m e (j + 1) = pTo R k m e j := by
  unfold pTo; rw [List.range_succ, List.map_append, List.sum_append]; simp [h]
theorem paths_le {R : List RulD} {k : Nat} (hk : k ≤ 4) : ∀ (m : Nat) (e : ByteArray), paths R k m e ≤ 4 ^ m
  | 0, e => Nat.le_refl _
  | m + 1, e => by
    rw [paths_succ]
    have key : ∀ j, pTo R k m e j ≤ j * 4 ^ m := fun j => by
      induction j with
      | zero => rw [pTo_zero]; omega
      | succ j ih =>
        have := paths_le (R := R) hk m (nxtX R e j)
        rw [Nat.succ_mul]
        cases h : okX R e j
        · rw [pTo_no h]; omega
        · rw [pTo_yes h]; omega
    have h1 := key k
    have h2 : k * 4 ^ m ≤ 4 * 4 ^ m := Nat.mul_le_mul_right _ hk
    rw [Nat.pow_succ, Nat.mul_comm (4 ^ m) 4]
    omega
theorem pTo_mono (R : List RulD) (k m : Nat) (e : ByteArray) {i j : Nat} (h : i ≤ j) : pTo R k m e i ≤ pTo R k m e j := by
  induction h with
  | refl => exact Nat.le_refl _
  | @step j _ ih =>
    cases h : okX R e j
    · rw [pTo_no h]; exact ih
    · rw [pTo_yes h]; omega
/-- ends, and how many words have each of them -/
abbrev WayD := List (ByteArray × Nat)
/-- the words that they become by m letters more -/
def wsum (R : List RulD) (k m : Nat) (W : WayD) : Nat := (W.map fun p => p.2 * paths R k m p.1).sum
theorem wsum_nil (R : List RulD) (k m : Nat) : wsum R k m [] = 0 := rfl
theorem wsum_app (R : List RulD) (k m : Nat) (W V : WayD) : wsum R k m (W ++ V) = wsum R k m W + wsum R k m V := by unfold wsum; rw [List.map_append, List.sum_append]
theorem wsum_one (R : List RulD) (k m : Nat) (v : ByteArray) (c : Nat) : wsum R k m [(v, c)] = c * paths R k m v := by simp [wsum]
theorem wsum_take (R : List RulD) (k m : Nat) (W : WayD) {i : Nat} (h : i < W.length) : wsum R k m (W.take (i + 1)) = wsum R k m (W.take i) + W[i].2 * paths R k m W[i].1 := by
  rw [List.take_succ_eq_append_getElem h, wsum_app, wsum_one]
theorem wsum_take_le (R : List RulD) (k m : Nat) (W : WayD) (i : Nat) : wsum R k m (W.take i) ≤ wsum R k m W := by
  have h := wsum_app R k m (W.take i) (W.drop i)
  rw [List.take_append_drop] at h
  omega
/-- more words with an end that is there -/
def addW (W : WayD) (i c : Nat) : WayD := W.modify i fun p => (p.1, p.2 + c)
theorem addW_len (W : WayD) (i c : Nat) : (addW W i c).length = W.length := by simp [addW]
theorem addW_split {W : WayD} {i c : Nat} (h : i < W.length) : addW W i c = W.take i ++ [(W[i].1, W[i].2 + c)] ++ W.drop (i + 1) := by
  unfold addW
  rw [List.modify_eq_take_cons_drop h]
  simp
theorem wsum_add {R : List RulD} {k m : Nat} {W : WayD} {i c : Nat} (h : i < W.length) : wsum R k m (addW W i c) = wsum R k m W + c * paths R k m W[i].1 := by
  have e : W = W.take i ++ [W[i]] ++ W.drop (i + 1) := by
    conv => lhs; rw [← List.take_append_drop i W, List.drop_eq_getElem_cons h]
    simp
  have h1 : wsum R k m W = wsum R k m (W.take i) + W[i].2 * paths R k m W[i].1 + wsum R k m (W.drop (i + 1)) := by
    conv => lhs; rw [e]
    rw [wsum_app, wsum_app]
    congr 2
  rw [addW_split h, wsum_app, wsum_app, wsum_one, h1, Nat.add_mul]
  omega
/-- each number is at least one -/
def PosW (W : WayD) : Prop := ∀ p ∈ W, 1 ≤ p.2
theorem PosW.len {R : List RulD} {k : Nat} : ∀ {W : WayD}, PosW W → W.length ≤ wsum R k 0 W
  | [], _ => Nat.le_refl _
  | p :: W, h => by
    have ih := PosW.len (R := R) (k := k) (W := W) (fun q hq => h q (List.mem_cons_of_mem _ hq))
    have h1 := h p List.mem_cons_self
    have e : wsum R k 0 (p :: W) = p.2 * 1 + wsum R k 0 W := by simp [wsum, paths]
    rw [e, List.length_cons]; omega
theorem PosW.add {W : WayD} (h : PosW W) (i c : Nat) : PosW (addW W i c) := fun p hp => by
  unfold addW at hp
  obtain ⟨j, hj, he⟩ := List.getElem_of_mem hp
  rw [List.getElem_modify] at he
  have h1 := h _ (List.getElem_mem (show j < W.length by simpa using hj))
  split at he
  · rw [← he]; show 1 ≤ _ + c; omega
  · rw [← he]; exact h1
theorem PosW.push {W : WayD} (h : PosW W) {v : ByteArray} {c : Nat} (hc : 1 ≤ c) : PosW (W ++ [(v, c)]) := fun p hp => by
  rcases List.mem_append.1 hp with hp | hp
  · exact h p hp
  · rw [List.mem_singleton.1 hp]; exact hc
/-- the ends are short -/
def ShortW (n : Nat) (W : WayD) : Prop := ∀ p ∈ W, p.1.size ≤ n
theorem ShortW.add {n : Nat} {W : WayD} (h : ShortW n W) (i c : Nat) : ShortW n (addW W i c) := fun p hp => by
  unfold addW at hp
  obtain ⟨j, hj, he⟩ := List.getElem_of_mem hp
  rw [List.getElem_modify] at he
  have h1 := h _ (List.getElem_mem (show j < W.length by simpa using hj))
  split at he
  · rw [← he]; exact h1
  · rw [← he]; exact h1
theorem ShortW.push {n : Nat} {W : WayD} (h : ShortW n W) {v : ByteArray} {c : Nat} (hv : v.size ≤ n) : ShortW n (W ++ [(v, c)]) := fun p hp => by
  rcases List.mem_append.1 hp with hp | hp
  · exact h p hp
  · rw [List.mem_singleton.1 hp]; exact hv
/-- the numbers of reduced words of the lengths from 0 to n -/
def growL (R : List RulD) (k n : Nat) : List Int := (List.range (n + 1)).map fun i => ((paths R k i ⟨#[]⟩ : Nat) : Int)
theorem growL_len (R : List RulD) (k n : Nat) : (growL R k n).length = n + 1 := by simp [growL]
theorem growL_succ (R : List RulD) (k n : Nat) : growL R k (n + 1) = growL R k n ++ [((paths R k (n + 1) ⟨#[]⟩ : Nat) : Int)] := by
  unfold growL; rw [List.range_succ, List.map_append]; rfl
/-- the ways of a length -/
structure WayAt (R : List RulD) (k i : Nat) (W : WayD) : Prop where
  eq : ∀ m, wsum R k m W = paths R k (i + m) ⟨#[]⟩
  pos : PosW W
  short : ShortW (keepR R) W
theorem WayAt.start (R : List RulD) (k : Nat) : WayAt R k 0 [(⟨#[]⟩, 1)] := by
  refine ⟨fun m => by rw [wsum_one, Nat.zero_add]; omega, fun p hp => ?_, fun p hp => ?_⟩
  · rw [List.mem_singleton.1 hp]; exact Nat.le_refl _
  · rw [List.mem_singleton.1 hp]; exact Nat.zero_le _
/-- behind i ends and j letters of the next one -/
structure WayTo (R : List RulD) (k : Nat) (W : WayD) (i j : Nat) (e : ByteArray) (c : Nat) (V : WayD) : Prop where
  eq : ∀ m, wsum R k m V = wsum R k (m + 1) (W.take i) + c * pTo R k m e j
  pos : PosW V
  short : ShortW (keepR R) V
theorem WayTo.start (R : List RulD) (k : Nat) (W : WayD) (e : ByteArray) (c : Nat) : WayTo R k W 0 0 e c [] :=
  ⟨fun m => by rw [pTo_zero]; simp [wsum], fun p hp => (by cases hp), fun p hp => (by cases hp)⟩
theorem WayTo.no {R : List RulD} {k : Nat} {W V : WayD} {i j c : Nat} {e : ByteArray} (h : WayTo R k W i j e c V) (hx : okX R e j = false) : WayTo R k W i (j + 1) e c V :=
  ⟨fun m => by rw [pTo_no hx]; exact h.eq m, h.pos, h.short⟩
theorem WayTo.old {R : List RulD} {k : Nat} {W V : WayD} {i j c a : Nat} {e : ByteArray} (h : WayTo R k W i j e c V) (hx : okX R e j = true) (ha : a < V.length) (he : V[a].1 = nxtX R e j) : WayTo R k W i (j + 1) e c (addW V a c) :=
  ⟨fun m => by rw [wsum_add ha, he, h.eq m, pTo_yes hx, Nat.mul_add]; omega, h.pos.add _ _, h.short.add _ _⟩
theorem WayTo.new {R : List RulD} {k : Nat} {W V : WayD} {i j c : Nat} {e : ByteArray} (h : WayTo R k W i j e c V) (hx : okX R e j = true) (hc : 1 ≤ c) : WayTo R k W i (j + 1) e c (V ++ [(nxtX R e j, c)]) :=
  ⟨fun m => by rw [wsum_app, wsum_one, h.eq m, pTo_yes hx, Nat.mul_add]; omega, h.pos.push hc, h.short.push (cutR_size _ _)⟩
theorem WayTo.row {R : List RulD} {k : Nat} {W V : WayD} {i : Nat} (hi : i < W.length) (h : WayTo R k W i k W[i].1 W[i].2 V) (e : ByteArray) (c : Nat) : WayTo R k W (i + 1) 0 e c V :=
  ⟨fun m => by rw [h.eq m, wsum_take _ _ _ _ hi, paths_succ, pTo_zero]; omega, h.pos, h.short⟩
theorem WayTo.other {R : List RulD} {k : Nat} {W V : WayD} {i : Nat} {e e' : ByteArray} {c c' : Nat} (h : WayTo R k W i 0 e c V) : WayTo R k W i 0 e' c' V := ⟨fun m => by rw [h.eq m, pTo_zero, pTo_zero]; omega, h.pos, h.short⟩
theorem WayTo.done {R : List RulD} {k n : Nat} {W V : WayD} {e : ByteArray} {c : Nat} (hW : WayAt R k n W) (h : WayTo R k W W.length 0 e c V) : WayAt R k (n + 1) V :=
  ⟨fun m => by rw [h.eq m, List.take_length, hW.eq, pTo_zero, show n + (m + 1) = n + 1 + m by omega]; omega, h.pos, h.short⟩
/-- the numbers stay small -/
theorem WayTo.le {R : List RulD} {k n : Nat} (hk : k ≤ 4) {W V : WayD} {i j : Nat} (hW : WayAt R k n W) (hi : i < W.length) (hj : j ≤ k) (h : WayTo R k W i j W[i].1 W[i].2 V) : wsum R k 0 V ≤ 4 ^ (n + 1) := by
  rw [h.eq 0]
  have h1 := wsum_take_le R k (0 + 1) W (i + 1)
  rw [wsum_take _ _ _ _ hi, paths_succ] at h1
  have h2 := pTo_mono R k 0 W[i].1 hj
  have h3 : W[i].2 * pTo R k 0 W[i].1 j ≤ W[i].2 * pTo R k 0 W[i].1 k := Nat.mul_le_mul_left _ h2
  have h4 := hW.eq (0 + 1)
  have h5 := paths_le (R := R) hk (n + (0 + 1)) ⟨#[]⟩
  rw [← h4] at h5
  have h6 : n + (0 + 1) = n + 1 := by omega
  rw [h6] at h5
  omega
theorem pow16 {n : Nat} (h : n ≤ 17) : 4 ^ n ≤ 17179869184 := Nat.le_trans (Nat.pow_le_pow_right (by omega) h) (by decide)
/-- the sum of the numbers -/
def cntTo (W : WayD) (j : Nat) : Nat := ((W.take j).map (·.2)).sum
theorem cntTo_succ {W : WayD} {j : Nat} (h : j < W.length) : cntTo W (j + 1) = cntTo W j + W[j].2 := by
  unfold cntTo; rw [List.take_succ_eq_append_getElem h, List.map_append, List.sum_append]; simp
theorem cntTo_all (R : List RulD) (k : Nat) (W : WayD) : cntTo W W.length = wsum R k 0 W := by
  unfold cntTo wsum paths; rw [List.take_length]; simp
theorem cntTo_mono (W : WayD) {i j : Nat} (h : i ≤ j) : cntTo W i ≤ cntTo W j := by
  unfold cntTo
  have e : W.take j = W.take i ++ (W.take j).drop i := by
    conv => lhs; rw [← List.take_append_drop i (W.take j)]
    rw [List.take_take, Nat.min_eq_left h]
  rw [e, List.map_append, List.sum_append]; omega
end Go.Proofs.YtdhaebbfiaddnaaGreatDoor
namespace Go.Proofs.YtdhaebbfiaddnaaGreatDoor
open Go.RowKit
set_option linter.unusedVariables false
theorem sufBB_iff {s p : ByteArray} : sufBB s p = true ↔ p.size ≤ s.size ∧ s.extract (s.size - p.size) s.size = p := by
  unfold sufBB
  rw [List.isSuffixOf_iff_suffix]
  have hl : ∀ s : ByteArray, s.data.toList.length = s.size := fun s => rfl
  have hx : p.size ≤ s.size → (s.extract (s.size - p.size) s.size).data.toList = s.data.toList.drop (s.size - p.size) := fun h => by
    rw [ByteArray.data_extract, Array.toList_extract, List.extract_eq_take_drop, List.take_of_length_le (by rw [List.length_drop, hl]; exact Nat.le_refl _)]
  constructor
  · rintro ⟨t, ht⟩
    have h1 : p.size ≤ s.size := by rw [← hl, ← hl, ← ht, List.length_append]; omega
    refine ⟨h1, ba_ext0 ?_⟩
    rw [hx h1, ← ht, List.drop_left']
    have := congrArg List.length ht
    rw [List.length_append, hl, hl] at this
    omega
  · rintro ⟨h1, h2⟩
    rw [← h2, hx h1]
    exact List.drop_suffix _ _
theorem bytes_eq2 {a b : ByteArray} : (a.toList == b.toList) = true ↔ a = b := bytes_eq
set_option maxRecDepth 20000 in
set_option maxHeartbeats 2000000 in
theorem l07Ends_any (k : Int) (l : List RulD) (v : ByteArray) (a : Option Addr) (cap : Nat) (w : World) (hl : RulesIn w a l) (hlen : l.length ≤ 2 ^ 40) (hz : ∀ j, j < l.length → (nthR l j).1.size ≤ 1000) (hv : v.size ≤ 1000) :
    Calls Tryz.prog 145 #[.agg #[.int .i64 k, .slice a l.length cap], .string v] w fun e w' => e = .returned (.bool (endsR l v)) ∧ Below w.heap.size w w' := by
  have HL := Lib.hid hl
  have HZ := Lib.hid hz
  have HA := Lib.hid (fun o => alloc_belowS w o)
  clear hl hz
  go_enter Tryz.func145, Tryz.ntmps145
  go_wp2_with fail
  go_loopw [10] (fun i wr => ∃ j : Nat, j ≤ l.length ∧ i = .int .i64 (j : Nat) ∧ Hid (∀ j', j' < j → sufBB v (nthR l j').1 = false) ∧ Below w.heap.size w wr) (fun i _ => l.length - (intOf i).toNat)
  case atStart => exact ⟨0, Nat.zero_le _, rfl, Lib.hid (fun j' h => absurd h (Nat.not_lt_zero _)), HA.out _⟩
  case round =>
    obtain ⟨j, hj, rfl, hall, hbw⟩ := hrel
    have HBW := Lib.hid hbw
    by_cases hlt : j < l.length
    · obtain ⟨b, off, rfl, hb, hc⟩ := (HL.out.later hbw).cell hlt
      obtain ⟨c1, c2⟩ := hc j hlt
      have z1 := HZ.out j hlt
      have HYE : Hid (sufBB v (nthR l j).1 = true → endsR l v = true) := Lib.hid (fun h => endsR_iff.2 ⟨_, nthR_mem hlt, h⟩)
      have HNO : Hid (sufBB v (nthR l j).1 = false → ∀ j', j' < j + 1 → sufBB v (nthR l j').1 = false) := Lib.hid (fun h j' hj' => by
        by_cases e : j' = j
        · rw [e]; exact h
        · exact hall.out j' (by omega))
      clear hc hbw
      generalize (nthR l j).1 = x at *
      generalize (nthR l j).2 = y at *
      have HSI := Lib.hid (@sufBB_iff v x)
      by_cases hle : x.size ≤ v.size
      · have g1 : decide ((x.size : Int) ≤ (v.size : Int)) = true := decide_eq_true (by omega)
        have g2 : (x.size : Int) ≤ (v.size : Int) := by omega
        have g3 : (0 : Int) ≤ (v.size : Int) - (x.size : Int) := by omega
        have g4 : (v.size : Int) - (x.size : Int) ≤ (v.size : Int) := by omega
        have g5 : ((v.size : Int) - (x.size : Int)).toNat = v.size - x.size := by omega
        have HD : Hid (∀ n, Below w.heap.size w ((wr.alloc (.cells #[.string x, .string y] 36)).drewN n)) := Lib.hid (fun n => by
          have h := HBW.out.alloc HBW.out.size (.cells #[.string x, .string y] 36)
          exact ⟨h.os, h.tape, h.output, h.size, h.block⟩)
        cases hq : ((v.extract (v.size - x.size) v.size).toList == x.toList)
        · have F := Lib.hid (HNO.out (by
            cases e : sufBB v x
            · rfl
            · have := (HSI.out.1 e).2
              rw [bytes_eq2.2 this] at hq; cases hq))
          go_wp2_with fail
          go_quiet (fail)
          go_wp2_with fail
          go_roundw
          case rel => exact ⟨j + 1, by omega, by go_num, F, HD.out _⟩
          case measure => simp [intOf]; omega
        · have F := Lib.hid (HYE.out (HSI.out.2 ⟨hle, bytes_eq2.1 hq⟩))
          go_wp2_with fail
          go_quiet (fail)
          go_wp2_with fail
          go_ret
          exact ⟨ret_bool F.out.symm, HD.out _⟩
      · have g1 : decide ((x.size : Int) ≤ (v.size : Int)) = false := decide_eq_false (by omega)
        have g1n : decide (x.size ≤ v.size) = false := decide_eq_false hle
        have F := Lib.hid (HNO.out (by
          cases e : sufBB v x
          · rfl
          · exact absurd (HSI.out.1 e).1 hle))
        have HD : Hid (∀ n, Below w.heap.size w ((wr.alloc (.cells #[.string x, .string y] 36)).drewN n)) := Lib.hid (fun n => by
          have h := HBW.out.alloc HBW.out.size (.cells #[.string x, .string y] 36)
          exact ⟨h.os, h.tape, h.output, h.size, h.block⟩)
        clear hle
        go_wp2_with fail
        go_quiet (fail)
        go_wp2_with fail
        go_roundw
        case rel => exact ⟨j + 1, by omega, by go_num, F, HD.out _⟩
        case measure => simp [intOf]; omega
    · have F : Hid (endsR l v = false) := Lib.hid (by
        cases e : endsR l v
        · rfl
        · obtain ⟨r, hr, h⟩ := endsR_iff.1 e
          obtain ⟨i, hi, rfl⟩ := mem_nthR hr
          rw [hall.out i (by omega)] at h; cases h)
      go_wp2_with fail
      go_ret
      exact ⟨ret_bool F.out.symm, HBW.out⟩
set_option maxHeartbeats 400000 in
theorem l07Cut_any (k : Int) (l : List RulD) (v : ByteArray) (a : Option Addr) (cap : Nat) (w : World) (hl : RulesIn w a l) (hlen : l.length ≤ 2 ^ 40) (hz : SzR l) (hv : v.size ≤ 1000) :
    Calls Tryz.prog 159 #[.agg #[.int .i64 k, .slice a l.length cap], .string v] w fun e w' => e = .returned (.string (cutR l v)) ∧ Below w.heap.size w w' := by
  have HL := Lib.hid hl
  have HS := Lib.hid (fun W h => specLongestSide_any k l a cap W h hlen hz)
  have hm := lsTo_le hz l.length (Nat.le_refl _)
  have hm2 : lsL l ≤ 9223372036854775807 := by unfold maxLen at hm; exact hm
  have HA := Lib.hid (fun o => alloc_belowS w o)
  have HC : Hid (keepR l = lsL l - 1) := Lib.hid rfl
  have HCU : Hid (cutR l v = v.extract (v.size - keepR l) v.size) := Lib.hid rfl
  have HCS := Lib.hid (@cutR_short l v)
  generalize cutR l v = cc at *
  generalize keepR l = q at *
  generalize lsL l = m at *
  have hq : q = m - 1 := HC.out
  clear hl hz hm
  go_enter Tryz.func159, Tryz.ntmps159
  go_wp2_with fail
  refine (HS.out _ (HL.out.later (HA.out _))).mono ?_
  rintro e w2 ⟨rfl, hb2⟩
  have HW := Lib.hid (Below.now (HA.out _) hb2)
  have e1 : max (0 : Int) ((m : Int) - 1) = (q : Int) := by omega
  clear hb2 HS
  by_cases hle : v.size ≤ q
  · have F := Lib.hid (HCS.out hle)
    have g1 : (v.size : Int) ≤ (q : Int) := by omega
    clear hq HC
    go_wp2_with fail
    go_ret
    exact ⟨ret_str F.out.symm, HW.out⟩
  · have g1 : ¬ (v.size : Int) ≤ (q : Int) := by omega
    have g3 : (0 : Int) ≤ (v.size : Int) - (q : Int) := by omega
    have g4 : (v.size : Int) - (q : Int) ≤ (v.size : Int) := by omega
    have g5 : ((v.size : Int) - (q : Int)).toNat = v.size - q := by omega
    clear hq HC
    go_wp2_with fail
    go_ret
    exact ⟨ret_str HCU.out.symm, HW.out⟩
end Go.Proofs.YtdhaebbfiaddnaaGreatDoor
namespace Go.Proofs.YtdhaebbfiaddnaaGreatDoor
open Go.RowKit
set_option linter.unusedVariables false
def TwoB (w wr : World) (v : Value) (xs : List Value) (u : Value) (ys : List Value) : Prop :=
  Bld 9 1 w wr v xs.length xs ∧ Bld 3 1 w wr u ys.length ys ∧ ∀ k, v.ownBlock = some k → u.ownBlock ≠ some k
theorem TwoB.later {w wr wr' : World} {v u : Value} {xs ys : List Value} (h : TwoB w wr v xs u ys) (hb : Below wr.heap.size wr wr') : TwoB w wr' v xs u ys := ⟨h.1.later hb, h.2.1.later hb, h.2.2⟩
theorem keptB {T : TypeId} {w wr wr' : World} {v : Value} {n : Nat} {xs : List Value} {own : Option Nat} (h : Bld T 1 w wr v n xs) (hg : wr.grownBy wr' own) (hne : ∀ k, v.ownBlock = some k → own ≠ some k) (ho : ∀ k, own = some k → w.heap.size ≤ k) : Bld T 1 w wr' v n xs := by
  refine ⟨h.1.kept hg ?_, h.2.grown hg h.2.size ho⟩
  cases hv : v.ownBlock with
  | none => exact .inl rfl
  | some k => exact .inr fun e => hne k hv (e.symm ▸ rfl)
theorem TwoB.putV {w wr w' : World} {v v' u : Value} {xs ys : List Value} {y : Value} {T : TypeId} (h : TwoB w wr v xs u ys) (hb : Bld 9 1 w w' v' (xs.length + 1) (xs ++ [y])) (hg : (wr.alloc (.cells #[y] T)).grownBy w' v.ownBlock)
    (ho : v'.ownBlock = v.ownBlock ∨ v'.ownBlock = some (wr.alloc (.cells #[y] T)).heap.size) : TwoB w w' v' (xs ++ [y]) u ys := by
  have hal : Below wr.heap.size wr (wr.alloc (.cells #[y] T)) := (Below.refl _ _).alloc (Nat.le_refl _) _
  refine ⟨?_, keptB (h.2.1.later hal) hg (fun k hk e => h.2.2 k e hk) (fun k hk => (h.1.1.lt k hk).1), fun k hk e => ?_⟩
  · rw [List.length_append]; exact hb
  · rcases ho with h1 | h1
    · exact h.2.2 k (h1 ▸ hk) e
    · rw [h1] at hk
      have h2 := Option.some.inj hk
      have h3 := (h.2.1.1.lt k e).2
      simp at h2; omega
theorem TwoB.putU {w wr w' : World} {v u u' : Value} {xs ys : List Value} {y : Value} {T : TypeId} (h : TwoB w wr v xs u ys) (hb : Bld 3 1 w w' u' (ys.length + 1) (ys ++ [y])) (hg : (wr.alloc (.cells #[y] T)).grownBy w' u.ownBlock)
    (ho : u'.ownBlock = u.ownBlock ∨ u'.ownBlock = some (wr.alloc (.cells #[y] T)).heap.size) : TwoB w w' v xs u' (ys ++ [y]) := by
  have hal : Below wr.heap.size wr (wr.alloc (.cells #[y] T)) := (Below.refl _ _).alloc (Nat.le_refl _) _
  refine ⟨keptB (h.1.later hal) hg (fun k hk e => h.2.2 k hk e) (fun k hk => (h.2.1.1.lt k hk).1), ?_, fun k hk e => ?_⟩
  · rw [List.length_append]; exact hb
  · rcases ho with h1 | h1
    · exact h.2.2 k hk (h1 ▸ e)
    · rw [h1] at e
      have h2 := Option.some.inj e
      have h3 := (h.1.1.lt k hk).2
      simp at h2; omega
theorem setGrownB (w : World) (B o : Nat) (v : Value) : w.grownBy (w.setCell ⟨B, o, none⟩ v) (some B) := by
  have hszc : (w.setCell ⟨B, o, none⟩ v).heap.size = w.heap.size := by simp
  exact ⟨rfl, rfl, rfl, by rw [hszc]; exact Nat.le_refl _, fun k hk hne => by
    unfold World.setCell
    rw [Array.getElem?_modify, if_neg (fun e : B = k => hne (by rw [e]))]⟩
theorem TwoB.setU {w wr : World} {v : Value} {xs ys : List Value} {g cap : Nat} (h : TwoB w wr v xs (.slice (some ⟨g, 0, none⟩) ys.length cap) ys) {a : Nat} (ha : a < ys.length) (y : Value) : TwoB w (wr.setCell ⟨g, a, none⟩ y) v xs (.slice (some ⟨g, 0, none⟩) ys.length cap) (ys.set a y) := by
  refine ⟨keptB h.1 (setGrownB wr g a y) (fun k hk e => h.2.2 k hk (by simp only [Value.ownBlock]; exact e)) (fun k hk => ?_), ?_, h.2.2⟩
  · have h1 := (h.2.1.1.lt g rfl).1
    have := Option.some.inj hk
    omega
  · rw [List.length_set]
    exact ⟨(h.2.1.1.stored a y).1, h.2.1.2.setCell (h.2.1.1.lt g rfl).1 y⟩
theorem owns_slot {w : World} {base : Nat} {T : TypeId} {v : Value} {n : Nat} {xs : List Value} (h : w.ownsRow base T 1 v n xs) (h0 : 0 < n) : ∃ g cap, v = .slice (some ⟨g, 0, none⟩) n cap := by
  rcases h.2 with ⟨hv, h1⟩ | ⟨g, cap', cur, hv, _⟩
  · omega
  · exact ⟨g, cap', hv⟩
end Go.Proofs.YtdhaebbfiaddnaaGreatDoor
namespace Go.Proofs.YtdhaebbfiaddnaaGreatDoor
open Go.RowKit
set_option linter.unusedVariables false
def idxVals (m : Nat) : List Value := (List.range m).map fun (i : Nat) => Value.int .i64 (i : Nat)
theorem idxVals_at {m j : Nat} (h : j < m) : (idxVals m)[j]? = some (.int .i64 (j : Nat)) := by simp [idxVals, h]
theorem idxVals_len (m : Nat) : (idxVals m).length = m := by simp [idxVals]
set_option maxHeartbeats 400000 in
theorem indices_any (m : Nat) (w : World) (hm : m ≤ 1000000) :
    Calls Tryz.prog 125 #[.int .i64 m] w (RetSl 3 1 m (idxVals m) w) := by
  have hmk := run_make_row' (P := Tryz.prog) 49 3 (.int .i64 0) 8 Tryz.underlying49 Tryz.infoInt rfl .i64 .i64 m (by omega) (by omega)
  go_enter Tryz.func125, Tryz.ntmps125
  go_wp2_with fail
  clear hmk
  have HF := Filling.start w 3 (madeCells #[.int .i64 0] m) m (idxVals m) (size_madeCells _ _) (by unfold maxLen; omega) (idxVals_len m)
  generalize (w.alloc (.cells (madeCells #[.int .i64 0] m) 3)) = w1 at *
  obtain ⟨g, hg⟩ : ∃ g, w.heap.size = g := ⟨_, rfl⟩
  rw [hg] at HF
  rw [hg]
  have HG := Lib.hid hg
  clear hg
  go_loopw [9] (fun i wr => ∃ j : Nat, j ≤ m ∧ i = .int .i64 j ∧ Filling w wr 3 g m (idxVals m) j) (fun i _ => m - (intOf i).toNat)
  case atStart => exact ⟨0, Nat.zero_le _, rfl, HF⟩
  case round =>
    clear HF
    obtain ⟨j, hj, rfl, HF⟩ := hrel
    by_cases hlt : j < m
    · obtain ⟨v, hv⟩ := HF.cell hlt
      have hz := HF.frozen j
      have HF2 := Lib.hid (HF.store hlt (idxVals_at hlt))
      clear HF
      go_wp2_with fail
      go_roundw
      case rel => exact ⟨j + 1, by omega, by go_num, HF2.out⟩
      case measure => simp [intOf]; omega
    · have HF2 := Lib.hid (HF.done hlt)
      clear HF
      go_wp2_with fail
      go_ret
      exact HF2.out
end Go.Proofs.YtdhaebbfiaddnaaGreatDoor
