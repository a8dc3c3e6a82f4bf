/-
  Ways held in a map (strings to integers): plain data.
-/
import Derived.Test.YtdhaebbfiaddnaaGreatDoorGts05
import Derived.Maps.Own
import Derived.Maps.OwnOps
import Derived.Maps.RangeWalk
import Derived.Maps.Views
namespace Go.Proofs.YtdhaebbfiaddnaaGreatDoor
open Go.RowKit
set_option linter.unusedVariables false
theorem ba_ext0 {a b : ByteArray} (h : a.data.toList = b.data.toList) : a = b := blW_inj h
def sufBB (x p : ByteArray) : Bool := p.data.toList.isSuffixOf x.data.toList
/-- a Left of a rule ends v -/
def endsR (R : List RulD) (v : ByteArray) : Bool := R.any fun r => sufBB v r.1
theorem endsR_iff {R : List RulD} {v : ByteArray} : endsR R v = true ↔ ∃ r ∈ R, sufBB v r.1 = true := by simp [endsR, List.any_eq_true]
def keepR (R : List RulD) : Nat := lsL R - 1
/-- the letters that are kept -/
def cutR (R : List RulD) (v : ByteArray) : ByteArray := v.extract (v.size - keepR R) v.size
theorem cutR_size (R : List RulD) (v : ByteArray) : (cutR R v).size ≤ keepR R := by unfold cutR; rw [ByteArray.size_extract]; omega
theorem ba_all (v : ByteArray) : v.extract 0 v.size = v := by
  apply ba_ext0
  rw [ByteArray.data_extract, Array.toList_extract, List.extract_eq_take_drop]
  have : v.data.toList.length = v.size := rfl
  simp
  exact List.take_of_length_le (Nat.le_of_eq this)
theorem cutR_short {R : List RulD} {v : ByteArray} (h : v.size ≤ keepR R) : cutR R v = v := by
  unfold cutR; rw [show v.size - keepR R = 0 by omega, ba_all]
def okX (R : List RulD) (e : ByteArray) (x : Nat) : Bool := !endsR R (e ++ letterN x)
def nxtX (R : List RulD) (e : ByteArray) (x : Nat) : ByteArray := cutR R (e ++ letterN x)
/-- the number of ways to go on from an end by m letters -/
def paths (R : List RulD) (k : Nat) : Nat → ByteArray → Nat
  | 0, _ => 1
  | m + 1, e => ((List.range k).map fun x => if okX R e x = true then paths R k m (nxtX R e x) else 0).sum
/-- .. that begin with one of the first j letters -/
def pTo (R : List RulD) (k m : Nat) (e : ByteArray) (j : Nat) : Nat := ((List.range j).map fun x => if okX R e x = true then paths R k m (nxtX R e x) else 0).sum
theorem paths_succ (R : List RulD) (k m : Nat) (e : ByteArray) : paths R k (m + 1) e = pTo R k m e k := rfl
theorem pTo_zero (R : List RulD) (k m : Nat) (e : ByteArray) : pTo R k m e 0 = 0 := rfl
theorem pTo_yes {R : List RulD} {k m : Nat} {e : ByteArray} {j : Nat} (h : okX R e j = true) : pTo R k m e (j + 1) = pTo R k m e j + paths R k m (nxtX R e j) := by
  unfold pTo; rw [List.range_succ, List.map_append, List.sum_append]; simp [h]
theorem pTo_no {R : List RulD} {k m : Nat} {e : ByteArray} {j : Nat} (h : okX R e j = false) : pTo R k m e (j + 1) = pTo R k m e j := by
  unfold pTo; rw [List.range_succ, List.map_append, List.sum_append]; simp [h]
theorem paths_le {R : List RulD} {k : Nat} (hk : k ≤ 4) : ∀ (m : Nat) (e : ByteArray), paths R k m e ≤ 4 ^ m
  | 0, e => Nat.le_refl _
  | m + 1, e => by
    rw [paths_succ]
    have key : ∀ j, pTo R k m e j ≤ j * 4 ^ m := fun j => by
      induction j with
      | zero => rw [pTo_zero]; omega
      | succ j ih =>
        have := paths_le (R := R) hk m (nxtX R e j)
        rw [Nat.succ_mul]
        cases h : okX R e j
        · rw [pTo_no h]; omega
        · rw [pTo_yes h]; omega
    have h1 := key k
    have h2 : k * 4 ^ m ≤ 4 * 4 ^ m := Nat.mul_le_mul_right _ hk
    rw [Nat.pow_succ, Nat.mul_comm (4 ^ m) 4]
    omega
theorem pTo_mono (R : List RulD) (k m : Nat) (e : ByteArray) {i j : Nat} (h : i ≤ j) : pTo R k m e i ≤ pTo R k m e j := by
  induction h with
  | refl => exact Nat.le_refl _
  | @step j _ ih =>
    cases h : okX R e j
    · rw [pTo_no h]; exact ih
    · rw [pTo_yes h]; omega
/-- ends, and how many words have each of them -/
abbrev WayD := List (ByteArray × Nat)
/-- the words that they become by m letters more -/
def wsum (R : List RulD) (k m : Nat) (W : WayD) : Nat := (W.map fun p => p.2 * paths R k m p.1).sum
theorem wsum_nil (R : List RulD) (k m : Nat) : wsum R k m [] = 0 := rfl
theorem wsum_app (R : List RulD) (k m : Nat) (W V : WayD) : wsum R k m (W ++ V) = wsum R k m W + wsum R k m V := by unfold wsum; rw [List.map_append, List.sum_append]
theorem wsum_one (R : List RulD) (k m : Nat) (v : ByteArray) (c : Nat) : wsum R k m [(v, c)] = c * paths R k m v := by simp [wsum]
theorem wsum_take (R : List RulD) (k m : Nat) (W : WayD) {i : Nat} (h : i < W.length) : wsum R k m (W.take (i + 1)) = wsum R k m (W.take i) + W[i].2 * paths R k m W[i].1 := by
  rw [List.take_succ_eq_append_getElem h, wsum_app, wsum_one]
theorem wsum_take_le (R : List RulD) (k m : Nat) (W : WayD) (i : Nat) : wsum R k m (W.take i) ≤ wsum R k m W := by
  have h := wsum_app R k m (W.take i) (W.drop i)
  rw [List.take_append_drop] at h
  omega
/-- more words with an end that is there -/
def addW (W : WayD) (i c : Nat) : WayD := W.modify i fun p => (p.1, p.2 + c)
theorem addW_len (W : WayD) (i c : Nat) : (addW W i c).length = W.length := by simp [addW]
theorem addW_split {W : WayD} {i c : Nat} (h : i < W.length) : addW W i c = W.take i ++ [(W[i].1, W[i].2 + c)] ++ W.drop (i + 1) := by
  unfold addW
  rw [List.modify_eq_take_cons_drop h]
  simp
theorem wsum_add {R : List RulD} {k m : Nat} {W : WayD} {i c : Nat} (h : i < W.length) : wsum R k m (addW W i c) = wsum R k m W + c * paths R k m W[i].1 := by
  have e : W = W.take i ++ [W[i]] ++ W.drop (i + 1) := by
    conv => lhs; rw [← List.take_append_drop i W, List.drop_eq_getElem_cons h]
    simp
  have h1 : wsum R k m W = wsum R k m (W.take i) + W[i].2 * paths R k m W[i].1 + wsum R k m (W.drop (i + 1)) := by
    conv => lhs; rw [e]
    rw [wsum_app, wsum_app]
    congr 2
  rw [addW_split h, wsum_app, wsum_app, wsum_one, h1, Nat.add_mul]
  omega
/-- each number is at least one -/
def PosW (W : WayD) : Prop := ∀ p ∈ W, 1 ≤ p.2
theorem PosW.len {R : List RulD} {k : Nat} : ∀ {W : WayD}, PosW W → W.length ≤ wsum R k 0 W
  | [], _ => Nat.le_refl _
  | p :: W, h => by
    have ih := PosW.len (R := R) (k := k) (W := W) (fun q hq => h q (List.mem_cons_of_mem _ hq))
    have h1 := h p List.mem_cons_self
    have e : wsum R k 0 (p :: W) = p.2 * 1 + wsum R k 0 W := by simp [wsum, paths]
    rw [e, List.length_cons]; omega
theorem PosW.add {W : WayD} (h : PosW W) (i c : Nat) : PosW (addW W i c) := fun p hp => by
  unfold addW at hp
  obtain ⟨j, hj, he⟩ := List.getElem_of_mem hp
  rw [List.getElem_modify] at he
  have h1 := h _ (List.getElem_mem (show j < W.length by simpa using hj))
  split at he
  · rw [← he]; show 1 ≤ _ + c; omega
  · rw [← he]; exact h1
theorem PosW.push {W : WayD} (h : PosW W) {v : ByteArray} {c : Nat} (hc : 1 ≤ c) : PosW (W ++ [(v, c)]) := fun p hp => by
  rcases List.mem_append.1 hp with hp | hp
  · exact h p hp
  · rw [List.mem_singleton.1 hp]; exact hc
/-- the ends are short -/
def ShortW (n : Nat) (W : WayD) : Prop := ∀ p ∈ W, p.1.size ≤ n
theorem ShortW.add {n : Nat} {W : WayD} (h : ShortW n W) (i c : Nat) : ShortW n (addW W i c) := fun p hp => by
  unfold addW at hp
  obtain ⟨j, hj, he⟩ := List.getElem_of_mem hp
  rw [List.getElem_modify] at he
  have h1 := h _ (List.getElem_mem (show j < W.length by simpa using hj))
  split at he
  · rw [← he]; exact h1
  · rw [← he]; exact h1
theorem ShortW.push {n : Nat} {W : WayD} (h : ShortW n W) {v : ByteArray} {c : Nat} (hv : v.size ≤ n) : ShortW n (W ++ [(v, c)]) := fun p hp => by
  rcases List.mem_append.1 hp with hp | hp
  · exact h p hp
  · rw [List.mem_singleton.1 hp]; exact hv
/-- the numbers of reduced words of the lengths from 0 to n -/
def growL (R : List RulD) (k n : Nat) : List Int := (List.range (n + 1)).map fun i => ((paths R k i ⟨#[]⟩ : Nat) : Int)
theorem growL_len (R : List RulD) (k n : Nat) : (growL R k n).length = n + 1 := by simp [growL]
theorem growL_succ (R : List RulD) (k n : Nat) : growL R k (n + 1) = growL R k n ++ [((paths R k (n + 1) ⟨#[]⟩ : Nat) : Int)] := by
  unfold growL; rw [List.range_succ, List.map_append]; rfl
/-- the ways of a length -/
structure WayAt (R : List RulD) (k i : Nat) (W : WayD) : Prop where
  eq : ∀ m, wsum R k m W = paths R k (i + m) ⟨#[]⟩
  pos : PosW W
  short : ShortW (keepR R) W
theorem WayAt.start (R : List RulD) (k : Nat) : WayAt R k 0 [(⟨#[]⟩, 1)] := by
  refine ⟨fun m => by rw [wsum_one, Nat.zero_add]; omega, fun p hp => ?_, fun p hp => ?_⟩
  · rw [List.mem_singleton.1 hp]; exact Nat.le_refl _
  · rw [List.mem_singleton.1 hp]; exact Nat.zero_le _
/-- behind i ends and j letters of the next one -/
structure WayTo (R : List RulD) (k : Nat) (W : WayD) (i j : Nat) (e : ByteArray) (c : Nat) (V : WayD) : Prop where
  eq : ∀ m, wsum R k m V = wsum R k (m + 1) (W.take i) + c * pTo R k m e j
  pos : PosW V
  short : ShortW (keepR R) V
theorem WayTo.start (R : List RulD) (k : Nat) (W : WayD) (e : ByteArray) (c : Nat) : WayTo R k W 0 0 e c [] :=
  ⟨fun m => by rw [pTo_zero]; simp [wsum], fun p hp => (by cases hp), fun p hp => (by cases hp)⟩
theorem WayTo.no {R : List RulD} {k : Nat} {W V : WayD} {i j c : Nat} {e : ByteArray} (h : WayTo R k W i j e c V) (hx : okX R e j = false) : WayTo R k W i (j + 1) e c V :=
  ⟨fun m => by rw [pTo_no hx]; exact h.eq m, h.pos, h.short⟩
theorem WayTo.old {R : List RulD} {k : Nat} {W V : WayD} {i j c a : Nat} {e : ByteArray} (h : WayTo R k W i j e c V) (hx : okX R e j = true) (ha : a < V.length) (he : V[a].1 = nxtX R e j) : WayTo R k W i (j + 1) e c (addW V a c) :=
  ⟨fun m => by rw [wsum_add ha, he, h.eq m, pTo_yes hx, Nat.mul_add]; omega, h.pos.add _ _, h.short.add _ _⟩
theorem WayTo.new {R : List RulD} {k : Nat} {W V : WayD} {i j c : Nat} {e : ByteArray} (h : WayTo R k W i j e c V) (hx : okX R e j = true) (hc : 1 ≤ c) : WayTo R k W i (j + 1) e c (V ++ [(nxtX R e j, c)]) :=
  ⟨fun m => by rw [wsum_app, wsum_one, h.eq m, pTo_yes hx, Nat.mul_add]; omega, h.pos.push hc, h.short.push (cutR_size _ _)⟩
theorem WayTo.row {R : List RulD} {k : Nat} {W V : WayD} {i : Nat} (hi : i < W.length) (h : WayTo R k W i k W[i].1 W[i].2 V) (e : ByteArray) (c : Nat) : WayTo R k W (i + 1) 0 e c V :=
  ⟨fun m => by rw [h.eq m, wsum_take _ _ _ _ hi, paths_succ, pTo_zero]; omega, h.pos, h.short⟩
theorem WayTo.other {R : List RulD} {k : Nat} {W V : WayD} {i : Nat} {e e' : ByteArray} {c c' : Nat} (h : WayTo R k W i 0 e c V) : WayTo R k W i 0 e' c' V := ⟨fun m => by rw [h.eq m, pTo_zero, pTo_zero]; omega, h.pos, h.short⟩
theorem WayTo.done {R : List RulD} {k n : Nat} {W V : WayD} {e : ByteArray} {c : Nat} (hW : WayAt R k n W) (h : WayTo R k W W.length 0 e c V) : WayAt R k (n + 1) V :=
  ⟨fun m => by rw [h.eq m, List.take_length, hW.eq, pTo_zero, show n + (m + 1) = n + 1 + m by omega]; omega, h.pos, h.short⟩
/-- the numbers stay small -/
theorem WayTo.le {R : List RulD} {k n : Nat} (hk : k ≤ 4) {W V : WayD} {i j : Nat} (hW : WayAt R k n W) (hi : i < W.length) (hj : j ≤ k) (h : WayTo R k W i j W[i].1 W[i].2 V) : wsum R k 0 V ≤ 4 ^ (n + 1) := by
  rw [h.eq 0]
  have h1 := wsum_take_le R k (0 + 1) W (i + 1)
  rw [wsum_take _ _ _ _ hi, paths_succ] at h1
  have h2 := pTo_mono R k 0 W[i].1 hj
  have h3 : W[i].2 * pTo R k 0 W[i].1 j ≤ W[i].2 * pTo R k 0 W[i].1 k := Nat.mul_le_mul_left _ h2
  have h4 := hW.eq (0 + 1)
  have h5 := paths_le (R := R) hk (n + (0 + 1)) ⟨#[]⟩
  rw [← h4] at h5
  have h6 : n + (0 + 1) = n + 1 := by omega
  rw [h6] at h5
  omega
theorem pow16 {n : Nat} (h : n ≤ 17) : 4 ^ n ≤ 17179869184 := Nat.le_trans (Nat.pow_le_pow_right (by omega) h) (by decide)
/-- the sum of the numbers -/
def cntTo (W : WayD) (j : Nat) : Nat := ((W.take j).map (·.2)).sum
theorem cntTo_succ {W : WayD} {j : Nat} (h : j < W.length) : cntTo W (j + 1) = cntTo W j + W[j].2 := by
  unfold cntTo; rw [List.take_succ_eq_append_getElem h, List.map_append, List.sum_append]; simp
theorem cntTo_all (R : List RulD) (k : Nat) (W : WayD) : cntTo W W.length = wsum R k 0 W := by
  unfold cntTo wsum paths; rw [List.take_length]; simp
theorem cntTo_mono (W : WayD) {i j : Nat} (h : i ≤ j) : cntTo W i ≤ cntTo W j := by
  unfold cntTo
  have e : W.take j = W.take i ++ (W.take j).drop i := by
    conv => lhs; rw [← List.take_append_drop i (W.take j)]
    rw [List.take_take, Nat.min_eq_left h]
  rw [e, List.map_append, List.sum_append]; omega
end Go.Proofs.YtdhaebbfiaddnaaGreatDoor
namespace Go.Proofs.YtdhaebbfiaddnaaGreatDoor
open Go.RowKit Go.Maps Go.WideShapes
set_option linter.unusedVariables false
def keyL (e : ByteArray) : Lit := .string e.data.toList
theorem keyL_inj {a b : ByteArray} (h : keyL a = keyL b) : a = b := by
  unfold keyL at h
  exact ba_ext0 (by simpa using h)
theorem keyL_same {a b : ByteArray} : (keyL a).sameKey (keyL b) = true ↔ a = b := by
  unfold keyL Lit.sameKey
  constructor
  · intro h; exact ba_ext0 (by simpa using h)
  · intro h; subst h; simp
def encW (p : ByteArray × Nat) : Lit × DataW Unit := (keyL p.1, .lit (.int .i64 (p.2 : Int)))
/-- the ends are different ones -/
def ApartW (V : WayD) : Prop := V.Pairwise (fun p q => p.1 ≠ q.1)
/-- a map holds these ways -/
def RepM (D : DataW Unit) (V : WayD) : Prop := ApartW V ∧ ∃ es, D = .map es ∧ es.Perm (V.map encW)
theorem RepM.nil : RepM (.map []) [] := ⟨List.Pairwise.nil, [], rfl, .refl _⟩
theorem ApartW.eq {V : WayD} (h : ApartW V) {i j : Nat} (hi : i < V.length) (hj : j < V.length) (he : V[i].1 = V[j].1) : i = j := by
  rcases Nat.lt_trichotomy i j with e | e | e
  · exact absurd he ((List.pairwise_iff_getElem.1 h) i j hi hj e)
  · exact e
  · exact absurd he.symm ((List.pairwise_iff_getElem.1 h) j i hj hi e)
theorem RepM.look {D : DataW Unit} {V : WayD} (h : RepM D V) (v : ByteArray) : (∃ i, ∃ hi : i < V.length, V[i].1 = v ∧ ∀ zd, D.atKey (keyL v) zd = .lit (.int .i64 (V[i].2 : Int))) ∨ ((∀ p ∈ V, p.1 ≠ v) ∧ ∀ zd, D.atKey (keyL v) zd = zd) := by
  obtain ⟨hap, es, rfl, hp⟩ := h
  by_cases hex : ∃ p ∈ V, p.1 = v
  · left
    obtain ⟨p, hpV, rfl⟩ := hex
    obtain ⟨i, hi, rfl⟩ := List.getElem_of_mem hpV
    refine ⟨i, hi, rfl, fun zd => ?_⟩
    have hm : encW V[i] ∈ es := hp.mem_iff.2 (List.mem_map_of_mem (List.getElem_mem hi))
    unfold DataW.atKey
    simp only []
    cases hf : es.find? (fun p => p.1.sameKey (keyL V[i].1)) with
    | none =>
      have := (List.find?_eq_none.1 hf) _ hm
      exact absurd (keyL_same.2 rfl) this
    | some q =>
      have h1 := List.find?_some hf
      have h2 := List.mem_of_find?_eq_some hf
      obtain ⟨r, hr, rfl⟩ := List.mem_map.1 (hp.mem_iff.1 h2)
      obtain ⟨j, hj, rfl⟩ := List.getElem_of_mem hr
      have h3 := keyL_same.1 h1
      have := hap.eq hj hi h3
      subst this
      rfl
  · right
    have hne : ∀ p ∈ V, p.1 ≠ v := fun p hp e => hex ⟨p, hp, e⟩
    refine ⟨hne, fun zd => ?_⟩
    unfold DataW.atKey
    simp only []
    cases hf : es.find? (fun p => p.1.sameKey (keyL v)) with
    | none => rfl
    | some q =>
      have h1 := List.find?_some hf
      have h2 := List.mem_of_find?_eq_some hf
      obtain ⟨r, hr, rfl⟩ := List.mem_map.1 (hp.mem_iff.1 h2)
      exact absurd (keyL_same.1 h1) (hne r hr)
theorem filter_enc (V : WayD) (v : ByteArray) : (V.map encW).filter (fun p => !p.1.sameKey (keyL v)) = (V.filter fun p => !decide (p.1 = v)).map encW := by
  rw [List.filter_map]
  congr 1
  apply List.filter_congr
  intro p _
  show (!(keyL p.1).sameKey (keyL v)) = _
  congr 1
  rw [Bool.eq_iff_iff, keyL_same, decide_eq_true_iff]
theorem RepM.new {D : DataW Unit} {V : WayD} (h : RepM D V) {v : ByteArray} (c : Nat) (hv : ∀ p ∈ V, p.1 ≠ v) : RepM (D.put (keyL v) (.lit (.int .i64 (c : Int)))) (V ++ [(v, c)]) := by
  obtain ⟨hap, es, rfl, hp⟩ := h
  refine ⟨?_, _, rfl, ?_⟩
  · unfold ApartW
    rw [List.pairwise_append]
    exact ⟨hap, List.pairwise_singleton _ _, fun p hp q hq => by rw [List.mem_singleton.1 hq]; exact hv p hp⟩
  · refine (insert_perm _ _).trans ?_
    have h1 := hp.filter (fun p => !p.1.sameKey (keyL v))
    have h2 : V.filter (fun p => !decide (p.1 = v)) = V := List.filter_eq_self.2 (fun p hp => by simpa using hv p hp)
    rw [filter_enc, h2] at h1
    refine (h1.cons _).trans ?_
    rw [List.map_append]
    exact (List.perm_append_singleton _ _).symm
theorem apart_split {V : WayD} (hap : ApartW V) {a : Nat} (ha : a < V.length) : V.filter (fun p => !decide (p.1 = V[a].1)) = V.take a ++ V.drop (a + 1) := by
  have e : V = V.take a ++ V[a] :: V.drop (a + 1) := by
    conv => lhs; rw [← List.take_append_drop a V, List.drop_eq_getElem_cons ha]
  have h1 : (V.take a).filter (fun p => !decide (p.1 = V[a].1)) = V.take a := List.filter_eq_self.2 (fun p hp => by
    obtain ⟨i, hi, rfl⟩ := List.getElem_of_mem hp
    rw [List.length_take] at hi
    rw [List.getElem_take]
    have : V[i].1 ≠ V[a].1 := fun e => by have := hap.eq (show i < V.length by omega) ha e; omega
    simpa using this)
  have h2 : (V.drop (a + 1)).filter (fun p => !decide (p.1 = V[a].1)) = V.drop (a + 1) := List.filter_eq_self.2 (fun p hp => by
    obtain ⟨i, hi, rfl⟩ := List.getElem_of_mem hp
    rw [List.length_drop] at hi
    rw [List.getElem_drop]
    have : V[a + 1 + i].1 ≠ V[a].1 := fun e => by have := hap.eq (show a + 1 + i < V.length by omega) ha e; omega
    simpa using this)
  have h3 : V.filter (fun p => !decide (p.1 = V[a].1)) = (V.take a ++ V[a] :: V.drop (a + 1)).filter (fun p => !decide (p.1 = V[a].1)) := by rw [← e]
  rw [h3, List.filter_append, List.filter_cons, h1, h2]
  simp
theorem RepM.old {D : DataW Unit} {V : WayD} (h : RepM D V) {a : Nat} (ha : a < V.length) (c : Nat) : RepM (D.put (keyL V[a].1) (.lit (.int .i64 ((V[a].2 + c : Nat) : Int)))) (addW V a c) := by
  obtain ⟨hap, es, rfl, hp⟩ := h
  refine ⟨?_, _, rfl, ?_⟩
  · unfold ApartW addW
    rw [List.pairwise_iff_getElem]
    intro i j hi hj hij
    have h1 := (List.pairwise_iff_getElem.1 hap) i j (by simpa using hi) (by simpa using hj) hij
    rw [List.getElem_modify, List.getElem_modify]
    split <;> split <;> exact h1
  · refine (insert_perm _ _).trans ?_
    have h1 := hp.filter (fun p => !p.1.sameKey (keyL V[a].1))
    rw [filter_enc, apart_split hap ha] at h1
    refine (h1.cons _).trans ?_
    rw [addW_split ha]
    simp only [List.map_append, List.map_cons, List.append_assoc, List.cons_append, List.nil_append]
    exact (List.perm_middle).symm
theorem RepM.has {D : DataW Unit} {V : WayD} (h : RepM D V) {p : ByteArray × Nat} (hp : p ∈ V) : Maps.has D (keyL p.1) = true := by
  obtain ⟨hap, es, rfl, hpm⟩ := h
  rw [has_eq, List.any_eq_true]
  exact ⟨encW p, hpm.mem_iff.2 (List.mem_map_of_mem hp), keyL_same.2 rfl⟩
/-- the ways that have come up -/
def doneW (left : Lit → Bool) (W : WayD) : WayD := W.filter fun p => !left (keyL p.1)
theorem doneW_start {D : DataW Unit} {W : WayD} (h : RepM D W) : doneW (Maps.has D) W = [] := by
  unfold doneW
  rw [List.filter_eq_nil_iff]
  intro p hp
  simp [h.has hp]
theorem doneW_end {left : Lit → Bool} {W : WayD} (h : ∀ kl, left kl = false) : doneW left W = W := by
  unfold doneW
  rw [List.filter_eq_self]
  intro p _
  simp [h]
theorem doneW_le (R : List RulD) (k m : Nat) (left : Lit → Bool) : ∀ W : WayD, wsum R k m (doneW left W) ≤ wsum R k m W
  | [] => Nat.le_refl _
  | p :: W => by
    have ih := doneW_le R k m left W
    unfold doneW at *
    rw [List.filter_cons]
    have e : ∀ V : WayD, wsum R k m (p :: V) = p.2 * paths R k m p.1 + wsum R k m V := fun V => by simp [wsum]
    split
    · rw [e, e]; omega
    · rw [e]; omega
theorem doneW_stepX (R : List RulD) (k m : Nat) {A B : WayD} {x : ByteArray × Nat} (hA : ∀ p ∈ A, p.1 ≠ x.1) (hB : ∀ p ∈ B, p.1 ≠ x.1) {left : Lit → Bool} (hl : left (keyL x.1) = true) :
    wsum R k m (doneW (fun z => left z && !z.sameKey (keyL x.1)) (A ++ x :: B)) = wsum R k m (doneW left (A ++ x :: B)) + x.2 * paths R k m x.1 := by
  have key : ∀ p : ByteArray × Nat, p.1 ≠ x.1 → (!(left (keyL p.1) && !(keyL p.1).sameKey (keyL x.1))) = !left (keyL p.1) := fun p hp => by
    have h1 : (keyL p.1).sameKey (keyL x.1) = false := by
      cases h : (keyL p.1).sameKey (keyL x.1)
      · rfl
      · exact absurd (keyL_same.1 h) hp
    rw [h1]; simp
  have h1 : A.filter (fun p => !(left (keyL p.1) && !(keyL p.1).sameKey (keyL x.1))) = A.filter (fun p => !left (keyL p.1)) := List.filter_congr (fun p hp => key _ (hA p hp))
  have h2 : B.filter (fun p => !(left (keyL p.1) && !(keyL p.1).sameKey (keyL x.1))) = B.filter (fun p => !left (keyL p.1)) := List.filter_congr (fun p hp => key _ (hB p hp))
  have hs : (keyL x.1).sameKey (keyL x.1) = true := keyL_same.2 rfl
  have e1 : doneW (fun z => left z && !z.sameKey (keyL x.1)) (A ++ x :: B) = A.filter (fun p => !left (keyL p.1)) ++ x :: B.filter (fun p => !left (keyL p.1)) := by
    unfold doneW
    rw [List.filter_append, List.filter_cons, h1, h2]
    simp [hs]
  have e2 : doneW left (A ++ x :: B) = A.filter (fun p => !left (keyL p.1)) ++ B.filter (fun p => !left (keyL p.1)) := by
    unfold doneW
    rw [List.filter_append, List.filter_cons]
    simp [hl]
  have e3 : ∀ (p : ByteArray × Nat) (V : WayD), wsum R k m (p :: V) = p.2 * paths R k m p.1 + wsum R k m V := fun p V => by simp [wsum]
  rw [e1, e2, wsum_app, wsum_app, e3]
  omega
theorem doneW_step (R : List RulD) (k m : Nat) {W : WayD} (hap : ApartW W) {i : Nat} (hi : i < W.length) {left : Lit → Bool} (hl : left (keyL W[i].1) = true) :
    wsum R k m (doneW (fun z => left z && !z.sameKey (keyL W[i].1)) W) = wsum R k m (doneW left W) + W[i].2 * paths R k m W[i].1 := by
  have hA : ∀ p ∈ W.take i, p.1 ≠ W[i].1 := fun p hp e => by
    obtain ⟨j, hj, rfl⟩ := List.getElem_of_mem hp
    rw [List.length_take] at hj
    rw [List.getElem_take] at e
    have := hap.eq (show j < W.length by omega) hi e; omega
  have hB : ∀ p ∈ W.drop (i + 1), p.1 ≠ W[i].1 := fun p hp e => by
    obtain ⟨j, hj, rfl⟩ := List.getElem_of_mem hp
    rw [List.length_drop] at hj
    rw [List.getElem_drop] at e
    have := hap.eq (show i + 1 + j < W.length by omega) hi e; omega
  have h := doneW_stepX R k m hA hB hl
  have e : W.take i ++ W[i] :: W.drop (i + 1) = W := by rw [← List.drop_eq_getElem_cons hi, List.take_append_drop]
  rwa [e] at h
/-- behind the ways that have come up, and j letters of the next one -/
structure WayG (R : List RulD) (k : Nat) (T : WayD) (j : Nat) (e : ByteArray) (c : Nat) (V : WayD) : Prop where
  eq : ∀ m, wsum R k m V = wsum R k (m + 1) T + c * pTo R k m e j
  pos : PosW V
  short : ShortW (keepR R) V
theorem WayG.start (R : List RulD) (k : Nat) (e : ByteArray) (c : Nat) : WayG R k [] 0 e c [] :=
  ⟨fun m => by rw [pTo_zero]; simp [wsum], fun p hp => (by cases hp), fun p hp => (by cases hp)⟩
theorem WayG.no {R : List RulD} {k : Nat} {T V : WayD} {j c : Nat} {e : ByteArray} (h : WayG R k T j e c V) (hx : okX R e j = false) : WayG R k T (j + 1) e c V :=
  ⟨fun m => by rw [pTo_no hx]; exact h.eq m, h.pos, h.short⟩
theorem WayG.old {R : List RulD} {k : Nat} {T V : WayD} {j c a : Nat} {e : ByteArray} (h : WayG R k T j e c V) (hx : okX R e j = true) (ha : a < V.length) (he : V[a].1 = nxtX R e j) : WayG R k T (j + 1) e c (addW V a c) :=
  ⟨fun m => by rw [wsum_add ha, he, h.eq m, pTo_yes hx, Nat.mul_add]; omega, h.pos.add _ _, h.short.add _ _⟩
theorem WayG.new {R : List RulD} {k : Nat} {T V : WayD} {j c : Nat} {e : ByteArray} (h : WayG R k T j e c V) (hx : okX R e j = true) (hc : 1 ≤ c) : WayG R k T (j + 1) e c (V ++ [(nxtX R e j, c)]) :=
  ⟨fun m => by rw [wsum_app, wsum_one, h.eq m, pTo_yes hx, Nat.mul_add]; omega, h.pos.push hc, h.short.push (cutR_size _ _)⟩
theorem WayG.other {R : List RulD} {k : Nat} {T V : WayD} {e e' : ByteArray} {c c' : Nat} (h : WayG R k T 0 e c V) : WayG R k T 0 e' c' V := ⟨fun m => by rw [h.eq m, pTo_zero, pTo_zero]; omega, h.pos, h.short⟩
theorem WayG.row {R : List RulD} {k : Nat} {W V : WayD} (hap : ApartW W) {i : Nat} (hi : i < W.length) {left : Lit → Bool} (hl : left (keyL W[i].1) = true) (h : WayG R k (doneW left W) k W[i].1 W[i].2 V) (e : ByteArray) (c : Nat) :
    WayG R k (doneW (fun z => left z && !z.sameKey (keyL W[i].1)) W) 0 e c V :=
  ⟨fun m => by rw [h.eq m, doneW_step R k (m + 1) hap hi hl, paths_succ, pTo_zero]; omega, h.pos, h.short⟩
theorem WayG.done {R : List RulD} {k n : Nat} {W V : WayD} {e : ByteArray} {c : Nat} (hW : WayAt R k n W) {left : Lit → Bool} (hl : ∀ kl, left kl = false) (h : WayG R k (doneW left W) 0 e c V) : WayAt R k (n + 1) V :=
  ⟨fun m => by rw [h.eq m, doneW_end hl, hW.eq, pTo_zero, show n + (m + 1) = n + 1 + m by omega]; omega, h.pos, h.short⟩
theorem WayG.le {R : List RulD} {k n : Nat} (hk : k ≤ 4) {W V : WayD} (hap : ApartW W) {i j : Nat} (hW : WayAt R k n W) (hi : i < W.length) {left : Lit → Bool} (hl : left (keyL W[i].1) = true) (hj : j ≤ k) (h : WayG R k (doneW left W) j W[i].1 W[i].2 V) : wsum R k 0 V ≤ 4 ^ (n + 1) := by
  rw [h.eq 0]
  have h1 := doneW_step R k (0 + 1) hap hi hl
  have h0 := doneW_le R k (0 + 1) (fun z => left z && !z.sameKey (keyL W[i].1)) W
  rw [h1, paths_succ] at h0
  have h2 := pTo_mono R k 0 W[i].1 hj
  have h3 : W[i].2 * pTo R k 0 W[i].1 j ≤ W[i].2 * pTo R k 0 W[i].1 k := Nat.mul_le_mul_left _ h2
  have h4 := hW.eq (0 + 1)
  have h5 := paths_le (R := R) hk (n + (0 + 1)) ⟨#[]⟩
  rw [← h4] at h5
  have h6 : n + (0 + 1) = n + 1 := by omega
  rw [h6] at h5
  omega
theorem WayG.le0 {R : List RulD} {k n : Nat} (hk : k ≤ 4) {W V : WayD} (hW : WayAt R k n W) {left : Lit → Bool} {e : ByteArray} {c : Nat} (h : WayG R k (doneW left W) 0 e c V) : wsum R k 0 V ≤ 4 ^ (n + 1) := by
  rw [h.eq 0, pTo_zero]
  have h0 := doneW_le R k (0 + 1) left W
  have h4 := hW.eq (0 + 1)
  have h5 := paths_le (R := R) hk (n + (0 + 1)) ⟨#[]⟩
  rw [← h4] at h5
  have h6 : n + (0 + 1) = n + 1 := by omega
  rw [h6] at h5
  omega
theorem paths0 (R : List RulD) (k : Nat) (e : ByteArray) : paths R k 0 e = 1 := rfl
end Go.Proofs.YtdhaebbfiaddnaaGreatDoor
