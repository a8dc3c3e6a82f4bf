/-
  How many words avoid some words, if only finitely many do: a bound, by the states that a reader of such words needs.
-/
import Derived.Test.YtmgdglghjlggnaaGreatGway04
import Derived.Test.YtmgdglghjlggnaaGreatGway06
import Derived.Test.YtmgdglghjlggnaaGreatGway01
namespace Go.Proofs.YtmgdglghjlggnaaGreat
open Go.RowKit
set_option linter.unusedVariables false
theorem ba_ext0 {a b : ByteArray} (h : a.data.toList = b.data.toList) : a = b := blW_inj h
def sufBB (x p : ByteArray) : Bool := p.data.toList.isSuffixOf x.data.toList
/-- a Left of a rule ends v -/
def endsR (R : List RulD) (v : ByteArray) : Bool := R.any fun r => sufBB v r.1
theorem endsR_iff {R : List RulD} {v : ByteArray} : endsR R v = true ↔ ∃ r ∈ R, sufBB v r.1 = true := by simp [endsR, List.any_eq_true]
def keepR (R : List RulD) : Nat := lsL R - 1
/-- the letters that are kept -/
def cutR (R : List RulD) (v : ByteArray) : ByteArray := v.extract (v.size - keepR R) v.size
theorem cutR_size (R : List RulD) (v : ByteArray) : (cutR R v).size ≤ keepR R := by unfold cutR; rw [ByteArray.size_extract]; omega
theorem ba_all (v : ByteArray) : v.extract 0 v.size = v := by
  apply ba_ext0
  rw [ByteArray.data_extract, Array.toList_extract, List.extract_eq_take_drop]
  have : v.data.toList.length = v.size := rfl
  simp
  exact List.take_of_length_le (Nat.le_of_eq this)
theorem cutR_short {R : List RulD} {v : ByteArray} (h : v.size ≤ keepR R) : cutR R v = v := by
  unfold cutR; rw [show v.size - keepR R = 0 by omega, ba_all]
def okX (R : List RulD) (e : ByteArray) (x : Nat) : Bool := !endsR R (e ++ letterN x)
def nxtX (R : List RulD) (e : ByteArray) (x : Nat) : ByteArray := cutR R (e ++ letterN x)
/-- the number of ways to go on from an end by m letters -/
def paths (R : List RulD) (k : Nat) : Nat → ByteArray → Nat
  | 0, _ => 1
  | m + 1, e => ((List.range k).map fun x => if okX R e x = true then paths R k m (nxtX R e x) else 0).sum
/-- .. that begin with one of the first j letters -/
def pTo (R : List RulD) (k m : Nat) (e : ByteArray) (j : Nat) : Nat := ((List.range j).map fun x => if okX R e x = true then paths R k m (nxtX R e x) else 0).sum
theorem paths_succ (R : List RulD) (k m : Nat) (e : ByteArray) : paths R k (m + 1) e = pTo R k m e k := rfl
theorem pTo_zero (R : List RulD) (k m : Nat) (e : ByteArray) : pTo R k m e 0 = 0 := rfl
theorem pTo_yes {R : List RulD} {k m : Nat} {e : ByteArray} {j : Nat} (h : okX R e j = true) : pTo R k m e (j + 1) = pTo R k m e j + paths R k m (nxtX R e j) := by
  unfold pTo; rw [List.range_succ, List.map_append, List.sum_append]; simp [h]
theorem pTo_no {R : List RulD} {k m : Nat} {e : ByteArray} {j : Nat} (h : okX R e j = false) : pTo R k m e (j + 1) = pTo R k m e j := by
  unfold pTo; rw [List.range_succ, List.map_append, List.sum_append]; simp [h]
theorem paths_le {R : List RulD} {k : Nat} (hk : k ≤ 4) : ∀ (m : Nat) (e : ByteArray), paths R k m e ≤ 4 ^ m
  | 0, e => Nat.le_refl _
  | m + 1, e => by
    rw [paths_succ]
    have key : ∀ j, pTo R k m e j ≤ j * 4 ^ m := fun j => by
      induction j with
      | zero => rw [pTo_zero]; omega
      | succ j ih =>
        have := paths_le (R := R) hk m (nxtX R e j)
        rw [Nat.succ_mul]
        cases h : okX R e j
        · rw [pTo_no h]; omega
        · rw [pTo_yes h]; omega
    have h1 := key k
    have h2 : k * 4 ^ m ≤ 4 * 4 ^ m := Nat.mul_le_mul_right _ hk
    rw [Nat.pow_succ, Nat.mul_comm (4 ^ m) 4]
    omega
theorem pTo_mono (R : List RulD) (k m : Nat) (e : ByteArray) {i j : Nat} (h : i ≤ j) : pTo R k m e i ≤ pTo R k m e j := by
  induction h with
  | refl => exact Nat.le_refl _
  | @step j _ ih =>
    cases h : okX R e j
    · rw [pTo_no h]; exact ih
    · rw [pTo_yes h]; omega
/-- ends, and how many words have each of them -/
abbrev WayD := List (ByteArray × Nat)
/-- the words that they become by m letters more -/
def wsum (R : List RulD) (k m : Nat) (W : WayD) : Nat := (W.map fun p => p.2 * paths R k m p.1).sum
theorem wsum_app (R : List RulD) (k m : Nat) (W V : WayD) : wsum R k m (W ++ V) = wsum R k m W + wsum R k m V := by unfold wsum; rw [List.map_append, List.sum_append]
theorem wsum_one (R : List RulD) (k m : Nat) (v : ByteArray) (c : Nat) : wsum R k m [(v, c)] = c * paths R k m v := by simp [wsum]
theorem wsum_take (R : List RulD) (k m : Nat) (W : WayD) {i : Nat} (h : i < W.length) : wsum R k m (W.take (i + 1)) = wsum R k m (W.take i) + W[i].2 * paths R k m W[i].1 := by
  rw [List.take_succ_eq_append_getElem h, wsum_app, wsum_one]
theorem wsum_take_le (R : List RulD) (k m : Nat) (W : WayD) (i : Nat) : wsum R k m (W.take i) ≤ wsum R k m W := by
  have h := wsum_app R k m (W.take i) (W.drop i)
  rw [List.take_append_drop] at h
  omega
/-- more words with an end that is there -/
def addW (W : WayD) (i c : Nat) : WayD := W.modify i fun p => (p.1, p.2 + c)
theorem addW_split {W : WayD} {i c : Nat} (h : i < W.length) : addW W i c = W.take i ++ [(W[i].1, W[i].2 + c)] ++ W.drop (i + 1) := by
  unfold addW
  rw [List.modify_eq_take_cons_drop h]
  simp
theorem wsum_add {R : List RulD} {k m : Nat} {W : WayD} {i c : Nat} (h : i < W.length) : wsum R k m (addW W i c) = wsum R k m W + c * paths R k m W[i].1 := by
  have e : W = W.take i ++ [W[i]] ++ W.drop (i + 1) := by
    conv => lhs; rw [← List.take_append_drop i W, List.drop_eq_getElem_cons h]
    simp
  have h1 : wsum R k m W = wsum R k m (W.take i) + W[i].2 * paths R k m W[i].1 + wsum R k m (W.drop (i + 1)) := by
    conv => lhs; rw [e]
    rw [wsum_app, wsum_app]
    congr 2
  rw [addW_split h, wsum_app, wsum_app, wsum_one, h1, Nat.add_mul]
  omega
/-- each number is at least one -/
def PosW (W : WayD) : Prop := ∀ p ∈ W, 1 ≤ p.2
theorem PosW.len {R : List RulD} {k : Nat} : ∀ {W : WayD}, PosW W → W.length ≤ wsum R k 0 W
  | [], _ => Nat.le_refl _
  | p :: W, h => by
    have ih := PosW.len (R := R) (k := k) (W := W) (fun q hq => h q (List.mem_cons_of_mem _ hq))
    have h1 := h p List.mem_cons_self
    have e : wsum R k 0 (p :: W) = p.2 * 1 + wsum R k 0 W := by simp [wsum, paths]
    rw [e, List.length_cons]; omega
theorem PosW.add {W : WayD} (h : PosW W) (i c : Nat) : PosW (addW W i c) := fun p hp => by
  unfold addW at hp
  obtain ⟨j, hj, he⟩ := List.getElem_of_mem hp
  rw [List.getElem_modify] at he
  have h1 := h _ (List.getElem_mem (show j < W.length by simpa using hj))
  split at he
  · rw [← he]; show 1 ≤ _ + c; omega
  · rw [← he]; exact h1
theorem PosW.push {W : WayD} (h : PosW W) {v : ByteArray} {c : Nat} (hc : 1 ≤ c) : PosW (W ++ [(v, c)]) := fun p hp => by
  rcases List.mem_append.1 hp with hp | hp
  · exact h p hp
  · rw [List.mem_singleton.1 hp]; exact hc
/-- the ends are short -/
def ShortW (n : Nat) (W : WayD) : Prop := ∀ p ∈ W, p.1.size ≤ n
theorem ShortW.add {n : Nat} {W : WayD} (h : ShortW n W) (i c : Nat) : ShortW n (addW W i c) := fun p hp => by
  unfold addW at hp
  obtain ⟨j, hj, he⟩ := List.getElem_of_mem hp
  rw [List.getElem_modify] at he
  have h1 := h _ (List.getElem_mem (show j < W.length by simpa using hj))
  split at he
  · rw [← he]; exact h1
  · rw [← he]; exact h1
theorem ShortW.push {n : Nat} {W : WayD} (h : ShortW n W) {v : ByteArray} {c : Nat} (hv : v.size ≤ n) : ShortW n (W ++ [(v, c)]) := fun p hp => by
  rcases List.mem_append.1 hp with hp | hp
  · exact h p hp
  · rw [List.mem_singleton.1 hp]; exact hv
/-- the ways of a length -/
structure WayAt (R : List RulD) (k i : Nat) (W : WayD) : Prop where
  eq : ∀ m, wsum R k m W = paths R k (i + m) ⟨#[]⟩
  pos : PosW W
  short : ShortW (keepR R) W
theorem WayAt.start (R : List RulD) (k : Nat) : WayAt R k 0 [(⟨#[]⟩, 1)] := by
  refine ⟨fun m => by rw [wsum_one, Nat.zero_add]; omega, fun p hp => ?_, fun p hp => ?_⟩
  · rw [List.mem_singleton.1 hp]; exact Nat.le_refl _
  · rw [List.mem_singleton.1 hp]; exact Nat.zero_le _
/-- behind i ends and j letters of the next one -/
structure WayTo (R : List RulD) (k : Nat) (W : WayD) (i j : Nat) (e : ByteArray) (c : Nat) (V : WayD) : Prop where
  eq : ∀ m, wsum R k m V = wsum R k (m + 1) (W.take i) + c * pTo R k m e j
  pos : PosW V
  short : ShortW (keepR R) V
theorem WayTo.start (R : List RulD) (k : Nat) (W : WayD) (e : ByteArray) (c : Nat) : WayTo R k W 0 0 e c [] :=
  ⟨fun m => by rw [pTo_zero]; simp [wsum], fun p hp => (by cases hp), fun p hp => (by cases hp)⟩
theorem WayTo.no {R : List RulD} {k : Nat} {W V : WayD} {i j c : Nat} {e : ByteArray} (h : WayTo R k W i j e c V) (hx : okX R e j = false) : WayTo R k W i (j + 1) e c V :=
  ⟨fun m => by rw [pTo_no hx]; exact h.eq m, h.pos, h.short⟩
theorem WayTo.old {R : List RulD} {k : Nat} {W V : WayD} {i j c a : Nat} {e : ByteArray} (h : WayTo R k W i j e c V) (hx : okX R e j = true) (ha : a < V.length) (he : V[a].1 = nxtX R e j) : WayTo R k W i (j + 1) e c (addW V a c) :=
  ⟨fun m => by rw [wsum_add ha, he, h.eq m, pTo_yes hx, Nat.mul_add]; omega, h.pos.add _ _, h.short.add _ _⟩
theorem WayTo.new {R : List RulD} {k : Nat} {W V : WayD} {i j c : Nat} {e : ByteArray} (h : WayTo R k W i j e c V) (hx : okX R e j = true) (hc : 1 ≤ c) : WayTo R k W i (j + 1) e c (V ++ [(nxtX R e j, c)]) :=
  ⟨fun m => by rw [wsum_app, wsum_one, h.eq m, pTo_yes hx, Nat.mul_add]; omega, h.pos.push hc, h.short.push (cutR_size _ _)⟩
theorem WayTo.row {R : List RulD} {k : Nat} {W V : WayD} {i : Nat} (hi : i < W.length) (h : WayTo R k W i k W[i].1 W[i].2 V) (e : ByteArray) (c : Nat) : WayTo R k W (i + 1) 0 e c V :=
  ⟨fun m => by rw [h.eq m, wsum_take _ _ _ _ hi, paths_succ, pTo_zero]; omega, h.pos, h.short⟩
theorem WayTo.other {R : List RulD} {k : Nat} {W V : WayD} {i : Nat} {e e' : ByteArray} {c c' : Nat} (h : WayTo R k W i 0 e c V) : WayTo R k W i 0 e' c' V := ⟨fun m => by rw [h.eq m, pTo_zero, pTo_zero]; omega, h.pos, h.short⟩
theorem WayTo.done {R : List RulD} {k n : Nat} {W V : WayD} {e : ByteArray} {c : Nat} (hW : WayAt R k n W) (h : WayTo R k W W.length 0 e c V) : WayAt R k (n + 1) V :=
  ⟨fun m => by rw [h.eq m, List.take_length, hW.eq, pTo_zero, show n + (m + 1) = n + 1 + m by omega]; omega, h.pos, h.short⟩
/-- the numbers stay small -/
theorem WayTo.le {R : List RulD} {k n : Nat} (hk : k ≤ 4) {W V : WayD} {i j : Nat} (hW : WayAt R k n W) (hi : i < W.length) (hj : j ≤ k) (h : WayTo R k W i j W[i].1 W[i].2 V) : wsum R k 0 V ≤ 4 ^ (n + 1) := by
  rw [h.eq 0]
  have h1 := wsum_take_le R k (0 + 1) W (i + 1)
  rw [wsum_take _ _ _ _ hi, paths_succ] at h1
  have h2 := pTo_mono R k 0 W[i].1 hj
  have h3 : W[i].2 * pTo R k 0 W[i].1 j ≤ W[i].2 * pTo R k 0 W[i].1 k := Nat.mul_le_mul_left _ h2
  have h4 := hW.eq (0 + 1)
  have h5 := paths_le (R := R) hk (n + (0 + 1)) ⟨#[]⟩
  rw [← h4] at h5
  have h6 : n + (0 + 1) = n + 1 := by omega
  rw [h6] at h5
  omega
/-- the sum of the numbers -/
def cntTo (W : WayD) (j : Nat) : Nat := ((W.take j).map (·.2)).sum
theorem cntTo_succ {W : WayD} {j : Nat} (h : j < W.length) : cntTo W (j + 1) = cntTo W j + W[j].2 := by
  unfold cntTo; rw [List.take_succ_eq_append_getElem h, List.map_append, List.sum_append]; simp
theorem cntTo_all (R : List RulD) (k : Nat) (W : WayD) : cntTo W W.length = wsum R k 0 W := by
  unfold cntTo wsum paths; rw [List.take_length]; simp
theorem cntTo_mono (W : WayD) {i j : Nat} (h : i ≤ j) : cntTo W i ≤ cntTo W j := by
  unfold cntTo
  have e : W.take j = W.take i ++ (W.take j).drop i := by
    conv => lhs; rw [← List.take_append_drop i (W.take j)]
    rw [List.take_take, Nat.min_eq_left h]
  rw [e, List.map_append, List.sum_append]; omega
end Go.Proofs.YtmgdglghjlggnaaGreat
namespace Go.Proofs.YtmgdglghjlggnaaGreat
open Go.RowKit
set_option linter.unusedVariables false
abbrev Wd := List UInt8
def lt97 (x : Nat) : UInt8 := UInt8.ofNat (97 + x)
theorem lt97_inj {x y : Nat} (hx : x < 4) (hy : y < 4) (h : lt97 x = lt97 y) : x = y := by
  have h1 := congrArg UInt8.toNat h
  unfold lt97 at h1
  simp at h1
  omega
/-- one of the words ends v -/
def endsL (L : List Wd) (v : Wd) : Bool := L.any fun r => r.isSuffixOf v
theorem endsL_iff {L : List Wd} {v : Wd} : endsL L v = true ↔ ∃ r ∈ L, r <:+ v := by simp [endsL, List.any_eq_true]
def okL (L : List Wd) (v : Wd) (x : Nat) : Bool := !endsL L (v ++ [lt97 x])
/-- the number of ways to go on by m letters -/
def pwA (L : List Wd) (k : Nat) : Nat → Wd → Nat
  | 0, _ => 1
  | m + 1, v => ((List.range k).map fun x => if okL L v x = true then pwA L k m (v ++ [lt97 x]) else 0).sum
theorem sum_le {l : List Nat} {f g : Nat → Nat} (h : ∀ x ∈ l, f x ≤ g x) : (l.map f).sum ≤ (l.map g).sum := by
  induction l with
  | nil => exact Nat.le_refl _
  | cons a l ih =>
    have h1 := h a List.mem_cons_self
    have h2 := ih fun x hx => h x (List.mem_cons_of_mem _ hx)
    simp only [List.map_cons, List.sum_cons]
    omega
theorem suf_snoc {p v : Wd} {x : UInt8} (h : p <:+ v ++ [x]) : p = [] ∨ ∃ p', p = p' ++ [x] ∧ p' <:+ v := by
  rcases List.eq_nil_or_concat p with rfl | ⟨p', y, rfl⟩
  · exact .inl rfl
  · right
    rw [List.concat_eq_append] at h ⊢
    obtain ⟨t, ht⟩ := h
    rw [← List.append_assoc] at ht
    have h1 := List.append_inj' ht rfl
    obtain ⟨h2, h3⟩ := h1
    simp only [List.cons.injEq, and_true] at h3
    exact ⟨p', by rw [h3], t, h2⟩
theorem snoc_suf {p v : Wd} (h : p <:+ v) (x : UInt8) : p ++ [x] <:+ v ++ [x] := by
  obtain ⟨t, rfl⟩ := h
  exact ⟨t, by simp⟩
theorem okL_mono {L : List Wd} {p v : Wd} (h : p <:+ v) {x : Nat} (hx : okL L v x = true) : okL L p x = true := by
  unfold okL at *
  cases hb : endsL L (p ++ [lt97 x])
  · rfl
  · obtain ⟨r, hr, hs⟩ := endsL_iff.1 hb
    have : endsL L (v ++ [lt97 x]) = true := endsL_iff.2 ⟨r, hr, hs.trans (snoc_suf h _)⟩
    rw [this] at hx
    cases hx
theorem pw_mono (L : List Wd) (k : Nat) : ∀ (m : Nat) {p v : Wd}, p <:+ v → pwA L k m v ≤ pwA L k m p
  | 0, p, v, _ => Nat.le_refl _
  | m + 1, p, v, h => sum_le fun x _ => by
    by_cases h1 : okL L v x = true
    · rw [if_pos h1, if_pos (okL_mono h h1)]
      exact pw_mono L k m (snoc_suf h _)
    · rw [if_neg h1]
      exact Nat.zero_le _
/-- what a reader keeps: proper beginnings of the words -/
def inQ (L : List Wd) (q : Wd) : Prop := q = [] ∨ ∃ r ∈ L, ∃ y t, r = q ++ y :: t
theorem inQ_init {L : List Wd} {q : Wd} {x : UInt8} (h : inQ L (q ++ [x])) : inQ L q := by
  rcases h with h | ⟨r, hr, y, t, e⟩
  · simp at h
  · exact .inr ⟨r, hr, x, y :: t, by rw [e]; simp⟩
/-- s is what is kept of v -/
def Keeps (L : List Wd) (v s : Wd) : Prop := inQ L s ∧ s <:+ v ∧ ∀ q, inQ L q → q <:+ v → q <:+ s
theorem keeps_ex (L : List Wd) : ∀ v : Wd, ∃ s, Keeps L v s
  | [] => ⟨[], .inl rfl, ⟨[], rfl⟩, fun q _ h => h⟩
  | a :: v => by
    by_cases h : inQ L (a :: v)
    · exact ⟨a :: v, h, ⟨[], rfl⟩, fun q _ h => h⟩
    · obtain ⟨s, h1, h2, h3⟩ := keeps_ex L v
      refine ⟨s, h1, h2.trans (List.suffix_cons _ _), fun q hq hs => ?_⟩
      rcases List.suffix_cons_iff.1 hs with rfl | hs
      · exact absurd hq h
      · exact h3 q hq hs
theorem keeps_ok {L : List Wd} (hne : ∀ r ∈ L, r ≠ []) {v s : Wd} (h : s <:+ v ∧ ∀ q, inQ L q → q <:+ v → q <:+ s) (x : Nat) : okL L v x = okL L s x := by
  unfold okL
  congr 1
  rw [Bool.eq_iff_iff, endsL_iff, endsL_iff]
  constructor
  · rintro ⟨r, hr, hs⟩
    rcases suf_snoc hs with rfl | ⟨p, rfl, hp⟩
    · exact absurd rfl (hne _ hr)
    · exact ⟨_, hr, snoc_suf (h.2 p (.inr ⟨_, hr, lt97 x, [], rfl⟩) hp) _⟩
  · rintro ⟨r, hr, hs⟩
    exact ⟨r, hr, hs.trans (snoc_suf h.1 _)⟩
theorem keeps_pw {L : List Wd} (hne : ∀ r ∈ L, r ≠ []) (k : Nat) : ∀ (m : Nat) {v s : Wd}, (s <:+ v ∧ ∀ q, inQ L q → q <:+ v → q <:+ s) → pwA L k m v = pwA L k m s
  | 0, v, s, _ => rfl
  | m + 1, v, s, h => by
    unfold pwA
    congr 1
    apply List.map_congr_left
    intro x _
    rw [keeps_ok hne h x]
    have := keeps_pw hne k m (v := v ++ [lt97 x]) (s := s ++ [lt97 x]) ⟨snoc_suf h.1 _, fun q hq hs => by
      rcases suf_snoc hs with rfl | ⟨p, rfl, hp⟩
      · exact List.nil_suffix
      · exact snoc_suf (h.2 p (inQ_init hq) hp) _⟩
    rw [this]
/-- all ways of less than N letters -/
def tot (L : List Wd) (k N : Nat) (v : Wd) : Nat := ((List.range N).map fun m => pwA L k m v).sum
theorem sum_add (l : List Nat) (f g : Nat → Nat) : (l.map fun x => f x + g x).sum = (l.map f).sum + (l.map g).sum := by
  induction l with
  | nil => rfl
  | cons a l ih => simp only [List.map_cons, List.sum_cons, ih]; omega
theorem sum_zero (l : List Nat) : (l.map fun _ => 0).sum = 0 := by
  induction l with
  | nil => rfl
  | cons a l ih => simp only [List.map_cons, List.sum_cons, ih]
theorem tot_succ (L : List Wd) (k N : Nat) (v : Wd) : tot L k (N + 1) v = 1 + ((List.range k).map fun x => if okL L v x = true then tot L k N (v ++ [lt97 x]) else 0).sum := by
  induction N with
  | zero =>
    have : ((List.range k).map fun x => if okL L v x = true then tot L k 0 (v ++ [lt97 x]) else 0).sum = 0 := by
      refine Eq.trans ?_ (sum_zero (List.range k))
      congr 1
      apply List.map_congr_left
      intro x _
      split <;> rfl
    rw [this]
    rfl
  | succ N ih =>
    have e : ∀ v, tot L k (N + 1) v = tot L k N v + pwA L k N v := fun v => by
      unfold tot
      rw [List.range_succ, List.map_append, List.sum_append]
      simp
    have e2 : tot L k (N + 1 + 1) v = tot L k (N + 1) v + pwA L k (N + 1) v := by
      unfold tot
      rw [List.range_succ (n := N + 1), List.map_append, List.sum_append]
      simp
    rw [e2, ih, Nat.add_assoc]
    congr 1
    have e3 : pwA L k (N + 1) v = ((List.range k).map fun x => if okL L v x = true then pwA L k N (v ++ [lt97 x]) else 0).sum := rfl
    rw [e3, ← sum_add]
    congr 1
    apply List.map_congr_left
    intro x _
    split
    · rw [e]
    · rfl
theorem tot_eq {L : List Wd} {k N : Nat} (hN : pwA L k N [] = 0) (v : Wd) : tot L k N v = 1 + ((List.range k).map fun x => if okL L v x = true then tot L k N (v ++ [lt97 x]) else 0).sum := by
  have h0 : ∀ v, pwA L k N v = 0 := fun v => by
    have := pw_mono L k N (List.nil_suffix (l := v))
    omega
  have e2 : tot L k (N + 1) v = tot L k N v + pwA L k N v := by
    unfold tot
    rw [List.range_succ (n := N), List.map_append, List.sum_append]
    simp
  rw [← tot_succ, e2, h0]
  rfl
theorem tot_mono (L : List Wd) (k N : Nat) {p v : Wd} (h : p <:+ v) : tot L k N v ≤ tot L k N p := sum_le fun m _ => pw_mono L k m h
theorem mem_sum {l : List Nat} {f : Nat → Nat} {x : Nat} (h : x ∈ l) : f x ≤ (l.map f).sum := by
  induction l with
  | nil => cases h
  | cons a l ih =>
    simp only [List.map_cons, List.sum_cons]
    rcases List.mem_cons.1 h with rfl | h
    · omega
    · have := ih h; omega
theorem tot_less {L : List Wd} {k N : Nat} (hN : pwA L k N [] = 0) {v : Wd} {x : Nat} (hx : x < k) (ho : okL L v x = true) : tot L k N (v ++ [lt97 x]) < tot L k N v := by
  rw [tot_eq hN v]
  have := mem_sum (f := fun x => if okL L v x = true then tot L k N (v ++ [lt97 x]) else 0) (List.mem_range.2 hx)
  simp only [ho, if_true] at this
  omega
/-- 1, 2, 4, ..: one more than the d numbers ahead -/
def bons (d : Nat) : Nat → List Nat
  | 0 => [0]
  | n + 1 => (1 + ((bons d n).take d).sum) :: bons d n
def bon (d n : Nat) : Nat := (bons d n).headD 0
theorem bon_zero (d : Nat) : bon d 0 = 0 := rfl
/-- the first j of them from the n-th one down -/
def bonTo (d n : Nat) : Nat → Nat
  | 0 => 0
  | j + 1 => bon d n + bonTo d (n - 1) j
theorem bonTo_zero (d : Nat) : ∀ j, bonTo d 0 j = 0
  | 0 => rfl
  | j + 1 => by unfold bonTo; rw [bon_zero, bonTo_zero d j]
theorem bonTo_eq (d : Nat) : ∀ (n j : Nat), ((bons d n).take j).sum = bonTo d n j
  | n, 0 => by simp [bonTo]
  | 0, j + 1 => by rw [bonTo_zero]; simp [bons]
  | n + 1, j + 1 => by
    have h := bonTo_eq d n j
    unfold bonTo
    simp only [bons, List.take_succ_cons, List.sum_cons, Nat.add_sub_cancel]
    rw [h]
    rfl
theorem bon_succ (d n : Nat) : bon d (n + 1) = 1 + bonTo d n d := by
  show 1 + ((bons d n).take d).sum = _
  rw [bonTo_eq]
theorem bonTo_len (d : Nat) : ∀ (n : Nat) {i j : Nat}, i ≤ j → bonTo d n i ≤ bonTo d n j
  | n, 0, j, _ => Nat.zero_le _
  | n, i + 1, 0, h => by omega
  | n, i + 1, j + 1, h => by
    have := bonTo_len d (n - 1) (i := i) (j := j) (by omega)
    unfold bonTo
    omega
theorem bon_step (d : Nat) : ∀ n, bon d n ≤ bon d (n + 1) ∧ ∀ j, bonTo d n j ≤ bonTo d (n + 1) j := by
  intro n
  induction n with
  | zero => exact ⟨by rw [bon_zero]; exact Nat.zero_le _, fun j => by rw [bonTo_zero]; exact Nat.zero_le _⟩
  | succ n ih =>
    have h1 : bon d (n + 1) ≤ bon d (n + 1 + 1) := by
      rw [bon_succ, bon_succ]
      have := ih.2 d
      omega
    refine ⟨h1, fun j => ?_⟩
    cases j with
    | zero => exact Nat.le_refl _
    | succ j =>
      unfold bonTo
      have := ih.2 j
      simp only [Nat.add_sub_cancel]
      omega
theorem bon_mono (d : Nat) {m n : Nat} (h : m ≤ n) : bon d m ≤ bon d n := by
  induction h with
  | refl => exact Nat.le_refl _
  | @step n _ ih => exact Nat.le_trans ih (bon_step d n).1
theorem bonTo_mono (d j : Nat) {m n : Nat} (h : m ≤ n) : bonTo d m j ≤ bonTo d n j := by
  induction h with
  | refl => exact Nat.le_refl _
  | @step n _ ih => exact Nat.le_trans ih ((bon_step d n).2 j)
/-- how many of Q are in U -/
def cnt (Q : List Wd) (U : Wd → Bool) : Nat := (Q.filter U).length
theorem cnt_mono {Q : List Wd} {U V : Wd → Bool} (h : ∀ t, U t = true → V t = true) : cnt Q U ≤ cnt Q V := by
  unfold cnt
  induction Q with
  | nil => exact Nat.le_refl _
  | cons a Q ih =>
    rw [List.filter_cons, List.filter_cons]
    by_cases h1 : U a = true
    · rw [if_pos h1, if_pos (h a h1)]
      simp only [List.length_cons]; omega
    · rw [if_neg h1]
      split
      · simp only [List.length_cons]; omega
      · exact ih
theorem cnt_all (Q : List Wd) (U : Wd → Bool) : cnt Q U ≤ Q.length := List.length_filter_le _ _
theorem cnt_less {Q : List Wd} {U : Wd → Bool} {t : Wd} (ht : t ∈ Q) (hu : U t = true) : cnt Q (fun u => U u && !decide (u = t)) + 1 ≤ cnt Q U := by
  unfold cnt
  induction Q with
  | nil => cases ht
  | cons a Q ih =>
    have hm : ∀ Q : List Wd, (Q.filter fun u => U u && !decide (u = t)).length ≤ (Q.filter U).length := fun Q => cnt_mono (Q := Q) (V := U) fun t' h' => by
      cases h : U t'
      · rw [h] at h'; cases h'
      · rfl
    rw [List.filter_cons, List.filter_cons]
    by_cases e : a = t
    · subst e
      rw [hu]
      have := hm Q
      simp
      omega
    · have h1 := ih (by rcases List.mem_cons.1 ht with h | h; exact absurd h.symm e; exact h)
      by_cases h2 : U a = true
      · simp [h2, e]
        omega
      · simp [h2]
        omega
theorem max_ex {f : Wd → Nat} : ∀ {l : List Wd}, l ≠ [] → ∃ t ∈ l, ∀ u ∈ l, f u ≤ f t
  | [], h => absurd rfl h
  | [a], _ => ⟨a, List.mem_cons_self, fun u hu => by rw [List.mem_singleton.1 hu]; exact Nat.le_refl _⟩
  | a :: b :: l, _ => by
    obtain ⟨t, ht, hm⟩ := max_ex (f := f) (l := b :: l) (by simp)
    by_cases h : f t ≤ f a
    · refine ⟨a, List.mem_cons_self, fun u hu => ?_⟩
      rcases List.mem_cons.1 hu with rfl | hu
      · exact Nat.le_refl _
      · have := hm u hu; omega
    · refine ⟨t, List.mem_cons_of_mem _ ht, fun u hu => ?_⟩
      rcases List.mem_cons.1 hu with rfl | hu
      · omega
      · exact hm u hu
/-- t, and what lies below it -/
def down (f : Wd → Nat) (t : Wd) : Wd → Bool := fun u => decide (f u < f t) || decide (u = t)
theorem sum_down (d : Nat) (Q : List Wd) (f : Wd → Nat) : ∀ (j : Nat) (l : List Wd) (U : Wd → Bool), l.length = j → l.Nodup → (∀ t ∈ l, t ∈ Q ∧ ∀ u, down f t u = true → U u = true) → (l.map fun t => bon d (cnt Q (down f t))).sum ≤ bonTo d (cnt Q U) j
  | 0, l, U, hl, _, _ => by rw [List.length_eq_zero_iff.1 hl]; exact Nat.zero_le _
  | j + 1, l, U, hl, hn, hU => by
    obtain ⟨t, ht, hm⟩ := max_ex (f := f) (l := l) (by intro e; rw [e] at hl; simp at hl)
    have hp := List.perm_cons_erase ht
    have hn2 : (l.erase t).Nodup := hn.erase t
    have ih := sum_down d Q f j (l.erase t) (fun u => U u && !decide (u = t)) (by rw [List.length_erase_of_mem ht]; omega) hn2 (fun u hu => by
      have hu2 := (hn.mem_erase_iff).1 hu
      refine ⟨(hU u hu2.2).1, fun z hz => ?_⟩
      have h1 := (hU u hu2.2).2 z hz
      have h2 : z ≠ t := fun e => by
        subst e
        have h3 := hm u hu2.2
        unfold down at hz
        simp only [Bool.or_eq_true, decide_eq_true_eq] at hz
        rcases hz with hz | hz
        · omega
        · exact hu2.1 hz.symm
      simp [h1, h2])
    have e := (hp.map fun t => bon d (cnt Q (down f t))).sum_nat
    rw [e]
    simp only [List.map_cons, List.sum_cons]
    have h4 : cnt Q (down f t) ≤ cnt Q U := cnt_mono (hU t ht).2
    have h5 := bon_mono d h4
    have h6 := cnt_less (hU t ht).1 ((hU t ht).2 t (by simp [down]))
    have h7 := bonTo_mono d j (show cnt Q (fun u => U u && !decide (u = t)) ≤ cnt Q U - 1 by omega)
    unfold bonTo
    omega
/-- the bound -/
theorem tot_bound {L : List Wd} (hne : ∀ r ∈ L, r ≠ []) {k N d : Nat} (hk : k ≤ 4) (hN : pwA L k N [] = 0) {Q : List Wd} (hQ : ∀ q, inQ L q → (∀ y ∈ q, ∃ x, x < k ∧ y = lt97 x) → q ∈ Q)
    (hd : ∀ v, ((List.range k).filter fun x => okL L v x).length ≤ d) : ∀ (n : Nat) (s : Wd), tot L k N s ≤ n → inQ L s → (∀ y ∈ s, ∃ x, x < k ∧ y = lt97 x) → tot L k N s ≤ bon d (cnt Q (down (tot L k N) s))
  | 0, s, h, hs, hl => by
    rw [tot_eq hN] at h
    omega
  | n + 1, s, h, hs, hl => by
    have key : ∀ x, x < k → okL L s x = true → ∃ t, Keeps L (s ++ [lt97 x]) t ∧ tot L k N t = tot L k N (s ++ [lt97 x]) ∧ (∃ p, t = p ++ [lt97 x]) ∧ (∀ y ∈ t, ∃ x, x < k ∧ y = lt97 x) := fun x hx ho => by
      obtain ⟨t, ht⟩ := keeps_ex L (s ++ [lt97 x])
      have e : tot L k N t = tot L k N (s ++ [lt97 x]) := by
        unfold tot
        congr 1
        apply List.map_congr_left
        intro m _
        exact (keeps_pw hne k m ht.2).symm
      have hless := tot_less hN hx ho
      refine ⟨t, ht, e, ?_, fun y hy => ?_⟩
      · rcases suf_snoc ht.2.1 with h1 | ⟨p, h1, _⟩
        · subst h1
          have := tot_mono L k N (List.nil_suffix (l := s))
          omega
        · exact ⟨p, h1⟩
      · have h1 := ht.2.1.subset hy
        rcases List.mem_append.1 h1 with h1 | h1
        · exact hl y h1
        · exact ⟨x, hx, by simpa using h1⟩
    obtain ⟨g, hg⟩ : ∃ g : Nat → Wd, ∀ x, x < k → okL L s x = true → Keeps L (s ++ [lt97 x]) (g x) ∧ tot L k N (g x) = tot L k N (s ++ [lt97 x]) ∧ (∃ p, g x = p ++ [lt97 x]) ∧ (∀ y ∈ g x, ∃ x, x < k ∧ y = lt97 x) := by
      refine ⟨fun x => if h : x < k ∧ okL L s x = true then Classical.choose (key x h.1 h.2) else [], fun x hx ho => ?_⟩
      simp only [hx, ho, and_self, dif_pos]
      exact Classical.choose_spec (key x hx ho)
    let xs := (List.range k).filter fun x => okL L s x
    have hxs : ∀ x ∈ xs, x < k ∧ okL L s x = true := fun x hx => by
      have := List.mem_filter.1 hx
      exact ⟨List.mem_range.1 this.1, this.2⟩
    have hsum : ((List.range k).map fun x => if okL L s x = true then tot L k N (s ++ [lt97 x]) else 0).sum = (xs.map fun x => tot L k N (g x)).sum := by
      have e1 : ∀ l : List Nat, (∀ x ∈ l, x < k) → (l.map fun x => if okL L s x = true then tot L k N (s ++ [lt97 x]) else 0).sum = ((l.filter fun x => okL L s x).map fun x => tot L k N (g x)).sum := fun l => by
        induction l with
        | nil => intro _; rfl
        | cons a l ih =>
          intro hh
          have h1 := ih fun x hx => hh x (List.mem_cons_of_mem _ hx)
          rw [List.filter_cons]
          simp only [List.map_cons, List.sum_cons]
          rw [h1]
          by_cases h2 : okL L s a = true
          · rw [if_pos h2, if_pos h2]
            simp only [List.map_cons, List.sum_cons]
            rw [(hg a (hh a List.mem_cons_self) h2).2.1]
          · rw [if_neg h2, if_neg h2]
            omega
      exact e1 _ fun x hx => List.mem_range.1 hx
    have hmap : (xs.map fun x => tot L k N (g x)).sum ≤ (xs.map fun x => bon d (cnt Q (down (tot L k N) (g x)))).sum := sum_le fun x hx => by
      obtain ⟨hx1, hx2⟩ := hxs x hx
      obtain ⟨h1, h2, _, h4⟩ := hg x hx1 hx2
      have h5 := tot_less hN hx1 hx2
      exact tot_bound hne hk hN hQ hd n (g x) (by omega) h1.1 h4
    have hnd : (xs.map g).Nodup := by
      have h1 : xs.Nodup := List.Pairwise.filter _ List.nodup_range
      unfold List.Nodup at *
      rw [List.pairwise_map]
      refine h1.imp_of_mem fun {a b} ha hb hab e => hab ?_
      obtain ⟨ha1, ha2⟩ := hxs a ha
      obtain ⟨hb1, hb2⟩ := hxs b hb
      obtain ⟨p, hp⟩ := (hg a ha1 ha2).2.2.1
      obtain ⟨q, hq⟩ := (hg b hb1 hb2).2.2.1
      rw [hp, hq] at e
      have h2 := (List.append_inj' e rfl).2
      simp only [List.cons.injEq, and_true] at h2
      exact lt97_inj (by omega) (by omega) h2
    have hdn := sum_down d Q (tot L k N) xs.length (xs.map g) (fun u => decide (tot L k N u < tot L k N s)) (by simp) hnd (fun t ht => by
      obtain ⟨x, hx, rfl⟩ := List.mem_map.1 ht
      obtain ⟨hx1, hx2⟩ := hxs x hx
      obtain ⟨h1, h2, _, h4⟩ := hg x hx1 hx2
      have h5 := tot_less hN hx1 hx2
      refine ⟨hQ _ h1.1 h4, fun u hu => ?_⟩
      unfold down at hu
      simp only [Bool.or_eq_true, decide_eq_true_eq] at hu ⊢
      rcases hu with hu | rfl
      · omega
      · omega)
    rw [List.map_map] at hdn
    have hb1 := bonTo_len d (cnt Q fun u => decide (tot L k N u < tot L k N s)) (hd s)
    have hc : cnt Q (fun u => decide (tot L k N u < tot L k N s)) + 1 ≤ cnt Q (down (tot L k N) s) := by
      have h1 := cnt_less (Q := Q) (U := down (tot L k N) s) (hQ s hs hl) (by simp [down])
      have h2 := cnt_mono (Q := Q) (U := fun u => decide (tot L k N u < tot L k N s)) (V := fun u => down (tot L k N) s u && !decide (u = s)) (fun t ht => by
        simp only [decide_eq_true_eq] at ht
        have : t ≠ s := fun e => by subst e; omega
        simp [down, ht, this])
      omega
    have hb2 := bon_mono d hc
    rw [bon_succ] at hb2
    rw [tot_eq hN, hsum]
    have e3 : (xs.map fun x => bon d (cnt Q (down (tot L k N) (g x)))) = xs.map ((fun t => bon d (cnt Q (down (tot L k N) t))) ∘ g) := rfl
    rw [e3] at hmap
    have hb3 : bonTo d (cnt Q fun u => decide (tot L k N u < tot L k N s)) xs.length ≤ bonTo d (cnt Q fun u => decide (tot L k N u < tot L k N s)) d := hb1
    omega
theorem tot_le {L : List Wd} (hne : ∀ r ∈ L, r ≠ []) {k N d : Nat} (hk : k ≤ 4) (hN : pwA L k N [] = 0) {Q : List Wd} (hQ : ∀ q, inQ L q → (∀ y ∈ q, ∃ x, x < k ∧ y = lt97 x) → q ∈ Q)
    (hd : ∀ v, ((List.range k).filter fun x => okL L v x).length ≤ d) : tot L k N [] ≤ bon d Q.length :=
  Nat.le_trans (tot_bound hne hk hN hQ hd _ [] (Nat.le_refl _) (.inl rfl) (fun y hy => by cases hy)) (bon_mono d (cnt_all _ _))
end Go.Proofs.YtmgdglghjlggnaaGreat
