/-
  Functions over slices of integers: indices, and the laws' own copies and comparisons.
-/
import Derived.Test.YtgoeadgpbidgiaaGreatClp08
import Derived.Maps.OwnSet
import Derived.Deep.QuietTactic
import Derived.BigQuiet
import Derived.Deep.RegionHeld3
import Derived.IntWalk
import Derived.Test.YtgoeadgpbidgiaaGreatClp04
import Derived.Test.YtgoeadgpbidgiaaGreatClp01
import Derived.Test.YtgoeadgpbidgiaaGreatClp02
namespace Go.Proofs.YtgoeadgpbidgiaaGreat
open Go.RowKit
set_option linter.unusedVariables false
def leftsR (R : List RulD) : List Wd := R.map fun r => r.1.data.toList
theorem endsR_L (R : List RulD) (v : ByteArray) : endsR R v = endsL (leftsR R) v.data.toList := by
  unfold endsR endsL leftsR
  rw [List.any_map]
  rfl
theorem app_lt (e : ByteArray) (x : Nat) : (e ++ letterN x).data.toList = e.data.toList ++ [lt97 x] := by
  rw [ByteArray.data_append, Array.toList_append]
  congr 1
theorem okX_L (R : List RulD) (e : ByteArray) (x : Nat) : okX R e x = okL (leftsR R) e.data.toList x := by
  unfold okX okL
  rw [endsR_L, app_lt]
theorem cut_suf (R : List RulD) (v : ByteArray) : (cutR R v).data.toList <:+ v.data.toList := by
  unfold cutR
  rw [ByteArray.data_extract, Array.toList_extract, List.extract_eq_take_drop]
  have h : v.data.toList.length = v.size := rfl
  rw [List.take_of_length_le (by rw [List.length_drop]; omega)]
  exact List.drop_suffix _ _
theorem cut_len (R : List RulD) (v : ByteArray) : (cutR R v).data.toList.length = min (keepR R) v.size := by
  have h : ∀ z : ByteArray, z.data.toList.length = z.size := fun z => rfl
  rw [h]
  unfold cutR
  rw [ByteArray.size_extract]
  omega
theorem lsTo_at {R : List RulD} : ∀ {j i : Nat}, i < j → (nthR R i).1.size ≤ lsTo R j
  | 0, i, h => by omega
  | j + 1, i, h => by
    show _ ≤ max _ _
    by_cases e : i = j
    · subst e; omega
    · have := lsTo_at (R := R) (j := j) (i := i) (by omega); omega
theorem left_le {R : List RulD} {r : RulD} (h : r ∈ R) : r.1.size ≤ lsL R := by
  obtain ⟨i, hi, rfl⟩ := mem_nthR h
  exact lsTo_at hi
theorem inQ_short {R : List RulD} {q : Wd} (h : inQ (leftsR R) q) : q.length ≤ keepR R := by
  rcases h with rfl | ⟨r, hr, y, t, e⟩
  · simp
  · obtain ⟨z, hz, rfl⟩ := List.mem_map.1 hr
    have h1 := left_le hz
    have h2 : z.1.data.toList.length = z.1.size := rfl
    rw [e] at h2
    simp at h2
    unfold keepR
    omega
theorem cut_keeps (R : List RulD) (v : ByteArray) : (cutR R v).data.toList <:+ v.data.toList ∧ ∀ q, inQ (leftsR R) q → q <:+ v.data.toList → q <:+ (cutR R v).data.toList := by
  refine ⟨cut_suf R v, fun q hq hs => List.suffix_of_suffix_length_le hs (cut_suf R v) ?_⟩
  rw [cut_len]
  have h1 := inQ_short hq
  have h2 := hs.length_le
  have h3 : v.data.toList.length = v.size := rfl
  omega
/-- no Left is empty -/
def LeftsP (R : List RulD) : Prop := ∀ r ∈ leftsR R, r ≠ []
theorem paths_pw {R : List RulD} (hne : LeftsP R) (k : Nat) : ∀ (m : Nat) (e : ByteArray), paths R k m e = pwA (leftsR R) k m e.data.toList
  | 0, e => rfl
  | m + 1, e => by
    unfold paths pwA
    congr 1
    apply List.map_congr_left
    intro x _
    rw [okX_L, paths_pw hne k m (nxtX R e x)]
    have h := keeps_pw hne k m (cut_keeps R (e ++ letterN x))
    rw [app_lt] at h
    unfold nxtX
    rw [← h]
theorem paths_cut {R : List RulD} (hne : LeftsP R) (k m : Nat) (v : ByteArray) : paths R k m (cutR R v) = paths R k m v := by
  rw [paths_pw hne, paths_pw hne]; exact (keeps_pw hne k m (cut_keeps R v)).symm
theorem paths_nxt {R : List RulD} (hne : LeftsP R) (k m : Nat) (v : ByteArray) (x : Nat) : paths R k m (nxtX R v x) = paths R k m (v ++ letterN x) := paths_cut hne k m _
/-- what a system that is in order gives -/
structure SysG (R : List RulD) (k : Nat) : Prop where
  k4 : k ≤ 4
  few : R.length ≤ 12
  ne : LeftsP R
  le8 : ∀ r ∈ leftsR R, r.length ≤ 8
  let4 : ∀ r ∈ leftsR R, ∀ y ∈ r, ∃ x, x < k ∧ y = lt97 x
theorem sysG_of {k : Nat} {R : List RulD} (h : sysP (k : Int) R) : SysG R k := by
  obtain ⟨⟨⟨⟨_, hk⟩, h12⟩, hr⟩, _⟩ := h
  refine ⟨by omega, h12, fun r hm => ?_, fun r hm => ?_, fun r hm y hy => ?_⟩
  all_goals obtain ⟨z, hz, rfl⟩ := List.mem_map.1 hm
  · have h1 := (hr z hz).2
    intro e
    apply h1
    have h2 : z.1.data.toList.length = z.1.size := rfl
    rw [e] at h2
    exact h2.symm
  · exact (hr z hz).1.2.1
  · have h1 := (hr z hz).1.1.1
    unfold wordOkB allB at h1
    simp only [Bool.and_eq_true, List.all_eq_true] at h1
    have h2 := letB_true (h1.2.2 y hy)
    refine ⟨y.toNat - 97, by omega, ?_⟩
    unfold lt97
    apply UInt8.toNat_inj.1
    have := y.toNat_lt
    simp
    omega
/-- a step from an end to the next one -/
def StepE (R : List RulD) (k : Nat) (e e' : ByteArray) : Prop := ∃ x, x < k ∧ okX R e x = true ∧ nxtX R e x = e'
theorem paths_step {R : List RulD} {k : Nat} {e e' : ByteArray} (h : StepE R k e e') (m : Nat) : paths R k m e' ≤ paths R k (m + 1) e := by
  obtain ⟨x, hx, ho, rfl⟩ := h
  have := mem_sum (f := fun x => if okX R e x = true then paths R k m (nxtX R e x) else 0) (List.mem_range.2 hx)
  simp only [ho, if_true] at this
  exact this
theorem paths_zero {R : List RulD} {k : Nat} : ∀ {m : Nat} {e : ByteArray}, paths R k m e = 0 → paths R k (m + 1) e = 0
  | 0, e, h => by cases h
  | m + 1, e, h => by
    have h1 : ∀ x, x < k → okX R e x = true → paths R k m (nxtX R e x) = 0 := fun x hx ho => by
      have := paths_step (e' := nxtX R e x) ⟨x, hx, ho, rfl⟩ m
      omega
    rw [paths_succ]
    unfold pTo
    refine Eq.trans ?_ (sum_zero (List.range k))
    congr 1
    apply List.map_congr_left
    intro x hx
    split
    · rename_i ho
      exact paths_zero (h1 x (List.mem_range.1 hx) ho)
    · rfl
theorem paths_zero_le {R : List RulD} {k m n : Nat} {e : ByteArray} (h : paths R k m e = 0) (hmn : m ≤ n) : paths R k n e = 0 := by
  induction hmn with
  | refl => exact h
  | step _ ih => exact paths_zero ih
/-- h is the greatest number of letters behind e, or -1 if there is none -/
def HtIs (R : List RulD) (k : Nat) (e : ByteArray) (h : Int) : Prop := (h = -1 ∧ ∀ N, paths R k N e ≠ 0) ∨ ∃ n : Nat, h = (n : Int) ∧ paths R k n e ≠ 0 ∧ paths R k (n + 1) e = 0
theorem least_ex {P : Nat → Prop} : ∀ n, P n → ∃ m, P m ∧ ∀ j, j < m → ¬ P j
  | 0, h => ⟨0, h, fun j hj => by omega⟩
  | n + 1, h => by
    by_cases h1 : ∃ j, j < n + 1 ∧ P j
    · obtain ⟨j, hj, hp⟩ := h1
      exact least_lt j hj hp
    · exact ⟨n + 1, h, fun j hj hp => h1 ⟨j, hj, hp⟩⟩
where
  least_lt {P : Nat → Prop} {n : Nat} (j : Nat) (hj : j < n + 1) (hp : P j) : ∃ m, P m ∧ ∀ j, j < m → ¬ P j := by
    induction j using Nat.strongRecOn with
    | ind j ih =>
      by_cases h1 : ∃ i, i < j ∧ P i
      · obtain ⟨i, hi, hpi⟩ := h1
        exact ih i hi (by omega) hpi
      · exact ⟨j, hp, fun i hi hpi => h1 ⟨i, hi, hpi⟩⟩
theorem HtIs.ex (R : List RulD) (k : Nat) (e : ByteArray) : ∃ h, HtIs R k e h := by
  by_cases h : ∃ N, paths R k N e = 0
  · obtain ⟨N, hN⟩ := h
    obtain ⟨m, hm, hl⟩ := least_ex (P := fun N => paths R k N e = 0) N hN
    cases m with
    | zero => cases hm
    | succ m => exact ⟨_, .inr ⟨m, rfl, hl m (by omega), hm⟩⟩
  · exact ⟨_, .inl ⟨rfl, fun N hN => h ⟨N, hN⟩⟩⟩
theorem HtIs.uniq {R : List RulD} {k : Nat} {e : ByteArray} {h h' : Int} (a : HtIs R k e h) (b : HtIs R k e h') : h = h' := by
  rcases a with ⟨a1, a2⟩ | ⟨n, a1, a2, a3⟩ <;> rcases b with ⟨b1, b2⟩ | ⟨m, b1, b2, b3⟩
  · rw [a1, b1]
  · exact absurd b3 (a2 _)
  · exact absurd a3 (b2 _)
  · have : n = m := by
      rcases Nat.lt_trichotomy n m with h | h | h
      · exact absurd (paths_zero_le a3 (show n + 1 ≤ m by omega)) b2
      · exact h
      · exact absurd (paths_zero_le b3 (show m + 1 ≤ n by omega)) a2
    rw [a1, b1, this]
/-- behind a step the height is less -/
theorem HtIs.step {R : List RulD} {k : Nat} {e e' : ByteArray} {h h' : Int} (a : HtIs R k e h) (h0 : 0 ≤ h) (b : HtIs R k e' h') (s : StepE R k e e') : 0 ≤ h' ∧ h' < h := by
  rcases a with ⟨a1, _⟩ | ⟨n, a1, a2, a3⟩
  · omega
  · have h1 := paths_step s n
    rw [a3] at h1
    rcases b with ⟨b1, b2⟩ | ⟨m, b1, b2, b3⟩
    · exact absurd (Nat.le_zero.1 h1) (b2 n)
    · refine ⟨by omega, ?_⟩
      by_cases hmn : n ≤ m
      · exact absurd (paths_zero_le (Nat.le_zero.1 h1) hmn) b2
      · omega
/-- steps, at least one -/
inductive StepsE (R : List RulD) (k : Nat) : ByteArray → ByteArray → Prop
  | one {a b} : StepE R k a b → StepsE R k a b
  | more {a b c} : StepsE R k a b → StepE R k b c → StepsE R k a c
theorem HtIs.steps {R : List RulD} {k : Nat} {e e' : ByteArray} (s : StepsE R k e e') : ∀ {h h' : Int}, HtIs R k e h → 0 ≤ h → HtIs R k e' h' → 0 ≤ h' ∧ h' < h := by
  induction s with
  | one s => exact fun a h0 b => a.step h0 b s
  | @more b c s1 s2 ih =>
    intro h h' a h0 b'
    obtain ⟨h1, a1⟩ := HtIs.ex R k b
    have i1 := ih a h0 a1
    have i2 := a1.step i1.1 b' s2
    omega
/-- the heights behind the first j letters -/
def MostTo (R : List RulD) (k : Nat) (e : ByteArray) (j : Nat) (most : Int) : Prop :=
  (∀ x, x < j → okX R e x = true → ∃ h, HtIs R k (nxtX R e x) h ∧ 0 ≤ h ∧ h + 1 ≤ most) ∧ (most = 0 ∨ ∃ x, x < j ∧ okX R e x = true ∧ HtIs R k (nxtX R e x) (most - 1) ∧ 1 ≤ most)
theorem MostTo.start (R : List RulD) (k : Nat) (e : ByteArray) : MostTo R k e 0 0 := ⟨fun x hx => by omega, .inl rfl⟩
theorem MostTo.no {R : List RulD} {k : Nat} {e : ByteArray} {j : Nat} {most : Int} (h : MostTo R k e j most) (hx : okX R e j = false) : MostTo R k e (j + 1) most := by
  refine ⟨fun x hx1 ho => ?_, ?_⟩
  · by_cases e1 : x = j
    · subst e1; rw [hx] at ho; cases ho
    · exact h.1 x (by omega) ho
  · rcases h.2 with h2 | ⟨x, h3, h4⟩
    · exact .inl h2
    · exact .inr ⟨x, by omega, h4⟩
theorem MostTo.yes {R : List RulD} {k : Nat} {e : ByteArray} {j : Nat} {most d : Int} (h : MostTo R k e j most) (hx : okX R e j = true) (hd : HtIs R k (nxtX R e j) d) (h0 : 0 ≤ d) : MostTo R k e (j + 1) (max most (d + 1)) := by
  have hm : 0 ≤ most := by rcases h.2 with h2 | ⟨_, _, _, _, h2⟩ <;> omega
  refine ⟨fun x hx1 ho => ?_, ?_⟩
  · by_cases e1 : x = j
    · subst e1; exact ⟨d, hd, h0, by omega⟩
    · obtain ⟨h', i1, i2, i3⟩ := h.1 x (by omega) ho
      exact ⟨h', i1, i2, by omega⟩
  · by_cases h5 : d + 1 ≤ most
    · rw [Int.max_eq_left h5]
      rcases h.2 with h2 | ⟨x, h3, h4⟩
      · exact .inl h2
      · exact .inr ⟨x, by omega, h4⟩
    · rw [Int.max_eq_right (by omega)]
      exact .inr ⟨j, by omega, hx, by rw [Int.add_sub_cancel]; exact hd, by omega⟩
theorem MostTo.done {R : List RulD} {k : Nat} {e : ByteArray} {most : Int} (h : MostTo R k e k most) : HtIs R k e most := by
  have hm : 0 ≤ most := by rcases h.2 with h2 | ⟨_, _, _, _, h2⟩ <;> omega
  obtain ⟨n, rfl⟩ := Int.eq_ofNat_of_zero_le hm
  refine .inr ⟨n, rfl, ?_, ?_⟩
  · rcases h.2 with h2 | ⟨x, h3, h4, h5, h6⟩
    · have : n = 0 := by omega
      subst this
      intro h; cases h
    · obtain ⟨m, rfl⟩ : ∃ m, n = m + 1 := ⟨n - 1, by omega⟩
      rcases h5 with ⟨i1, _⟩ | ⟨m', i1, i2, i3⟩
      · omega
      · have : m' = m := by omega
        subst this
        have h7 := paths_step (e' := nxtX R e x) ⟨x, h3, h4, rfl⟩ m'
        omega
  · rw [paths_succ]
    unfold pTo
    refine Eq.trans ?_ (sum_zero (List.range k))
    congr 1
    apply List.map_congr_left
    intro x hx
    split
    · rename_i ho
      obtain ⟨h', i1, i2, i3⟩ := h.1 x (List.mem_range.1 hx) ho
      rcases i1 with ⟨j1, _⟩ | ⟨m', j1, j2, j3⟩
      · omega
      · exact paths_zero_le j3 (by omega)
    · rfl
/-- the ends that there may be -/
def allUp (k : Nat) : Nat → List Wd
  | 0 => [[]]
  | n + 1 => [] :: (List.range k).flatMap fun x => (allUp k n).map fun v => lt97 x :: v
theorem sum_const (l : List Nat) (c : Nat) : (l.map fun _ => c).sum = l.length * c := by
  induction l with
  | nil => simp
  | cons a l ih => simp only [List.map_cons, List.sum_cons, ih, List.length_cons, Nat.add_mul]; omega
theorem allUp_len {k : Nat} (hk : k ≤ 4) : ∀ n, 3 * (allUp k n).length + 1 ≤ 4 ^ (n + 1)
  | 0 => by simp [allUp]
  | n + 1 => by
    have ih := allUp_len hk n
    have h1 : (allUp k (n + 1)).length = k * (allUp k n).length + 1 := by
      show (_ :: _).length = _
      rw [List.length_cons, List.length_flatMap]
      simp only [List.length_map]
      rw [sum_const, List.length_range]
    have h2 : k * (allUp k n).length ≤ 4 * (allUp k n).length := Nat.mul_le_mul_right _ hk
    rw [h1, Nat.pow_succ]
    omega
theorem allUp_has {k : Nat} : ∀ {n : Nat} {v : Wd}, v.length ≤ n → (∀ y ∈ v, ∃ x, x < k ∧ y = lt97 x) → v ∈ allUp k n
  | 0, v, h, _ => by
    have := List.length_eq_zero_iff.1 (Nat.le_zero.1 h)
    subst this
    exact List.mem_cons_self
  | n + 1, [], h, _ => List.mem_cons_self
  | n + 1, y :: v, h, hl => by
    obtain ⟨x, hx, rfl⟩ := hl y List.mem_cons_self
    have ih := allUp_has (k := k) (n := n) (v := v) (by simpa using h) fun z hz => hl z (List.mem_cons_of_mem _ hz)
    unfold allUp
    apply List.mem_cons_of_mem
    exact List.mem_flatMap.2 ⟨x, List.mem_range.2 hx, List.mem_map.2 ⟨v, ih, rfl⟩⟩
/-- an end that there may be -/
def EndP (k : Nat) (e : ByteArray) : Prop := e.size ≤ 7 ∧ ∀ y ∈ e.data.toList, ∃ x, x < k ∧ y = lt97 x
theorem EndP.nil (k : Nat) : EndP k ⟨#[]⟩ := ⟨Nat.zero_le _, fun y hy => by cases hy⟩
theorem keep7 {R : List RulD} {k : Nat} (G : SysG R k) : keepR R ≤ 7 := by
  have key : ∀ j, j ≤ R.length → lsTo R j ≤ 8 := fun j => by
    induction j with
    | zero => intro _; exact Nat.zero_le _
    | succ j ih =>
      intro h
      have h1 := ih (by omega)
      have h2 := G.le8 (nthR R j).1.data.toList (List.mem_map.2 ⟨_, nthR_mem (by omega), rfl⟩)
      have h3 : (nthR R j).1.data.toList.length = (nthR R j).1.size := rfl
      show max _ _ ≤ _
      omega
  have h1 := key R.length (Nat.le_refl _)
  unfold keepR lsL
  omega
theorem EndP.nxt {R : List RulD} {k : Nat} (G : SysG R k) {e : ByteArray} (h : EndP k e) {x : Nat} (hx : x < k) : EndP k (nxtX R e x) := by
  refine ⟨Nat.le_trans (cutR_size _ _) (keep7 G), fun y hy => ?_⟩
  have h1 := (cut_suf R (e ++ letterN x)).subset hy
  rw [app_lt] at h1
  rcases List.mem_append.1 h1 with h1 | h1
  · exact h.2 y h1
  · exact ⟨x, hx, by simpa using h1⟩
theorem EndP.step {R : List RulD} {k : Nat} (G : SysG R k) {e e' : ByteArray} (h : EndP k e) (s : StepE R k e e') : EndP k e' := by
  obtain ⟨x, hx, _, rfl⟩ := s
  exact h.nxt G hx
/-- different ends are not many -/
theorem ends_few {k : Nat} (hk : k ≤ 4) {l : List ByteArray} (hn : l.Nodup) (h : ∀ e ∈ l, EndP k e) : l.length ≤ 21845 := by
  have h1 := nodup_len (l := l.map fun e => e.data.toList) (m := allUp k 7) (by
    unfold List.Nodup at *
    rw [List.pairwise_map]
    exact hn.imp fun hab e => hab (ba_ext0 e)) (fun v hv => by
    obtain ⟨e, he, rfl⟩ := List.mem_map.1 hv
    exact allUp_has (h e he).1 (h e he).2)
  have h2 := allUp_len hk 7
  have h3 : (4 : Nat) ^ (7 + 1) = 65536 := by decide
  rw [List.length_map] at h1
  omega
/-- a way of ends from the highest one down -/
theorem HtIs.way {R : List RulD} {k : Nat} (G : SysG R k) : ∀ (n : Nat) (e : ByteArray), EndP k e → HtIs R k e (n : Int) → ∃ l : List ByteArray, l.length = n + 1 ∧ l.Nodup ∧ (∀ t ∈ l, EndP k t ∧ ∃ h, HtIs R k t h ∧ h ≤ (n : Int))
  | 0, e, he, h => ⟨[e], rfl, by simp, fun t ht => by rw [List.mem_singleton.1 ht]; exact ⟨he, 0, h, by omega⟩⟩
  | n + 1, e, he, h => by
    have hp : paths R k (n + 1) e ≠ 0 := by
      rcases h with ⟨h1, _⟩ | ⟨m, h1, h2, _⟩
      · omega
      · have : m = n + 1 := by omega
        rw [← this]; exact h2
    have hex : ∃ x, x < k ∧ okX R e x = true ∧ paths R k n (nxtX R e x) ≠ 0 := by
      by_cases hc : ∃ x, x < k ∧ okX R e x = true ∧ paths R k n (nxtX R e x) ≠ 0
      · exact hc
      · exfalso
        apply hp
        rw [paths_succ]
        unfold pTo
        refine Eq.trans ?_ (sum_zero (List.range k))
        congr 1
        apply List.map_congr_left
        intro x hx
        split
        · rename_i ho
          by_cases h0 : paths R k n (nxtX R e x) = 0
          · exact h0
          · exact absurd ⟨x, List.mem_range.1 hx, ho, h0⟩ hc
        · rfl
    obtain ⟨x, hx, ho, hpx⟩ := hex
    obtain ⟨h', a⟩ := HtIs.ex R k (nxtX R e x)
    have hs := h.step (by omega) a ⟨x, hx, ho, rfl⟩
    have hn : h' = (n : Int) := by
      rcases a with ⟨a1, _⟩ | ⟨m, a1, a2, a3⟩
      · omega
      · by_cases hm : m < n
        · exact absurd (paths_zero_le a3 (show m + 1 ≤ n by omega)) hpx
        · omega
    subst hn
    obtain ⟨l, l1, l2, l3⟩ := HtIs.way G n (nxtX R e x) (he.nxt G hx) a
    refine ⟨e :: l, by rw [List.length_cons, l1], List.nodup_cons.2 ⟨fun hm => ?_, l2⟩, fun t ht => ?_⟩
    · obtain ⟨_, h2, b, hb⟩ := l3 e hm
      have := h.uniq b
      omega
    · rcases List.mem_cons.1 ht with rfl | ht
      · exact ⟨he, _, h, Int.le_refl _⟩
      · obtain ⟨q1, h2, b, hb⟩ := l3 t ht
        exact ⟨q1, h2, b, by omega⟩
theorem HtIs.le {R : List RulD} {k : Nat} (G : SysG R k) {e : ByteArray} (he : EndP k e) {h : Int} (a : HtIs R k e h) : h ≤ 21844 := by
  by_cases h0 : 0 ≤ h
  · obtain ⟨n, rfl⟩ := Int.eq_ofNat_of_zero_le h0
    obtain ⟨l, l1, l2, l3⟩ := HtIs.way G n e he a
    have := ends_few G.k4 l2 fun t ht => (l3 t ht).1
    omega
  · omega
/-- the way to an end that a search has come -/
structure WayE (R : List RulD) (k : Nat) (way : List ByteArray) (e : ByteArray) : Prop where
  nodup : way.Nodup
  ends : ∀ t ∈ way, EndP k t
  steps : ∀ t ∈ way, StepsE R k t e
  here : EndP k e
theorem WayE.start (R : List RulD) (k : Nat) : WayE R k [] ⟨#[]⟩ := ⟨List.nodup_nil, fun t ht => (by cases ht), fun t ht => (by cases ht), EndP.nil k⟩
theorem WayE.few {R : List RulD} {k : Nat} (G : SysG R k) {way : List ByteArray} {e : ByteArray} (h : WayE R k way e) : way.length ≤ 21845 := ends_few G.k4 h.nodup h.ends
theorem WayE.on {R : List RulD} {k : Nat} (G : SysG R k) {way : List ByteArray} {e : ByteArray} (h : WayE R k way e) (hne : e ∉ way) {x : Nat} (hx : x < k) (ho : okX R e x = true) : WayE R k (way ++ [e]) (nxtX R e x) := by
  have s : StepE R k e (nxtX R e x) := ⟨x, hx, ho, rfl⟩
  refine ⟨?_, fun t ht => ?_, fun t ht => ?_, h.here.step G s⟩
  · rw [List.nodup_append]
    exact ⟨h.nodup, by simp, fun a ha b hb hab => hne (by rw [List.mem_singleton.1 hb] at hab; rw [← hab]; exact ha)⟩
  · rcases List.mem_append.1 ht with ht | ht
    · exact h.ends t ht
    · rw [List.mem_singleton.1 ht]; exact h.here
  · rcases List.mem_append.1 ht with ht | ht
    · exact .more (h.steps t ht) s
    · rw [List.mem_singleton.1 ht]; exact .one s
end Go.Proofs.YtgoeadgpbidgiaaGreat
namespace Go.Proofs.YtgoeadgpbidgiaaGreat
open Go.RowKit Go.Maps Go.WideShapes
set_option linter.unusedVariables false
/-- an entry: a height that is known, or -1 at an end of the way -/
def HEnt (R : List RulD) (k : Nat) (way : List ByteArray) (p : Lit × DataW Unit) : Prop := ∃ e h, EndP k e ∧ p = (keyL e, .lit (.int .i64 h)) ∧ ((0 ≤ h ∧ HtIs R k e h) ∨ (h = -1 ∧ e ∈ way))
structure HMap (R : List RulD) (k : Nat) (way : List ByteArray) (D : DataW Unit) : Prop where
  es : ∃ es, D = .map es ∧ es.Pairwise (fun p q => p.1 ≠ q.1) ∧ ∀ p ∈ es, HEnt R k way p
  way : ∀ t ∈ way, Maps.has D (keyL t) = true
theorem HMap.start (R : List RulD) (k : Nat) : HMap R k [] (.map []) := ⟨⟨[], rfl, List.Pairwise.nil, fun p hp => by cases hp⟩, fun t ht => by cases ht⟩
theorem HMap.few {R : List RulD} {k : Nat} (hk : k ≤ 4) {way : List ByteArray} {D : DataW Unit} (h : HMap R k way D) : Maps.size D ≤ 21845 := by
  obtain ⟨es, rfl, hp, he⟩ := h.es
  let g : Lit × DataW Unit → ByteArray := fun p => match p.1 with | .string b => ⟨b.toArray⟩ | _ => ⟨#[]⟩
  have hg : ∀ p ∈ es, EndP k (g p) ∧ p.1 = keyL (g p) := fun p hm => by
    obtain ⟨e, h, h1, rfl, _⟩ := he p hm
    have e1 : g (keyL e, .lit (.int .i64 h)) = e := ba_ext0 rfl
    rw [e1]; exact ⟨h1, rfl⟩
  have h1 := ends_few hk (l := es.map g) (by
    unfold List.Nodup
    rw [List.pairwise_map]
    exact hp.imp_of_mem fun {a b} ha hb hab e => hab (by rw [(hg a ha).2, (hg b hb).2, e])) (fun e hm => by
    obtain ⟨p, hp, rfl⟩ := List.mem_map.1 hm
    exact (hg p hp).1)
  rw [Maps.size_eq]
  simpa using h1
theorem HMap.look {R : List RulD} {k : Nat} {way : List ByteArray} {D : DataW Unit} (h : HMap R k way D) {e : ByteArray} (hh : Maps.has D (keyL e) = true) : ∃ x : Int, (∀ zd, D.atKey (keyL e) zd = .lit (.int .i64 x)) ∧ ((0 ≤ x ∧ HtIs R k e x) ∨ (x = -1 ∧ e ∈ way)) := by
  obtain ⟨es, rfl, hp, he⟩ := h.es
  rw [has_eq, List.any_eq_true] at hh
  obtain ⟨q, hq, hs⟩ := hh
  cases hf : es.find? (fun p => p.1.sameKey (keyL e)) with
  | none => exact absurd hs ((List.find?_eq_none.1 hf) q hq)
  | some p =>
    have h1 := List.find?_some hf
    have h2 := List.mem_of_find?_eq_some hf
    obtain ⟨e', x, h3, rfl, h4⟩ := he p h2
    have h5 := keyL_same.1 h1
    subst h5
    refine ⟨x, fun zd => ?_, h4⟩
    unfold DataW.atKey
    simp only []
    rw [hf]
theorem put_mem {es : List (Lit × DataW Unit)} {kl : Lit} {d : DataW Unit} {E : List (Lit × DataW Unit)} (h : (DataW.map es).put kl d = .map E) : E.Perm ((kl, d) :: es.filter (fun p => !p.1.sameKey kl)) := by
  have h1 : (DataW.map es).put kl d = .map (DataW.insert (kl, d) (es.filter (fun p => !p.1.sameKey kl))) := rfl
  rw [h1] at h
  injection h with h
  rw [← h]
  exact insert_perm _ _
theorem pair_perm {l m : List (Lit × DataW Unit)} (hp : l.Perm m) (h : m.Pairwise (fun p q => p.1 ≠ q.1)) : l.Pairwise (fun p q => p.1 ≠ q.1) := hp.symm.pairwise h fun hab e => hab e.symm
theorem pair_put {es : List (Lit × DataW Unit)} (e : ByteArray) (d : DataW Unit) (hp : es.Pairwise (fun p q => p.1 ≠ q.1)) : ((keyL e, d) :: es.filter (fun p => !p.1.sameKey (keyL e))).Pairwise (fun p q => p.1 ≠ q.1) := by
  rw [List.pairwise_cons]
  refine ⟨fun q hq e1 => ?_, hp.filter _⟩
  have h1 := (List.mem_filter.1 hq).2
  have h2 : q.1 = keyL e := e1.symm
  rw [h2, keyL_same.2 rfl] at h1
  cases h1
/-- an end is being looked at -/
theorem HMap.open {R : List RulD} {k : Nat} {way : List ByteArray} {D : DataW Unit} (h : HMap R k way D) {e : ByteArray} (he : EndP k e) : HMap R k (way ++ [e]) (D.put (keyL e) (.lit (.int .i64 (-1)))) := by
  obtain ⟨es, rfl, hp, hm⟩ := h.es
  refine ⟨⟨_, rfl, pair_perm (put_mem rfl) (pair_put e _ hp), fun p hpm => ?_⟩, fun t ht => ?_⟩
  · rcases List.mem_cons.1 ((put_mem rfl).mem_iff.1 hpm) with rfl | h1
    · exact ⟨e, -1, he, rfl, .inr ⟨rfl, by simp⟩⟩
    · obtain ⟨e', x, h2, h3, h4⟩ := hm p (List.mem_filter.1 h1).1
      refine ⟨e', x, h2, h3, ?_⟩
      rcases h4 with h4 | ⟨h4, h5⟩
      · exact .inl h4
      · exact .inr ⟨h4, List.mem_append_left _ h5⟩
  · by_cases e1 : t = e
    · subst e1; exact has_put_same ⟨_, rfl⟩ (by trivial) _
    · rw [has_put_other (fun e2 => e1 (keyL_inj e2))]
      rcases List.mem_append.1 ht with h1 | h1
      · exact h.way t h1
      · exact absurd (List.mem_singleton.1 h1) e1
end Go.Proofs.YtgoeadgpbidgiaaGreat
namespace Go.Proofs.YtgoeadgpbidgiaaGreat
open Go.RowKit
set_option linter.unusedVariables false
end Go.Proofs.YtgoeadgpbidgiaaGreat
namespace Go.Proofs.YtgoeadgpbidgiaaGreat
open Go.RowKit
set_option linter.unusedVariables false
/-- a block that holds a reader -/
def RdAt (W : World) (p : Nat) (k : Int) (a : Option Addr) (n cap : Nat) (q : Nat) : Prop := W.cell? ⟨p, 0, none⟩ = some (.int .i64 k) ∧ W.cell? ⟨p, 1, none⟩ = some (.slice a n cap) ∧ W.cell? ⟨p, 2, none⟩ = some (.int .i64 (q : Nat))
theorem RdAt.later {W W' : World} {p : Nat} {k : Int} {a : Option Addr} {n cap q : Nat} (h : RdAt W p k a n cap q) (hb : Below W.heap.size W W') : RdAt W' p k a n cap q := by
  obtain ⟨h1, h2, h3⟩ := h
  exact ⟨by rw [hb.cell (World.block_lt_of_cell? W _ h1)]; exact h1, by rw [hb.cell (World.block_lt_of_cell? W _ h2)]; exact h2, by rw [hb.cell (World.block_lt_of_cell? W _ h3)]; exact h3⟩
/-- what newReader hands back -/
def RetRd (k : Int) (a : Option Addr) (n cap q : Nat) (w : World) (e : Ending) (w' : World) : Prop := ∃ p, e = .returned (.pointer (some ⟨p, 0, none⟩)) ∧ RdAt w' p k a n cap q ∧ w.heap.size ≤ p ∧ Below w.heap.size w w'
set_option maxRecDepth 20000 in
set_option maxHeartbeats 2000000 in
theorem newReader_any (k : Int) (l : List RulD) (a : Option Addr) (cap : Nat) (w : World) (hl : RulesIn w a l) (hlen : l.length ≤ 2 ^ 40) (hz : SzR l) :
    Calls Tryz.prog 48 #[.agg #[.int .i64 k, .slice a l.length cap]] w (RetRd k a l.length cap (keepR l) w) := by
  have HL := Lib.hid hl
  have HS := Lib.hid (fun W h => implLongestSide_any k l a cap W h hlen hz)
  have hm := lsTo_le hz l.length (Nat.le_refl _)
  have hm2 : lsL l ≤ 9223372036854775807 := by unfold maxLen at hm; exact hm
  have hmm := @run_makeMap Tryz.prog
  have HC : Hid (keepR l = lsL l - 1) := Lib.hid rfl
  generalize keepR l = q at *
  generalize lsL l = m at *
  have e1 : max (0 : Int) ((m : Int) - 1) = (q : Int) := by have := HC.out; omega
  have hw1 : IntKind.i64.wrap ((m : Int) - 1) = (m : Int) - 1 := IntWalk.i64_in _ (by omega)
  have hb0 := alloc_belowS w (.cells #[.int .i64 k, .slice a l.length cap] 25)
  clear hl hz hm
  go_enter Tryz.func48, Tryz.ntmps48
  go_wp2_with fail
  obtain ⟨w0, hw0⟩ : ∃ w0, w0 = w.alloc (.cells #[.int .i64 k, .slice a l.length cap] 25) := ⟨_, rfl⟩
  have hbx := sys_cells (alloc_at w (.cells #[.int .i64 k, .slice a l.length cap] 25))
  rw [← hw0] at hb0 hbx
  have HBX : Hid (∀ W, Below w0.heap.size w0 W → W.cell? ⟨w.heap.size, 0, none⟩ = some (.int .i64 k) ∧ W.cell? ⟨w.heap.size, 1, none⟩ = some (.slice a l.length cap)) := Lib.hid (fun W hW => ⟨by rw [hW.cell (World.block_lt_of_cell? w0 _ hbx.1)]; exact hbx.1, by rw [hW.cell (World.block_lt_of_cell? w0 _ hbx.2)]; exact hbx.2⟩)
  have HB0 := Lib.hid hb0
  rw [← hw0]
  obtain ⟨r0, r1⟩ := hbx
  clear hw0 hb0
  go_region_held3 (fun w' => w'.cell? ⟨w.heap.size, 0, none⟩ = some (.int .i64 k) ∧ w'.cell? ⟨w.heap.size, 1, none⟩ = some (.slice a l.length cap)) (go_keep) (first
    | (go_at_call 75; refine (HS.out _ (HL.out.later (Below.now HB0.out (by repeat (first | exact Below.refl _ _ | refine Below.drew ?_ | refine below_drewN ?_ _ | refine Below.alloc ?_ (by simp; try omega) _))))).mono ?_; rintro e w6 ⟨rfl, hb6⟩; have K6 : Hid (Below w0.heap.size w0 w6) := Lib.hid (Below.now (by repeat (first | exact Below.refl _ _ | refine Below.drew ?_ | refine below_drewN ?_ _ | refine Below.alloc ?_ (by simp; try omega) _)) hb6); have t0 := (HBX.out w6 K6.out).1; have t1 := (HBX.out w6 K6.out).2; clear hb6))
  all_goals
    first
      | (have F : Hid (RetRd k a l.length cap q w (.returned (.pointer (some ⟨w6.heap.size + 1, 0, none⟩))) ((w6.alloc (.map #[] 0)).alloc (.cells #[.int .i64 k, .slice a l.length cap, .int .i64 (q : Nat), .map (some w6.heap.size)] 125))) := Lib.hid (by
           have e2 : (w6.alloc (.map #[] 0)).heap.size = w6.heap.size + 1 := by simp
           refine ⟨_, rfl, ⟨?_, ?_, ?_⟩, ?_, ?_⟩
           · rw [← e2]; simp
           · rw [← e2]; simp
           · rw [← e2]; simp
           · have h1 := HB0.out.size; have h2 := K6.out.size; omega
           · exact (((Below.now HB0.out K6.out).alloc (Below.now HB0.out K6.out).size _).alloc (by have h1 := (Below.now HB0.out K6.out).size; simp; omega) _))
         clear t0 t1 r0 r1 hmm
         go_wp2_with fail
         go_ret
         exact F.out)
      | (have F : Hid (RetRd k a l.length cap q w (.returned (.pointer (some ⟨w6.heap.size, 0, none⟩))) (w6.alloc (.cells #[.int .i64 k, .slice a l.length cap, .int .i64 (q : Nat), .map (some w0.heap.size)] 125))) := Lib.hid (by
           refine ⟨_, rfl, ⟨?_, ?_, ?_⟩, ?_, ?_⟩
           · simp
           · simp
           · simp
           · have h1 := HB0.out.size; have h2 := K6.out.size; omega
           · exact ((Below.now HB0.out K6.out).alloc (Below.now HB0.out K6.out).size _))
         clear t0 t1 r0 r1 hmm
         go_wp2_with fail
         go_ret
         exact F.out)
/-- what next hands back -/
def RetNx (R : List RulD) (e0 : ByteArray) (x : Nat) (w : World) (e : Ending) (w' : World) : Prop :=
  (okX R e0 x = true ∧ e = .returned (.tuple #[.string (nxtX R e0 x), .bool true]) ∧ Below w.heap.size w w') ∨ (okX R e0 x = false ∧ e = .returned (.tuple #[.string ⟨#[]⟩, .bool false]) ∧ Below w.heap.size w w')
set_option maxHeartbeats 400000 in
theorem next1_any (v x y : ByteArray) (box : Nat) (w : World) (hv : v.size ≤ 1000) (hb : w.cell? ⟨box, 0, none⟩ = some (.string v)) :
    Calls Tryz.prog 76 #[.agg #[.string x, .string y], .pointer (some ⟨box, 0, none⟩)] w (RetP (sufBB v x = true) w) := by
  have hb2 : ∀ o, (w.alloc o).cell? ⟨box, 0, none⟩ = some (.string v) := fun o => by rw [(alloc_belowS w o).cell (World.block_lt_of_cell? w _ hb)]; exact hb
  have HS := Lib.hid (fun W => Tryz.strings_HasSuffix v x W (by omega))
  have HB : Hid (Lib.hasSuffix v.data.toList x.data.toList = sufBB v x) := Lib.hid rfl
  have HA := Lib.hid (fun o => alloc_belowS w o)
  rw [HB.out] at HS
  generalize sufBB v x = bb at *
  go_enter Tryz.func76, Tryz.ntmps76
  go_wp2_with fail
  refine (HS.out _).mono ?_
  rintro e w2 ⟨rfl, rfl⟩
  have F : Hid (RetP (bb = true) w (.returned (.bool bb)) (w.alloc (.cells #[.string x, .string y] 67))) := Lib.hid ⟨bb, Iff.rfl, rfl, HA.out _⟩
  go_wp2_with fail
  go_ret
  exact F.out
set_option maxRecDepth 20000 in
set_option maxHeartbeats 2000000 in
theorem readerNext_any (k : Int) (R : List RulD) (p : Nat) (e0 : ByteArray) (x : Nat) (a : Option Addr) (cap : Nat) (w : World) (hl : RulesIn w a R) (hlen : R.length ≤ 2 ^ 40) (hr : RdAt w p k a R.length cap (keepR R)) (hx : x < 26) (he : e0.size ≤ 900) (hq : keepR R ≤ 1000) :
    Calls Tryz.prog 49 #[.pointer (some ⟨p, 0, none⟩), .string e0, .int .i64 (x : Nat)] w (RetNx R e0 x w) := by
  have HL := Lib.hid hl
  have HR := Lib.hid hr
  have HLT := Lib.hid (fun W => letterOf_any x W hx)
  have HSZ : Hid ((e0 ++ letterN x).size = e0.size + 1) := Lib.hid (by rw [ByteArray.size_append, letterN_size])
  have hos := letterN_size x
  have hs2 : ¬ 9223372036854775807 < e0.size + 1 := by omega
  have hb0 := alloc_belowS w (.cells #[.string e0] 9)
  obtain ⟨w0, hw0⟩ : ∃ w0, w0 = w.alloc (.cells #[.string e0] 9) := ⟨_, rfl⟩
  have hbh : w0.heap[w.heap.size]? = some (.cells #[.string e0] 9 (0, 0)) := by rw [hw0]; exact alloc_at _ _
  clear hl hr
  go_enter Tryz.func49, Tryz.ntmps49
  go_wp2_with fail
  rw [← hw0] at hb0 ⊢
  have HB0 := Lib.hid hb0
  have HBH : Hid (∀ W, Below w0.heap.size w0 W → W.cell? ⟨w.heap.size, 0, none⟩ = some (.string e0) ∧ W.frozen? ⟨w.heap.size, 0, none⟩ = false) := Lib.hid (fun W hW => by
    have h1 := (hW.block w.heap.size (by rw [hw0]; simp)).trans hbh
    exact ⟨by simp [World.cell?, h1], by simp [World.frozen?, h1]⟩)
  obtain ⟨r0, r1⟩ := HBH.out w0 (Below.refl _ _)
  clear hw0 hb0 hbh
  have kr := Below.refl w0.heap.size w0
  go_region_law (first
    | (go_simp; go_at_call 71; refine (HLT.out _).mono ?_; rintro e w2 ⟨rfl, hb2⟩; dsimp only; have K2 : Hid (Below w0.heap.size w0 w2) := Lib.hid (Below.now (by repeat (first | exact Below.refl _ _ | refine Below.drew ?_ | refine below_drewN ?_ _)) hb2); have t0 := (HBH.out w2 K2.out).1; have t1 := (HBH.out w2 K2.out).2; clear hb2))
  all_goals
    have hcb : (w2.setCell ⟨w.heap.size, 0, none⟩ (.string (e0 ++ letterN x))).cell? ⟨w.heap.size, 0, none⟩ = some (.string (e0 ++ letterN x)) := by go_simp
    have hbw : Below w.heap.size w (w2.setCell ⟨w.heap.size, 0, none⟩ (.string (e0 ++ letterN x))) := (Below.now HB0.out K2.out).setCell (Nat.le_refl _) _
    have HOK : Hid (okX R e0 x = !endsR R (e0 ++ letterN x)) := Lib.hid rfl
    have HNX : Hid (nxtX R e0 x = (e0 ++ letterN x).extract ((e0 ++ letterN x).size - keepR R) (e0 ++ letterN x).size) := Lib.hid rfl
    clear t0 t1 r0 r1 HLT HBH K2 hos hs2
    generalize (w2.setCell ⟨w.heap.size, 0, none⟩ (.string (e0 ++ letterN x))) = w3 at *
    generalize e0 ++ letterN x = v at *
    have hvs : v.size ≤ 901 := by have := HSZ.out; omega
    have HBW := Lib.hid hbw
    have HEI : Hid (endsR R v = true ↔ ∃ r ∈ R, sufBB v r.1 = true) := Lib.hid endsR_iff
    have HCF := Lib.hid (containsFuncR_any 76 #[.pointer (some ⟨w.heap.size, 0, none⟩)] (fun r => sufBB v r.1 = true) R a cap w3 (HL.out.later hbw) hlen w3.heap.size (Nat.le_refl _) (fun j hj W hW => next1_any v _ _ w.heap.size W (by omega) (by rw [hW.cell (World.block_lt_of_cell? w3 _ hcb)]; exact hcb)) (enters_of Tryz.func76 (by kernel_rfl) rfl))
    obtain ⟨q0, q1, q2⟩ := HR.out.later hbw
    clear hbw
    go_wp2_with fail
    refine HCF.out.mono ?_
    rintro e w4 ⟨bb, hbb, rfl, hb4⟩
    have hcb4 : w4.cell? ⟨w.heap.size, 0, none⟩ = some (.string v) := by rw [hb4.cell (World.block_lt_of_cell? w3 _ hcb)]; exact hcb
    have p0 : w4.cell? ⟨p, 2, none⟩ = some (.int .i64 (keepR R : Nat)) := by rw [hb4.cell (World.block_lt_of_cell? w3 _ q2)]; exact q2
    have HB4 := Lib.hid (Below.now HBW.out hb4)
    have HBB := Lib.hid hbb
    clear hbb hb4 HCF hcb q0 q1 q2
    cases bb
    · have hen : endsR R v = false := by
        cases h : endsR R v
        · rfl
        · have := HBB.out.2 (HEI.out.1 h); cases this
      have hok : okX R e0 x = true := by rw [HOK.out, hen]; rfl
      have HOKT := Lib.hid hok
      clear hen hok HOK HBB HEI
      generalize keepR R = q at *
      have HF : Hid (∀ W, Below w.heap.size w W → RetNx R e0 x w (.returned (.tuple #[.string (v.extract (v.size - q) v.size), .bool true])) W) := Lib.hid (fun W hW => .inl ⟨HOKT.out, by rw [HNX.out], hW⟩)
      have hw9 : IntKind.i64.wrap ((v.size : Int) - (q : Int)) = (v.size : Int) - (q : Int) := IntWalk.i64_in _ (by omega)
      have hmx : max (0 : Int) ((v.size : Int) - (q : Int)) = ((v.size - q : Nat) : Int) := by omega
      have hl1 : ((v.size - q : Nat) : Int) ≤ (v.size : Int) := by omega
      have hl2 : v.size - q ≤ v.size := by omega
      go_wp2_with fail
      go_quiet (fail)
      clear hw9 hmx hl1 hl2 hcb4 p0
      go_wp2_with fail
      go_ret2
      exact HF.out _ (by have h := HB4.out; exact ⟨h.os, h.tape, h.output, h.size, h.block⟩)
    · have hen : endsR R v = true := HEI.out.2 (HBB.out.1 rfl)
      have F : Hid (RetNx R e0 x w (.returned (.tuple #[.string ⟨#[]⟩, .bool false])) w4) := Lib.hid (.inr ⟨by rw [HOK.out, hen]; rfl, rfl, HB4.out⟩)
      clear hen HOK HBB HEI hcb4 p0
      go_wp2_with fail
      go_ret2
      exact F.out
end Go.Proofs.YtgoeadgpbidgiaaGreat
namespace Go.Proofs.YtgoeadgpbidgiaaGreat
open Go.RowKit
set_option linter.unusedVariables false
def TwoB (w wr : World) (v : Value) (xs : List Value) (u : Value) (ys : List Value) : Prop :=
  Bld 9 1 w wr v xs.length xs ∧ Bld 3 1 w wr u ys.length ys ∧ ∀ k, v.ownBlock = some k → u.ownBlock ≠ some k
theorem TwoB.later {w wr wr' : World} {v u : Value} {xs ys : List Value} (h : TwoB w wr v xs u ys) (hb : Below wr.heap.size wr wr') : TwoB w wr' v xs u ys := ⟨h.1.later hb, h.2.1.later hb, h.2.2⟩
theorem keptB {T : TypeId} {w wr wr' : World} {v : Value} {n : Nat} {xs : List Value} {own : Option Nat} (h : Bld T 1 w wr v n xs) (hg : wr.grownBy wr' own) (hne : ∀ k, v.ownBlock = some k → own ≠ some k) (ho : ∀ k, own = some k → w.heap.size ≤ k) : Bld T 1 w wr' v n xs := by
  refine ⟨h.1.kept hg ?_, h.2.grown hg h.2.size ho⟩
  cases hv : v.ownBlock with
  | none => exact .inl rfl
  | some k => exact .inr fun e => hne k hv (e.symm ▸ rfl)
theorem setGrownB (w : World) (B o : Nat) (v : Value) : w.grownBy (w.setCell ⟨B, o, none⟩ v) (some B) := by
  have hszc : (w.setCell ⟨B, o, none⟩ v).heap.size = w.heap.size := by simp
  exact ⟨rfl, rfl, rfl, by rw [hszc]; exact Nat.le_refl _, fun k hk hne => by
    unfold World.setCell
    rw [Array.getElem?_modify, if_neg (fun e : B = k => hne (by rw [e]))]⟩
theorem owns_slot {w : World} {base : Nat} {T : TypeId} {v : Value} {n : Nat} {xs : List Value} (h : w.ownsRow base T 1 v n xs) (h0 : 0 < n) : ∃ g cap, v = .slice (some ⟨g, 0, none⟩) n cap := by
  rcases h.2 with ⟨hv, h1⟩ | ⟨g, cap', cur, hv, _⟩
  · omega
  · exact ⟨g, cap', hv⟩
end Go.Proofs.YtgoeadgpbidgiaaGreat
namespace Go.Proofs.YtgoeadgpbidgiaaGreat
open Go.RowKit
set_option linter.unusedVariables false
/-- the number at a place of a list -/
def nthZ (l : List Int) (i : Nat) : Int := l.getD i 0
/-- the product of two elements -/
def tm (m : Nat) (ln : List Nat) (i k : Nat) : Nat := ln.getD (i * m + k) 0
def asc (m : Nat) (ln : List Nat) (i j k : Nat) : Bool := decide (tm m ln (tm m ln i j) k = tm m ln i (tm m ln j k))
def idn (m : Nat) (ln : List Nat) (i : Nat) : Bool := decide (tm m ln 0 i = i) && decide (tm m ln i 0 = i)
def ascRow (m : Nat) (ln : List Nat) (i j : Nat) : Bool := (List.range m).all (asc m ln i j)
def rowOk (m : Nat) (ln : List Nat) (i : Nat) : Bool := idn m ln i && (List.range m).all (ascRow m ln i)
def rowsOk (m : Nat) (ln : List Nat) : Bool := (List.range m).all (rowOk m ln)
/-- the numbers lie in range -/
def rngB (n : Int) (l : List Int) : Bool := l.all fun x => inB x 0 (n - 1)
/-- TableOk as a function of plain data -/
def tabB (n : Int) (l : List Int) : Bool := inB n 1 40 && (decide ((l.length : Int) = n * n) && (rngB n l && rowsOk n.toNat (l.map Int.toNat)))
/-- a table whose numbers lie in range -/
structure Tb (m : Nat) (ln : List Nat) : Prop where
  lo : 1 ≤ m
  hi : m ≤ 40
  len : ln.length = m * m
  rng : ∀ x ∈ ln, x < m
/-- a valid table -/
structure TabOk (m : Nat) (ln : List Nat) : Prop extends Tb m ln where
  left : ∀ i, i < m → tm m ln 0 i = i
  right : ∀ i, i < m → tm m ln i 0 = i
  assoc : ∀ i j k, i < m → j < m → k < m → tm m ln (tm m ln i j) k = tm m ln i (tm m ln j k)
theorem ix_lt {m i k : Nat} (hi : i < m) (hk : k < m) : i * m + k < m * m := by
  have := Nat.mul_le_mul_right m (show i + 1 ≤ m from hi)
  rw [Nat.add_mul] at this
  omega
/-- a slice of natural numbers -/
def NatsIn (w : World) (a : Option Addr) (ln : List Nat) : Prop := IntsIn w a (ln.map Int.ofNat)
theorem NatsIn.later {w w' : World} {a : Option Addr} {l : List Nat} (h : NatsIn w a l) (hb : Below w.heap.size w w') : NatsIn w' a l := IntsIn.later h hb
/-- the cells of a table's products -/
theorem Tb.cell {m : Nat} {ln : List Nat} (h : Tb m ln) {w : World} {a : Option Addr} (hn : NatsIn w a ln) :
    ∃ b off, a = some ⟨b, off, none⟩ ∧ b < w.heap.size ∧ ∀ i k, i < m → k < m → w.cell? ⟨b, off + (i * m + k), none⟩ = some (.int .i64 (tm m ln i k : Nat)) := by
  have h0 : 0 * m + 0 < m * m := ix_lt h.lo h.lo
  obtain ⟨b, off, ha, hc⟩ := IntsIn.at hn (i := 0) (by simp [h.len]; omega)
  have key : ∀ i k, i < m → k < m → w.cell? ⟨b, off + (i * m + k), none⟩ = some (.int .i64 (tm m ln i k : Nat)) := by
    intro i k hi hk
    have hlt : i * m + k < ln.length := by rw [h.len]; exact ix_lt hi hk
    rw [hc _ (by simpa using hlt)]
    simp [tm, List.getD_eq_getElem?_getD, hlt]
  exact ⟨b, off, ha, World.block_lt_of_cell? w _ (key 0 0 h.lo h.lo), key⟩
theorem all_range {m : Nat} {p : Nat → Bool} : (List.range m).all p = true ↔ ∀ i, i < m → p i = true := by simp
theorem nthZ_lt {l : List Int} {j : Nat} (h : j < l.length) : nthZ l j = l[j] := by simp [nthZ, List.getD_eq_getElem?_getD, h]
theorem IntsIn.cell {w : World} {a : Option Addr} {l : List Int} (h : IntsIn w a l) {i : Nat} (hi : i < l.length) :
    ∃ b off, a = some ⟨b, off, none⟩ ∧ b < w.heap.size ∧ ∀ j, j < l.length → w.cell? ⟨b, off + j, none⟩ = some (.int .i64 (nthZ l j)) := by
  obtain ⟨b, off, ha, hc⟩ := h.at hi
  exact ⟨b, off, ha, World.block_lt_of_cell? w _ (hc i hi), hc⟩
theorem tabB_rows {m : Nat} {ln : List Nat} {b : Bool} (h : Tb m ln) (hr : rowsOk m ln = b) : tabB m (ln.map Int.ofNat) = b := by
  have h1 : inB (m : Int) 1 40 = true := by have := h.lo; have := h.hi; simp [inB]; omega
  have h2 : ((ln.map Int.ofNat).length : Int) = (m : Int) * m := by simp [h.len]
  have h3 : rngB (m : Int) (ln.map Int.ofNat) = true := by
    unfold rngB
    rw [List.all_eq_true]
    intro x hx
    obtain ⟨y, hy, rfl⟩ := List.mem_map.1 hx
    have := h.rng y hy
    simp [inB]; omega
  have h4 : (ln.map Int.ofNat).map Int.toNat = ln := by rw [List.map_map]; exact List.map_id'' (fun x => rfl) ln
  simp [tabB, h1, h3, h4, hr, h.len]
end Go.Proofs.YtgoeadgpbidgiaaGreat
namespace Go.Proofs.YtgoeadgpbidgiaaGreat
open Go.RowKit
set_option linter.unusedVariables false
end Go.Proofs.YtgoeadgpbidgiaaGreat
