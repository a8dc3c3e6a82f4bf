/-
  A round of splitting: keys numbered in a map; a copy of a slice of truth values.
-/
import Derived.Test.YtoddpmdjjgnpgaaGreatDoorGra07
import Derived.Test.YtoddpmdjjgnpgaaGreatDoorGra17
import Derived.Test.YtoddpmdjjgnpgaaGreatDoorGra16
import Derived.Maps.OwnSet
import Derived.Test.YtoddpmdjjgnpgaaGreatDoorGra15
namespace Go.Proofs.YtoddpmdjjgnpgaaGreatDoor
open Go.RowKit
set_option linter.unusedVariables false
def leftsR (R : List RulD) : List Wd := R.map fun r => r.1.data.toList
theorem endsR_L (R : List RulD) (v : ByteArray) : endsR R v = endsL (leftsR R) v.data.toList := by
  unfold endsR endsL leftsR
  rw [List.any_map]
  rfl
theorem app_lt (e : ByteArray) (x : Nat) : (e ++ letterN x).data.toList = e.data.toList ++ [lt97 x] := by
  rw [ByteArray.data_append, Array.toList_append]
  congr 1
theorem okX_L (R : List RulD) (e : ByteArray) (x : Nat) : okX R e x = okL (leftsR R) e.data.toList x := by
  unfold okX okL
  rw [endsR_L, app_lt]
theorem cut_suf (R : List RulD) (v : ByteArray) : (cutR R v).data.toList <:+ v.data.toList := by
  unfold cutR
  rw [ByteArray.data_extract, Array.toList_extract, List.extract_eq_take_drop]
  have h : v.data.toList.length = v.size := rfl
  rw [List.take_of_length_le (by rw [List.length_drop]; omega)]
  exact List.drop_suffix _ _
theorem cut_len (R : List RulD) (v : ByteArray) : (cutR R v).data.toList.length = min (keepR R) v.size := by
  have h : ∀ z : ByteArray, z.data.toList.length = z.size := fun z => rfl
  rw [h]
  unfold cutR
  rw [ByteArray.size_extract]
  omega
theorem lsTo_at {R : List RulD} : ∀ {j i : Nat}, i < j → (nthR R i).1.size ≤ lsTo R j
  | 0, i, h => by omega
  | j + 1, i, h => by
    show _ ≤ max _ _
    by_cases e : i = j
    · subst e; omega
    · have := lsTo_at (R := R) (j := j) (i := i) (by omega); omega
theorem left_le {R : List RulD} {r : RulD} (h : r ∈ R) : r.1.size ≤ lsL R := by
  obtain ⟨i, hi, rfl⟩ := mem_nthR h
  exact lsTo_at hi
theorem inQ_short {R : List RulD} {q : Wd} (h : inQ (leftsR R) q) : q.length ≤ keepR R := by
  rcases h with rfl | ⟨r, hr, y, t, e⟩
  · simp
  · obtain ⟨z, hz, rfl⟩ := List.mem_map.1 hr
    have h1 := left_le hz
    have h2 : z.1.data.toList.length = z.1.size := rfl
    rw [e] at h2
    simp at h2
    unfold keepR
    omega
theorem cut_keeps (R : List RulD) (v : ByteArray) : (cutR R v).data.toList <:+ v.data.toList ∧ ∀ q, inQ (leftsR R) q → q <:+ v.data.toList → q <:+ (cutR R v).data.toList := by
  refine ⟨cut_suf R v, fun q hq hs => List.suffix_of_suffix_length_le hs (cut_suf R v) ?_⟩
  rw [cut_len]
  have h1 := inQ_short hq
  have h2 := hs.length_le
  have h3 : v.data.toList.length = v.size := rfl
  omega
/-- no Left is empty -/
def LeftsP (R : List RulD) : Prop := ∀ r ∈ leftsR R, r ≠ []
theorem paths_pw {R : List RulD} (hne : LeftsP R) (k : Nat) : ∀ (m : Nat) (e : ByteArray), paths R k m e = pwA (leftsR R) k m e.data.toList
  | 0, e => rfl
  | m + 1, e => by
    unfold paths pwA
    congr 1
    apply List.map_congr_left
    intro x _
    rw [okX_L, paths_pw hne k m (nxtX R e x)]
    have h := keeps_pw hne k m (cut_keeps R (e ++ letterN x))
    rw [app_lt] at h
    unfold nxtX
    rw [← h]
theorem okX_cut {R : List RulD} (hne : LeftsP R) (v : ByteArray) (x : Nat) : okX R (cutR R v) x = okX R v x := by
  rw [okX_L, okX_L]; exact (keeps_ok hne (cut_keeps R v) x).symm
theorem paths_cut {R : List RulD} (hne : LeftsP R) (k m : Nat) (v : ByteArray) : paths R k m (cutR R v) = paths R k m v := by
  rw [paths_pw hne, paths_pw hne]; exact (keeps_pw hne k m (cut_keeps R v)).symm
theorem paths_nxt {R : List RulD} (hne : LeftsP R) (k m : Nat) (v : ByteArray) (x : Nat) : paths R k m (nxtX R v x) = paths R k m (v ++ letterN x) := paths_cut hne k m _
/-- what a system that is in order gives -/
structure SysG (R : List RulD) (k : Nat) : Prop where
  k4 : k ≤ 4
  few : R.length ≤ 12
  ne : LeftsP R
  le8 : ∀ r ∈ leftsR R, r.length ≤ 8
  let4 : ∀ r ∈ leftsR R, ∀ y ∈ r, ∃ x, x < k ∧ y = lt97 x
theorem sysG_of {k : Nat} {R : List RulD} (h : sysP (k : Int) R) : SysG R k := by
  obtain ⟨⟨⟨⟨_, hk⟩, h12⟩, hr⟩, _⟩ := h
  refine ⟨by omega, h12, fun r hm => ?_, fun r hm => ?_, fun r hm y hy => ?_⟩
  all_goals obtain ⟨z, hz, rfl⟩ := List.mem_map.1 hm
  · have h1 := (hr z hz).2
    intro e
    apply h1
    have h2 : z.1.data.toList.length = z.1.size := rfl
    rw [e] at h2
    exact h2.symm
  · exact (hr z hz).1.2.1
  · have h1 := (hr z hz).1.1.1
    unfold wordOkB allB at h1
    simp only [Bool.and_eq_true, List.all_eq_true] at h1
    have h2 := letB_true (h1.2.2 y hy)
    refine ⟨y.toNat - 97, by omega, ?_⟩
    unfold lt97
    apply UInt8.toNat_inj.1
    have := y.toNat_lt
    simp
    omega
/-- a step from an end to the next one -/
def StepE (R : List RulD) (k : Nat) (e e' : ByteArray) : Prop := ∃ x, x < k ∧ okX R e x = true ∧ nxtX R e x = e'
theorem paths_step {R : List RulD} {k : Nat} {e e' : ByteArray} (h : StepE R k e e') (m : Nat) : paths R k m e' ≤ paths R k (m + 1) e := by
  obtain ⟨x, hx, ho, rfl⟩ := h
  have := mem_sum (f := fun x => if okX R e x = true then paths R k m (nxtX R e x) else 0) (List.mem_range.2 hx)
  simp only [ho, if_true] at this
  exact this
theorem paths_zero {R : List RulD} {k : Nat} : ∀ {m : Nat} {e : ByteArray}, paths R k m e = 0 → paths R k (m + 1) e = 0
  | 0, e, h => by cases h
  | m + 1, e, h => by
    have h1 : ∀ x, x < k → okX R e x = true → paths R k m (nxtX R e x) = 0 := fun x hx ho => by
      have := paths_step (e' := nxtX R e x) ⟨x, hx, ho, rfl⟩ m
      omega
    rw [paths_succ]
    unfold pTo
    refine Eq.trans ?_ (sum_zero (List.range k))
    congr 1
    apply List.map_congr_left
    intro x hx
    split
    · rename_i ho
      exact paths_zero (h1 x (List.mem_range.1 hx) ho)
    · rfl
theorem paths_zero_le {R : List RulD} {k m n : Nat} {e : ByteArray} (h : paths R k m e = 0) (hmn : m ≤ n) : paths R k n e = 0 := by
  induction hmn with
  | refl => exact h
  | step _ ih => exact paths_zero ih
/-- h is the greatest number of letters behind e, or -1 if there is none -/
def HtIs (R : List RulD) (k : Nat) (e : ByteArray) (h : Int) : Prop := (h = -1 ∧ ∀ N, paths R k N e ≠ 0) ∨ ∃ n : Nat, h = (n : Int) ∧ paths R k n e ≠ 0 ∧ paths R k (n + 1) e = 0
theorem least_ex {P : Nat → Prop} : ∀ n, P n → ∃ m, P m ∧ ∀ j, j < m → ¬ P j
  | 0, h => ⟨0, h, fun j hj => by omega⟩
  | n + 1, h => by
    by_cases h1 : ∃ j, j < n + 1 ∧ P j
    · obtain ⟨j, hj, hp⟩ := h1
      exact least_lt j hj hp
    · exact ⟨n + 1, h, fun j hj hp => h1 ⟨j, hj, hp⟩⟩
where
  least_lt {P : Nat → Prop} {n : Nat} (j : Nat) (hj : j < n + 1) (hp : P j) : ∃ m, P m ∧ ∀ j, j < m → ¬ P j := by
    induction j using Nat.strongRecOn with
    | ind j ih =>
      by_cases h1 : ∃ i, i < j ∧ P i
      · obtain ⟨i, hi, hpi⟩ := h1
        exact ih i hi (by omega) hpi
      · exact ⟨j, hp, fun i hi hpi => h1 ⟨i, hi, hpi⟩⟩
theorem HtIs.ex (R : List RulD) (k : Nat) (e : ByteArray) : ∃ h, HtIs R k e h := by
  by_cases h : ∃ N, paths R k N e = 0
  · obtain ⟨N, hN⟩ := h
    obtain ⟨m, hm, hl⟩ := least_ex (P := fun N => paths R k N e = 0) N hN
    cases m with
    | zero => cases hm
    | succ m => exact ⟨_, .inr ⟨m, rfl, hl m (by omega), hm⟩⟩
  · exact ⟨_, .inl ⟨rfl, fun N hN => h ⟨N, hN⟩⟩⟩
theorem HtIs.uniq {R : List RulD} {k : Nat} {e : ByteArray} {h h' : Int} (a : HtIs R k e h) (b : HtIs R k e h') : h = h' := by
  rcases a with ⟨a1, a2⟩ | ⟨n, a1, a2, a3⟩ <;> rcases b with ⟨b1, b2⟩ | ⟨m, b1, b2, b3⟩
  · rw [a1, b1]
  · exact absurd b3 (a2 _)
  · exact absurd a3 (b2 _)
  · have : n = m := by
      rcases Nat.lt_trichotomy n m with h | h | h
      · exact absurd (paths_zero_le a3 (show n + 1 ≤ m by omega)) b2
      · exact h
      · exact absurd (paths_zero_le b3 (show m + 1 ≤ n by omega)) a2
    rw [a1, b1, this]
/-- behind a step the height is less -/
theorem HtIs.step {R : List RulD} {k : Nat} {e e' : ByteArray} {h h' : Int} (a : HtIs R k e h) (h0 : 0 ≤ h) (b : HtIs R k e' h') (s : StepE R k e e') : 0 ≤ h' ∧ h' < h := by
  rcases a with ⟨a1, _⟩ | ⟨n, a1, a2, a3⟩
  · omega
  · have h1 := paths_step s n
    rw [a3] at h1
    rcases b with ⟨b1, b2⟩ | ⟨m, b1, b2, b3⟩
    · exact absurd (Nat.le_zero.1 h1) (b2 n)
    · refine ⟨by omega, ?_⟩
      by_cases hmn : n ≤ m
      · exact absurd (paths_zero_le (Nat.le_zero.1 h1) hmn) b2
      · omega
/-- steps, at least one -/
inductive StepsE (R : List RulD) (k : Nat) : ByteArray → ByteArray → Prop
  | one {a b} : StepE R k a b → StepsE R k a b
  | more {a b c} : StepsE R k a b → StepE R k b c → StepsE R k a c
theorem HtIs.steps {R : List RulD} {k : Nat} {e e' : ByteArray} (s : StepsE R k e e') : ∀ {h h' : Int}, HtIs R k e h → 0 ≤ h → HtIs R k e' h' → 0 ≤ h' ∧ h' < h := by
  induction s with
  | one s => exact fun a h0 b => a.step h0 b s
  | @more b c s1 s2 ih =>
    intro h h' a h0 b'
    obtain ⟨h1, a1⟩ := HtIs.ex R k b
    have i1 := ih a h0 a1
    have i2 := a1.step i1.1 b' s2
    omega
/-- the heights behind the first j letters -/
def MostTo (R : List RulD) (k : Nat) (e : ByteArray) (j : Nat) (most : Int) : Prop :=
  (∀ x, x < j → okX R e x = true → ∃ h, HtIs R k (nxtX R e x) h ∧ 0 ≤ h ∧ h + 1 ≤ most) ∧ (most = 0 ∨ ∃ x, x < j ∧ okX R e x = true ∧ HtIs R k (nxtX R e x) (most - 1) ∧ 1 ≤ most)
theorem MostTo.start (R : List RulD) (k : Nat) (e : ByteArray) : MostTo R k e 0 0 := ⟨fun x hx => by omega, .inl rfl⟩
theorem MostTo.no {R : List RulD} {k : Nat} {e : ByteArray} {j : Nat} {most : Int} (h : MostTo R k e j most) (hx : okX R e j = false) : MostTo R k e (j + 1) most := by
  refine ⟨fun x hx1 ho => ?_, ?_⟩
  · by_cases e1 : x = j
    · subst e1; rw [hx] at ho; cases ho
    · exact h.1 x (by omega) ho
  · rcases h.2 with h2 | ⟨x, h3, h4⟩
    · exact .inl h2
    · exact .inr ⟨x, by omega, h4⟩
theorem MostTo.yes {R : List RulD} {k : Nat} {e : ByteArray} {j : Nat} {most d : Int} (h : MostTo R k e j most) (hx : okX R e j = true) (hd : HtIs R k (nxtX R e j) d) (h0 : 0 ≤ d) : MostTo R k e (j + 1) (max most (d + 1)) := by
  have hm : 0 ≤ most := by rcases h.2 with h2 | ⟨_, _, _, _, h2⟩ <;> omega
  refine ⟨fun x hx1 ho => ?_, ?_⟩
  · by_cases e1 : x = j
    · subst e1; exact ⟨d, hd, h0, by omega⟩
    · obtain ⟨h', i1, i2, i3⟩ := h.1 x (by omega) ho
      exact ⟨h', i1, i2, by omega⟩
  · by_cases h5 : d + 1 ≤ most
    · rw [Int.max_eq_left h5]
      rcases h.2 with h2 | ⟨x, h3, h4⟩
      · exact .inl h2
      · exact .inr ⟨x, by omega, h4⟩
    · rw [Int.max_eq_right (by omega)]
      exact .inr ⟨j, by omega, hx, by rw [Int.add_sub_cancel]; exact hd, by omega⟩
theorem MostTo.done {R : List RulD} {k : Nat} {e : ByteArray} {most : Int} (h : MostTo R k e k most) : HtIs R k e most := by
  have hm : 0 ≤ most := by rcases h.2 with h2 | ⟨_, _, _, _, h2⟩ <;> omega
  obtain ⟨n, rfl⟩ := Int.eq_ofNat_of_zero_le hm
  refine .inr ⟨n, rfl, ?_, ?_⟩
  · rcases h.2 with h2 | ⟨x, h3, h4, h5, h6⟩
    · have : n = 0 := by omega
      subst this
      intro h; cases h
    · obtain ⟨m, rfl⟩ : ∃ m, n = m + 1 := ⟨n - 1, by omega⟩
      rcases h5 with ⟨i1, _⟩ | ⟨m', i1, i2, i3⟩
      · omega
      · have : m' = m := by omega
        subst this
        have h7 := paths_step (e' := nxtX R e x) ⟨x, h3, h4, rfl⟩ m'
        omega
  · rw [paths_succ]
    unfold pTo
    refine Eq.trans ?_ (sum_zero (List.range k))
    congr 1
    apply List.map_congr_left
    intro x hx
    split
    · rename_i ho
      obtain ⟨h', i1, i2, i3⟩ := h.1 x (List.mem_range.1 hx) ho
      rcases i1 with ⟨j1, _⟩ | ⟨m', j1, j2, j3⟩
      · omega
      · exact paths_zero_le j3 (by omega)
    · rfl
/-- the ends that there may be -/
def allUp (k : Nat) : Nat → List Wd
  | 0 => [[]]
  | n + 1 => [] :: (List.range k).flatMap fun x => (allUp k n).map fun v => lt97 x :: v
theorem sum_const (l : List Nat) (c : Nat) : (l.map fun _ => c).sum = l.length * c := by
  induction l with
  | nil => simp
  | cons a l ih => simp only [List.map_cons, List.sum_cons, ih, List.length_cons, Nat.add_mul]; omega
theorem allUp_len {k : Nat} (hk : k ≤ 4) : ∀ n, 3 * (allUp k n).length + 1 ≤ 4 ^ (n + 1)
  | 0 => by simp [allUp]
  | n + 1 => by
    have ih := allUp_len hk n
    have h1 : (allUp k (n + 1)).length = k * (allUp k n).length + 1 := by
      show (_ :: _).length = _
      rw [List.length_cons, List.length_flatMap]
      simp only [List.length_map]
      rw [sum_const, List.length_range]
    have h2 : k * (allUp k n).length ≤ 4 * (allUp k n).length := Nat.mul_le_mul_right _ hk
    rw [h1, Nat.pow_succ]
    omega
theorem allUp_has {k : Nat} : ∀ {n : Nat} {v : Wd}, v.length ≤ n → (∀ y ∈ v, ∃ x, x < k ∧ y = lt97 x) → v ∈ allUp k n
  | 0, v, h, _ => by
    have := List.length_eq_zero_iff.1 (Nat.le_zero.1 h)
    subst this
    exact List.mem_cons_self
  | n + 1, [], h, _ => List.mem_cons_self
  | n + 1, y :: v, h, hl => by
    obtain ⟨x, hx, rfl⟩ := hl y List.mem_cons_self
    have ih := allUp_has (k := k) (n := n) (v := v) (by simpa using h) fun z hz => hl z (List.mem_cons_of_mem _ hz)
    unfold allUp
    apply List.mem_cons_of_mem
    exact List.mem_flatMap.2 ⟨x, List.mem_range.2 hx, List.mem_map.2 ⟨v, ih, rfl⟩⟩
/-- an end that there may be -/
def EndP (k : Nat) (e : ByteArray) : Prop := e.size ≤ 7 ∧ ∀ y ∈ e.data.toList, ∃ x, x < k ∧ y = lt97 x
theorem EndP.nil (k : Nat) : EndP k ⟨#[]⟩ := ⟨Nat.zero_le _, fun y hy => by cases hy⟩
theorem keep7 {R : List RulD} {k : Nat} (G : SysG R k) : keepR R ≤ 7 := by
  have key : ∀ j, j ≤ R.length → lsTo R j ≤ 8 := fun j => by
    induction j with
    | zero => intro _; exact Nat.zero_le _
    | succ j ih =>
      intro h
      have h1 := ih (by omega)
      have h2 := G.le8 (nthR R j).1.data.toList (List.mem_map.2 ⟨_, nthR_mem (by omega), rfl⟩)
      have h3 : (nthR R j).1.data.toList.length = (nthR R j).1.size := rfl
      show max _ _ ≤ _
      omega
  have h1 := key R.length (Nat.le_refl _)
  unfold keepR lsL
  omega
theorem EndP.nxt {R : List RulD} {k : Nat} (G : SysG R k) {e : ByteArray} (h : EndP k e) {x : Nat} (hx : x < k) : EndP k (nxtX R e x) := by
  refine ⟨Nat.le_trans (cutR_size _ _) (keep7 G), fun y hy => ?_⟩
  have h1 := (cut_suf R (e ++ letterN x)).subset hy
  rw [app_lt] at h1
  rcases List.mem_append.1 h1 with h1 | h1
  · exact h.2 y h1
  · exact ⟨x, hx, by simpa using h1⟩
theorem EndP.step {R : List RulD} {k : Nat} (G : SysG R k) {e e' : ByteArray} (h : EndP k e) (s : StepE R k e e') : EndP k e' := by
  obtain ⟨x, hx, _, rfl⟩ := s
  exact h.nxt G hx
/-- different ends are not many -/
theorem ends_few {k : Nat} (hk : k ≤ 4) {l : List ByteArray} (hn : l.Nodup) (h : ∀ e ∈ l, EndP k e) : l.length ≤ 21845 := by
  have h1 := nodup_len (l := l.map fun e => e.data.toList) (m := allUp k 7) (by
    unfold List.Nodup at *
    rw [List.pairwise_map]
    exact hn.imp fun hab e => hab (ba_ext0 e)) (fun v hv => by
    obtain ⟨e, he, rfl⟩ := List.mem_map.1 hv
    exact allUp_has (h e he).1 (h e he).2)
  have h2 := allUp_len hk 7
  have h3 : (4 : Nat) ^ (7 + 1) = 65536 := by decide
  rw [List.length_map] at h1
  omega
/-- a way of ends from the highest one down -/
theorem HtIs.way {R : List RulD} {k : Nat} (G : SysG R k) : ∀ (n : Nat) (e : ByteArray), EndP k e → HtIs R k e (n : Int) → ∃ l : List ByteArray, l.length = n + 1 ∧ l.Nodup ∧ (∀ t ∈ l, EndP k t ∧ ∃ h, HtIs R k t h ∧ h ≤ (n : Int))
  | 0, e, he, h => ⟨[e], rfl, by simp, fun t ht => by rw [List.mem_singleton.1 ht]; exact ⟨he, 0, h, by omega⟩⟩
  | n + 1, e, he, h => by
    have hp : paths R k (n + 1) e ≠ 0 := by
      rcases h with ⟨h1, _⟩ | ⟨m, h1, h2, _⟩
      · omega
      · have : m = n + 1 := by omega
        rw [← this]; exact h2
    have hex : ∃ x, x < k ∧ okX R e x = true ∧ paths R k n (nxtX R e x) ≠ 0 := by
      by_cases hc : ∃ x, x < k ∧ okX R e x = true ∧ paths R k n (nxtX R e x) ≠ 0
      · exact hc
      · exfalso
        apply hp
        rw [paths_succ]
        unfold pTo
        refine Eq.trans ?_ (sum_zero (List.range k))
        congr 1
        apply List.map_congr_left
        intro x hx
        split
        · rename_i ho
          by_cases h0 : paths R k n (nxtX R e x) = 0
          · exact h0
          · exact absurd ⟨x, List.mem_range.1 hx, ho, h0⟩ hc
        · rfl
    obtain ⟨x, hx, ho, hpx⟩ := hex
    obtain ⟨h', a⟩ := HtIs.ex R k (nxtX R e x)
    have hs := h.step (by omega) a ⟨x, hx, ho, rfl⟩
    have hn : h' = (n : Int) := by
      rcases a with ⟨a1, _⟩ | ⟨m, a1, a2, a3⟩
      · omega
      · by_cases hm : m < n
        · exact absurd (paths_zero_le a3 (show m + 1 ≤ n by omega)) hpx
        · omega
    subst hn
    obtain ⟨l, l1, l2, l3⟩ := HtIs.way G n (nxtX R e x) (he.nxt G hx) a
    refine ⟨e :: l, by rw [List.length_cons, l1], List.nodup_cons.2 ⟨fun hm => ?_, l2⟩, fun t ht => ?_⟩
    · obtain ⟨_, h2, b, hb⟩ := l3 e hm
      have := h.uniq b
      omega
    · rcases List.mem_cons.1 ht with rfl | ht
      · exact ⟨he, _, h, Int.le_refl _⟩
      · obtain ⟨q1, h2, b, hb⟩ := l3 t ht
        exact ⟨q1, h2, b, by omega⟩
theorem HtIs.le {R : List RulD} {k : Nat} (G : SysG R k) {e : ByteArray} (he : EndP k e) {h : Int} (a : HtIs R k e h) : h ≤ 21844 := by
  by_cases h0 : 0 ≤ h
  · obtain ⟨n, rfl⟩ := Int.eq_ofNat_of_zero_le h0
    obtain ⟨l, l1, l2, l3⟩ := HtIs.way G n e he a
    have := ends_few G.k4 l2 fun t ht => (l3 t ht).1
    omega
  · omega
/-- the way to an end that a search has come -/
structure WayE (R : List RulD) (k : Nat) (way : List ByteArray) (e : ByteArray) : Prop where
  nodup : way.Nodup
  ends : ∀ t ∈ way, EndP k t
  steps : ∀ t ∈ way, StepsE R k t e
  here : EndP k e
theorem WayE.start (R : List RulD) (k : Nat) : WayE R k [] ⟨#[]⟩ := ⟨List.nodup_nil, fun t ht => (by cases ht), fun t ht => (by cases ht), EndP.nil k⟩
theorem WayE.few {R : List RulD} {k : Nat} (G : SysG R k) {way : List ByteArray} {e : ByteArray} (h : WayE R k way e) : way.length ≤ 21845 := ends_few G.k4 h.nodup h.ends
theorem WayE.on {R : List RulD} {k : Nat} (G : SysG R k) {way : List ByteArray} {e : ByteArray} (h : WayE R k way e) (hne : e ∉ way) {x : Nat} (hx : x < k) (ho : okX R e x = true) : WayE R k (way ++ [e]) (nxtX R e x) := by
  have s : StepE R k e (nxtX R e x) := ⟨x, hx, ho, rfl⟩
  refine ⟨?_, fun t ht => ?_, fun t ht => ?_, h.here.step G s⟩
  · rw [List.nodup_append]
    exact ⟨h.nodup, by simp, fun a ha b hb hab => hne (by rw [List.mem_singleton.1 hb] at hab; rw [← hab]; exact ha)⟩
  · rcases List.mem_append.1 ht with ht | ht
    · exact h.ends t ht
    · rw [List.mem_singleton.1 ht]; exact h.here
  · rcases List.mem_append.1 ht with ht | ht
    · exact .more (h.steps t ht) s
    · rw [List.mem_singleton.1 ht]; exact .one s
end Go.Proofs.YtoddpmdjjgnpgaaGreatDoor
namespace Go.Proofs.YtoddpmdjjgnpgaaGreatDoor
open Go.RowKit Go.Maps Go.WideShapes
set_option linter.unusedVariables false
/-- an entry: a height that is known, or -1 at an end of the way -/
def HEnt (R : List RulD) (k : Nat) (way : List ByteArray) (p : Lit × DataW Unit) : Prop := ∃ e h, EndP k e ∧ p = (keyL e, .lit (.int .i64 h)) ∧ ((0 ≤ h ∧ HtIs R k e h) ∨ (h = -1 ∧ e ∈ way))
structure HMap (R : List RulD) (k : Nat) (way : List ByteArray) (D : DataW Unit) : Prop where
  es : ∃ es, D = .map es ∧ es.Pairwise (fun p q => p.1 ≠ q.1) ∧ ∀ p ∈ es, HEnt R k way p
  way : ∀ t ∈ way, Maps.has D (keyL t) = true
theorem HMap.start (R : List RulD) (k : Nat) : HMap R k [] (.map []) := ⟨⟨[], rfl, List.Pairwise.nil, fun p hp => by cases hp⟩, fun t ht => by cases ht⟩
theorem HMap.few {R : List RulD} {k : Nat} (hk : k ≤ 4) {way : List ByteArray} {D : DataW Unit} (h : HMap R k way D) : Maps.size D ≤ 21845 := by
  obtain ⟨es, rfl, hp, he⟩ := h.es
  let g : Lit × DataW Unit → ByteArray := fun p => match p.1 with | .string b => ⟨b.toArray⟩ | _ => ⟨#[]⟩
  have hg : ∀ p ∈ es, EndP k (g p) ∧ p.1 = keyL (g p) := fun p hm => by
    obtain ⟨e, h, h1, rfl, _⟩ := he p hm
    have e1 : g (keyL e, .lit (.int .i64 h)) = e := ba_ext0 rfl
    rw [e1]; exact ⟨h1, rfl⟩
  have h1 := ends_few hk (l := es.map g) (by
    unfold List.Nodup
    rw [List.pairwise_map]
    exact hp.imp_of_mem fun {a b} ha hb hab e => hab (by rw [(hg a ha).2, (hg b hb).2, e])) (fun e hm => by
    obtain ⟨p, hp, rfl⟩ := List.mem_map.1 hm
    exact (hg p hp).1)
  rw [Maps.size_eq]
  simpa using h1
theorem HMap.look {R : List RulD} {k : Nat} {way : List ByteArray} {D : DataW Unit} (h : HMap R k way D) {e : ByteArray} (hh : Maps.has D (keyL e) = true) : ∃ x : Int, (∀ zd, D.atKey (keyL e) zd = .lit (.int .i64 x)) ∧ ((0 ≤ x ∧ HtIs R k e x) ∨ (x = -1 ∧ e ∈ way)) := by
  obtain ⟨es, rfl, hp, he⟩ := h.es
  rw [has_eq, List.any_eq_true] at hh
  obtain ⟨q, hq, hs⟩ := hh
  cases hf : es.find? (fun p => p.1.sameKey (keyL e)) with
  | none => exact absurd hs ((List.find?_eq_none.1 hf) q hq)
  | some p =>
    have h1 := List.find?_some hf
    have h2 := List.mem_of_find?_eq_some hf
    obtain ⟨e', x, h3, rfl, h4⟩ := he p h2
    have h5 := keyL_same.1 h1
    subst h5
    refine ⟨x, fun zd => ?_, h4⟩
    unfold DataW.atKey
    simp only []
    rw [hf]
theorem put_mem {es : List (Lit × DataW Unit)} {kl : Lit} {d : DataW Unit} {E : List (Lit × DataW Unit)} (h : (DataW.map es).put kl d = .map E) : E.Perm ((kl, d) :: es.filter (fun p => !p.1.sameKey kl)) := by
  have h1 : (DataW.map es).put kl d = .map (DataW.insert (kl, d) (es.filter (fun p => !p.1.sameKey kl))) := rfl
  rw [h1] at h
  injection h with h
  rw [← h]
  exact insert_perm _ _
theorem pair_perm {l m : List (Lit × DataW Unit)} (hp : l.Perm m) (h : m.Pairwise (fun p q => p.1 ≠ q.1)) : l.Pairwise (fun p q => p.1 ≠ q.1) := hp.symm.pairwise h fun hab e => hab e.symm
theorem pair_put {es : List (Lit × DataW Unit)} (e : ByteArray) (d : DataW Unit) (hp : es.Pairwise (fun p q => p.1 ≠ q.1)) : ((keyL e, d) :: es.filter (fun p => !p.1.sameKey (keyL e))).Pairwise (fun p q => p.1 ≠ q.1) := by
  rw [List.pairwise_cons]
  refine ⟨fun q hq e1 => ?_, hp.filter _⟩
  have h1 := (List.mem_filter.1 hq).2
  have h2 : q.1 = keyL e := e1.symm
  rw [h2, keyL_same.2 rfl] at h1
  cases h1
/-- an end is being looked at -/
theorem HMap.open {R : List RulD} {k : Nat} {way : List ByteArray} {D : DataW Unit} (h : HMap R k way D) {e : ByteArray} (he : EndP k e) : HMap R k (way ++ [e]) (D.put (keyL e) (.lit (.int .i64 (-1)))) := by
  obtain ⟨es, rfl, hp, hm⟩ := h.es
  refine ⟨⟨_, rfl, pair_perm (put_mem rfl) (pair_put e _ hp), fun p hpm => ?_⟩, fun t ht => ?_⟩
  · rcases List.mem_cons.1 ((put_mem rfl).mem_iff.1 hpm) with rfl | h1
    · exact ⟨e, -1, he, rfl, .inr ⟨rfl, by simp⟩⟩
    · obtain ⟨e', x, h2, h3, h4⟩ := hm p (List.mem_filter.1 h1).1
      refine ⟨e', x, h2, h3, ?_⟩
      rcases h4 with h4 | ⟨h4, h5⟩
      · exact .inl h4
      · exact .inr ⟨h4, List.mem_append_left _ h5⟩
  · by_cases e1 : t = e
    · subst e1; exact has_put_same ⟨_, rfl⟩ (by trivial) _
    · rw [has_put_other (fun e2 => e1 (keyL_inj e2))]
      rcases List.mem_append.1 ht with h1 | h1
      · exact h.way t h1
      · exact absurd (List.mem_singleton.1 h1) e1
end Go.Proofs.YtoddpmdjjgnpgaaGreatDoor
namespace Go.Proofs.YtoddpmdjjgnpgaaGreatDoor
open Go.RowKit Go.Maps Go.WideMaps
set_option linter.unusedVariables false
theorem ownM_tight {w : World} {b m : Nat} {D : DataW Unit} (h : OwnM w b m D) : OwnM w b (Maps.size D) D := by
  obtain ⟨es, clock, h1, h2, h3, rfl⟩ := h
  exact ⟨es, clock, h1, h2, by rw [Maps.size_eq, length_sorted, List.length_map, Array.length_toList]; exact Nat.le_refl _, rfl⟩
end Go.Proofs.YtoddpmdjjgnpgaaGreatDoor
namespace Go.Proofs.YtoddpmdjjgnpgaaGreatDoor
open Go.RowKit Go.Maps Go.WideMaps
set_option linter.unusedVariables false
theorem lawB : LawfulBEq ByteArray where
  rfl := by
    intro a
    cases a with | mk d => 
    show (d == d) = true
    simp
  eq_of_beq {a b} h := by
    cases a with | mk d => 
    cases b with | mk e => 
    have h2 : (d == e) = true := h
    rw [eq_of_beq h2]
attribute [local instance] lawB
/-- a map holds these keys, numbered from 0 -/
structure NumM (D : DataW Unit) (K : List ByteArray) : Prop where
  rep : RepM D K.zipIdx
  nodup : K.Nodup
theorem NumM.nil : NumM (.map []) [] := ⟨RepM.nil, List.nodup_nil⟩
theorem zip_mem {K : List ByteArray} {p : ByteArray × Nat} (h : p ∈ K.zipIdx) : p.1 ∈ K := by
  obtain ⟨h1, h2, h3⟩ := List.mem_zipIdx h
  rw [h3]; exact List.getElem_mem _
theorem zip_at {K : List ByteArray} {v : ByteArray} (h : v ∈ K) : (v, K.idxOf v) ∈ K.zipIdx := by
  have h1 := List.idxOf_lt_length_of_mem h
  rw [List.mem_zipIdx_iff_getElem?]
  rw [List.getElem?_eq_getElem h1, List.getElem_idxOf h1]
theorem NumM.size {D : DataW Unit} {K : List ByteArray} (h : NumM D K) : Maps.size D = K.length := by
  obtain ⟨_, es, rfl, hp⟩ := h.rep
  rw [Maps.size_eq, hp.length_eq]
  simp
theorem NumM.yes {D : DataW Unit} {K : List ByteArray} (h : NumM D K) {v : ByteArray} (hv : v ∈ K) : Maps.has D (keyL v) = true := h.rep.has (zip_at hv)
theorem NumM.no {D : DataW Unit} {K : List ByteArray} (h : NumM D K) {v : ByteArray} (hv : v ∉ K) : Maps.has D (keyL v) = false := by
  obtain ⟨_, es, rfl, hp⟩ := h.rep
  rw [has_eq, List.any_eq_false]
  intro q hq hs
  obtain ⟨r, hr, rfl⟩ := List.mem_map.1 (hp.mem_iff.1 hq)
  have h3 : r.1 = v := keyL_same.1 hs
  exact hv (h3 ▸ zip_mem hr)
theorem NumM.new {D : DataW Unit} {K : List ByteArray} (h : NumM D K) {v : ByteArray} (hv : v ∉ K) : NumM (D.put (keyL v) (.lit (.int .i64 (K.length : Nat)))) (K ++ [v]) := by
  refine ⟨?_, ?_⟩
  · rw [List.zipIdx_append]
    have := h.rep.new (v := v) K.length (fun p hp e => hv (e ▸ zip_mem hp))
    simpa using this
  · rw [List.nodup_append]
    exact ⟨h.nodup, by simp, fun a ha b hb => by rw [List.mem_singleton.1 hb]; exact fun e => hv (e ▸ ha)⟩
theorem NumM.at {D : DataW Unit} {K : List ByteArray} (h : NumM D K) {v : ByteArray} (hv : v ∈ K) (zd : DataW Unit) : D.atKey (keyL v) zd = .lit (.int .i64 (K.idxOf v : Nat)) := by
  rcases h.rep.look v with ⟨i, hi, h1, h2⟩ | ⟨h1, _⟩
  · rw [h2]
    have h3 : K.zipIdx[i].2 = i := by simp
    have h4 : K[i]'(by simpa using hi) = v := by simpa using h1
    rw [h3]
    have h5 : K.idxOf v = i := by
      rw [← h4]
      exact List.Nodup.idxOf_getElem h.nodup i (by simpa using hi)
    rw [h5]
  · exact absurd rfl (h1 _ (zip_at hv))
section
variable {k : Nat} {N : List Int} {F : List Bool} {n : Nat}
/-- a round, ahead of state s -/
structure RndTo (k : Nat) (N : List Int) (F : List Bool) (c : Nat → Int) (s : Nat) (nx : List Int) (K : List ByteArray) : Prop where
  dead : ∀ t, t < s → ¬ LiveA k N F t → nx.getD t 0 = -1
  live : ∀ t, t < s → LiveA k N F t → textK k N F c t k ∈ K ∧ nx.getD t 0 = ((K.idxOf (textK k N F c t k) : Nat) : Int)
  all : ∀ v ∈ K, ∃ t, t < s ∧ LiveA k N F t ∧ textK k N F c t k = v
  few : K.length ≤ s
theorem RndTo.start (c : Nat → Int) (nx : List Int) : RndTo k N F c 0 nx [] := ⟨fun t h => by omega, fun t h => by omega, fun v hv => (by cases hv), Nat.le_refl _⟩
theorem setZ_same {l : List Int} {s : Nat} {v : Int} (h : s < l.length) : (l.set s v).getD s 0 = v := by simp [List.getD_eq_getElem?_getD, h]
theorem setZ_other {l : List Int} {s t : Nat} {v : Int} (h : t ≠ s) : (l.set s v).getD t 0 = l.getD t 0 := by
  rw [List.getD_eq_getElem?_getD, List.getD_eq_getElem?_getD, List.getElem?_set_ne (fun e => h e.symm)]
theorem RndTo.gone {c : Nat → Int} {s : Nat} {nx : List Int} {K : List ByteArray} (h : RndTo k N F c s nx K) (hs : s < nx.length) (hl : ¬ LiveA k N F s) : RndTo k N F c (s + 1) (nx.set s (-1)) K :=
  ⟨fun t ht hd => by
    by_cases e : t = s
    · subst e; exact setZ_same hs
    · rw [setZ_other e]; exact h.dead t (by omega) hd, fun t ht hd => by
    by_cases e : t = s
    · subst e; exact absurd hd hl
    · rw [setZ_other e]; exact h.live t (by omega) hd, fun v hv => by
    obtain ⟨t, h1, h2⟩ := h.all v hv
    exact ⟨t, by omega, h2⟩, by have := h.few; omega⟩
theorem RndTo.old {c : Nat → Int} {s : Nat} {nx : List Int} {K : List ByteArray} (h : RndTo k N F c s nx K) (hs : s < nx.length) (hl : LiveA k N F s) (hK : textK k N F c s k ∈ K) : RndTo k N F c (s + 1) (nx.set s ((K.idxOf (textK k N F c s k) : Nat) : Int)) K :=
  ⟨fun t ht hd => by
    by_cases e : t = s
    · subst e; exact absurd hl hd
    · rw [setZ_other e]; exact h.dead t (by omega) hd, fun t ht hd => by
    by_cases e : t = s
    · subst e; exact ⟨hK, setZ_same hs⟩
    · rw [setZ_other e]; exact h.live t (by omega) hd, fun v hv => by
    obtain ⟨t, h1, h2⟩ := h.all v hv
    exact ⟨t, by omega, h2⟩, by have := h.few; omega⟩
theorem idx_app {K : List ByteArray} {v : ByteArray} (u : ByteArray) (h : v ∈ K) : (K ++ [u]).idxOf v = K.idxOf v := by
  rw [List.idxOf_append, if_pos h]
theorem idx_new {K : List ByteArray} {v : ByteArray} (h : v ∉ K) : (K ++ [v]).idxOf v = K.length := by
  rw [List.idxOf_append, if_neg h]; simp
theorem RndTo.new {c : Nat → Int} {s : Nat} {nx : List Int} {K : List ByteArray} (h : RndTo k N F c s nx K) (hs : s < nx.length) (hl : LiveA k N F s) (hK : textK k N F c s k ∉ K) : RndTo k N F c (s + 1) (nx.set s (K.length : Nat)) (K ++ [textK k N F c s k]) :=
  ⟨fun t ht hd => by
    by_cases e : t = s
    · subst e; exact absurd hl hd
    · rw [setZ_other e]; exact h.dead t (by omega) hd, fun t ht hd => by
    by_cases e : t = s
    · subst e; exact ⟨by simp, by rw [idx_new hK]; exact setZ_same hs⟩
    · have h1 := h.live t (by omega) hd
      rw [setZ_other e, idx_app _ h1.1]; exact ⟨List.mem_append_left _ h1.1, h1.2⟩, fun v hv => by
    rcases List.mem_append.1 hv with hv | hv
    · obtain ⟨t, h1, h2⟩ := h.all v hv
      exact ⟨t, by omega, h2⟩
    · exact ⟨s, by omega, hl, (List.mem_singleton.1 hv).symm⟩, by rw [List.length_append]; have := h.few; simp; omega⟩
theorem RndTo.fin {c : Nat → Int} {nx : List Int} {K : List ByteArray} (h : RndTo k N F c n nx K) (hnd : K.Nodup) (hN : ∀ s x, s < n → x < k → nxI k N s x < n) (hc : ∀ s, s < n → LiveA k N F s → 0 ≤ c s ∧ c s ≤ 1000) : RndA k N F n c (fun s => nx.getD s 0) K.length := by
  refine ⟨h.dead, fun s hs hl => ?_, fun s t hs ht ls lt => ?_, fun q hq => ?_⟩
  · have h1 := h.live s hs hl
    have := List.idxOf_lt_length_of_mem h1.1
    show 0 ≤ nx.getD s 0 ∧ nx.getD s 0 < _
    rw [h1.2]; omega
  · have h1 := h.live s hs ls
    have h2 := h.live t ht lt
    show nx.getD s 0 = nx.getD t 0 ↔ _
    rw [h1.2, h2.2, ← text_key hN hc hs ht ls lt]
    constructor
    · intro e
      have e : K.idxOf (textK k N F c s k) = K.idxOf (textK k N F c t k) := by omega
      have a1 := List.getElem_idxOf (List.idxOf_lt_length_of_mem h1.1)
      have a2 := List.getElem_idxOf (List.idxOf_lt_length_of_mem h2.1)
      rw [← a1, ← a2]; congr 1
    · intro e; rw [e]
  · obtain ⟨t, h1, h2, h3⟩ := h.all _ (List.getElem_mem hq)
    refine ⟨t, h1, h2, ?_⟩
    show nx.getD t 0 = _
    rw [(h.live t h1 h2).2, h3, List.Nodup.idxOf_getElem hnd q hq]
/-- the numbers between the rounds, and how many there were -/
structure StA (k : Nat) (N : List Int) (F : List Bool) (n : Nat) (cl : List Int) (m : Int) : Prop where
  len : cl.length = n
  rng : ∀ s, s < n → LiveA k N F s → 0 ≤ cl.getD s 0 ∧ cl.getD s 0 ≤ 1000
  lang : ∀ s t, s < n → t < n → LiveA k N F s → LiveA k N F t → accA k N F s = accA k N F t → cl.getD s 0 = cl.getD t 0
  all : ∀ s, -1 ≤ cl.getD s 0 ∧ cl.getD s 0 ≤ 1000
  num : -1 ≤ m ∧ m ≤ n
  mid : m = -1 ∨ ∃ q : Nat, m = (q : Int) ∧ MidA k N F n (fun s => cl.getD s 0) q
theorem StA.start : StA k N F n (List.replicate n 0) (-1) := by
  have key : ∀ s, s < n → (List.replicate n (0 : Int)).getD s 0 = 0 := fun s hs => by simp [List.getD_eq_getElem?_getD, hs]
  refine ⟨by simp, fun s hs _ => by rw [key s hs]; omega, fun s t hs ht _ _ _ => by rw [key s hs, key t ht], fun s => ?_, by omega, .inl rfl⟩
  by_cases hs : s < n
  · rw [key s hs]; omega
  · rw [List.getD_eq_getElem?_getD, List.getElem?_eq_none (by simp; omega)]; simp
theorem StA.next {cl nx : List Int} {m : Int} {K : List ByteArray} (h : StA k N F n cl m) (hn : n ≤ 80) (hN : ∀ s x, s < n → x < k → nxI k N s x < n) (hl : nx.length = n) (hr : RndTo k N F (fun s => cl.getD s 0) n nx K) (hnd : K.Nodup) :
    StA k N F n nx (K.length : Nat) ∧ m ≤ (K.length : Nat) ∧ (((K.length : Nat) : Int) = m → ClsA k N F n (fun s => nx.getD s 0)) := by
  have hA := hr.fin hnd hN h.rng
  have hM := hA.mid h.lang hN
  have hle := hM.le
  refine ⟨⟨hl, fun s hs ls => ?_, hM.lang, fun s => ?_, by omega, .inr ⟨_, rfl, hM⟩⟩, ?_, fun e => ?_⟩
  · have := hM.live s hs ls; omega
  · by_cases hs : s < n
    · by_cases ls : LiveA k N F s
      · have := hM.live s hs ls; omega
      · rw [hr.dead s hs ls]; omega
    · rw [List.getD_eq_getElem?_getD, List.getElem?_eq_none (by omega)]; simp
  · rcases h.mid with h1 | ⟨q, rfl, h2⟩
    · omega
    · have := (rnd_more hN h2 hA).1; omega
  · rcases h.mid with h1 | ⟨q, rfl, h2⟩
    · omega
    · exact (rnd_more hN h2 hA).2 (by omega)
end
/-! ### memory -/
theorem bool_set {w : World} {base g n cap : Nat} {l : List Bool} (h : w.ownsRow base 4 1 (.slice (some ⟨g, 0, none⟩) n cap) n (boolsV l)) (i : Nat) (y : Bool) : (w.setCell ⟨g, i, none⟩ (.bool y)).ownsRow base 4 1 (.slice (some ⟨g, 0, none⟩) n cap) n (boolsV (l.set i y)) := by
  have := (World.ownsRow.stored h i (.bool y)).1
  have e : boolsV (l.set i y) = (boolsV l).set i (.bool y) := by simp [boolsV, List.map_set]
  rw [e]; exact this
theorem int_set {w : World} {base g n cap : Nat} {l : List Int} (h : w.ownsRow base 3 1 (.slice (some ⟨g, 0, none⟩) n cap) n (intVals l)) (i : Nat) (y : Int) : (w.setCell ⟨g, i, none⟩ (.int .i64 y)).ownsRow base 3 1 (.slice (some ⟨g, 0, none⟩) n cap) n (intVals (l.set i y)) := by
  have := (World.ownsRow.stored h i (.int .i64 y)).1
  have e : intVals (l.set i y) = (intVals l).set i (.int .i64 y) := by simp [intVals, List.map_set]
  rw [e]; exact this
theorem bool_at {w : World} {base g n cap : Nat} {T : TypeId} {l : List Bool} (h : w.ownsRow base T 1 (.slice (some ⟨g, 0, none⟩) n cap) n (boolsV l)) {i : Nat} (hi : i < n) : w.cell? ⟨g, i, none⟩ = some (.bool (l.getD i false)) ∧ w.frozen? ⟨g, i, none⟩ = false := by
  refine ⟨?_, World.ownsRow.frozenAt h i⟩
  have hl : l.length = n := by have := h.1; simpa [boolsV] using this
  rw [World.ownsRow.cellAt h i (by omega)]
  simp [boolsV, List.getD_eq_getElem?_getD, hl, hi]
theorem text_size {k : Nat} {N : List Int} {F : List Bool} {c : Nat → Int} (hc : ∀ s, (numB (c s)).size ≤ 21) (s : Nat) : ∀ x, (textK k N F c s x).size ≤ 22 + 22 * x
  | 0 => by
    rw [textK]; unfold headK
    have := hc s
    split
    · rw [ByteArray.size_append]; show _ + 1 ≤ _; omega
    · omega
  | x + 1 => by
    rw [textK, ByteArray.size_append, ByteArray.size_append]
    have h1 := text_size (k := k) (N := N) (F := F) hc s x
    have h2 : (pieceK k N F c s x).size ≤ 21 := by
      unfold pieceK
      split
      · exact hc _
      · show 1 ≤ 21; omega
    show _ + (1 + _) ≤ _
    omega
/-- an append of a whole slice to a new empty one -/
theorem wpList_copy1 {P : Program} {ops : Array Oper} {rest : List Oper} {o : Oper} {a : Act} {Q : Exit → Act → World → Prop} {T tsl : TypeId} {z : Value} {bytes : Nat} (hg : o.guard = none) (s x : Operand)
    (ho : o.op = .call { callee := .builtin .append, args := #[s, x], argTypes := #[tsl, tsl] }) (ht : P.underlying tsl = some (.slice T)) (hinfo : (P.info? T).map (fun i => (i.zero, i.size, i.bytes)) = some (some z, 1, bytes))
    (hzs : z.cells.size = 1) (hby : bytes ≤ 8) {w : World} {b off n cap : Nat} {xs : List Value} (hs : a.eval s = .slice (some ⟨w.heap.size, 0, none⟩) 0 0) (hx : a.eval x = .slice (some ⟨b, off, none⟩) n cap)
    (hc : ∀ j u, xs[j]? = some u → (w.alloc (.cells #[] T)).cell? ⟨b, off + j, none⟩ = some u) (hl : xs.length = n) (h1 : ∀ u ∈ xs, u.oneCell' = true) (h0 : 1 ≤ n) (h6 : n ≤ 1000000)
    (hK : ∀ g cap w', w'.ownsRow w.heap.size T 1 (.slice (some ⟨g, 0, none⟩) n cap) n xs → Below w.heap.size w w' → wpList P ops Q rest (a.put o.dst (.slice (some ⟨g, 0, none⟩) n cap)) w') :
    wpList P ops Q (o :: rest) a (w.alloc (.cells #[] T)) := by
  obtain ⟨i0, hi, hz0, hz1, hz2⟩ := info_parts hinfo
  have hb2 := alloc_belowS w (.cells #[] T)
  refine wpList_append_lies (w := w.alloc (.cells #[] T)) hg s x tsl ho w.heap.size T i0 z 1 bytes ht hi hz0 hz1 hz2 hzs (by omega) _ 0 [] hs (World.ownsRow_lit w #[] 0 (Nat.le_refl _) (by unfold maxLen; omega) (by simp)) ⟨b, off, none⟩ n cap xs hx (by omega) ?_ h1 (by omega) (by unfold maxLen; omega) ?_ (by simp) _ rfl ?_
  · intro j u hu
    have hadd : (⟨b, off, none⟩ : Addr).add j = ⟨b, off + j, none⟩ := by unfold Addr.add; split <;> simp_all
    rw [hadd]; exact hc j u hu
  · have : (0 + n) * bytes ≤ 1000000 * 8 := Nat.mul_le_mul (by omega) hby
    omega
  · intro g2 c2 w2 ho2 hg2 _ _
    rw [Nat.zero_add, List.nil_append] at ho2
    rw [Nat.zero_add]
    exact hK g2 c2 w2 ho2 (Below.grown hb2 hg2 (by simp) (fun k hk => by simp [Value.ownBlock] at hk; omega))
def RetCB (l : List Bool) (w : World) (e : Ending) (w' : World) : Prop := ∃ g c, e = .returned (.slice (some ⟨g, 0, none⟩) l.length c) ∧ w'.ownsRow w.heap.size 4 1 (.slice (some ⟨g, 0, none⟩) l.length c) l.length (boolsV l) ∧ Below w.heap.size w w'
set_option maxRecDepth 20000 in
set_option maxHeartbeats 2000000 in
theorem cloneB_any (l : List Bool) (a : Option Addr) (cap : Nat) (w : World) (hl : BoolsIn w a l) (h0 : 1 ≤ l.length) (hlen : l.length ≤ 1000000) :
    Calls Tryz.prog 145 #[.slice a l.length cap] w (RetCB l w) := by
  have q24 : ∀ (w : World) (a : Option Addr) (n c n' c' : Nat), (binOp .eql 28 (.slice a n c) (.slice none n' c')).run Tryz.prog w = .ok (.bool a.isNone) w := fun w a n c n' c' => Lib.run_eql_slice_nil w _ _ a n c n' c' Tryz.underlying28
  have HB2 := Lib.hid (alloc_belowS w (.cells #[] 4))
  obtain ⟨b, off, rfl, hb, hc⟩ := (hl.later HB2.out).cell (i := 0) (by omega)
  have HSC : Hid (∀ j u, (boolsV l)[j]? = some u → (w.alloc (.cells #[] 4)).cell? ⟨b, off + j, none⟩ = some u) := Lib.hid (fun j u hu => by
    have hj : j < l.length := by
      have := (List.getElem?_eq_some_iff.1 hu).1
      simpa [boolsV] using this
    rw [hc j hj, ← hu]
    simp [boolsV, List.getD_eq_getElem?_getD, hj])
  have HS2 : Hid ((boolsV l).length = l.length) := Lib.hid (by simp [boolsV])
  have HS3 : Hid (∀ u ∈ boolsV l, u.oneCell' = true) := Lib.hid (fun u hu => by
    obtain ⟨v, _, rfl⟩ := List.mem_map.1 hu
    rfl)
  have HS4 := Lib.hid h0
  have HS5 := Lib.hid hlen
  clear hl hc hlen h0
  go_enter Tryz.func145, Tryz.ntmps145
  go_wp2_with (at_builtin; refine wpList_copy1 rfl (.tmp 5) (.tmp 6) rfl Tryz.underlying28 Tryz.infoBool rfl (by decide) rfl rfl HSC.out HS2.out HS3.out HS4.out HS5.out ?_; intro g2 c2 w2 ho2 k2)
  have F : Hid (RetCB l w (.returned (.slice (some ⟨g2, 0, none⟩) l.length c2)) w2) := Lib.hid ⟨g2, c2, rfl, ho2, k2⟩
  clear ho2 k2
  go_wp2_with fail
  go_ret
  exact F.out
end Go.Proofs.YtoddpmdjjgnpgaaGreatDoor
