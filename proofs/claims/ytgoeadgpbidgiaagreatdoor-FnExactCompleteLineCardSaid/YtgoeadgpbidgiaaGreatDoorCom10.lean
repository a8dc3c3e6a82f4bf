/-
  Letters: the text of one byte.
-/
import Derived.Test.YtgoeadgpbidgiaaGreatDoorCom01
import Derived.Test.YtgoeadgpbidgiaaGreatDoorCom03
import Derived.Laws.BytesArg
namespace Go.Proofs.YtgoeadgpbidgiaaGreatDoor
open Go.RowKit
set_option linter.unusedVariables false
abbrev Wd := List UInt8
def lt97 (x : Nat) : UInt8 := UInt8.ofNat (97 + x)
theorem lt97_inj {x y : Nat} (hx : x < 4) (hy : y < 4) (h : lt97 x = lt97 y) : x = y := by
  have h1 := congrArg UInt8.toNat h
  unfold lt97 at h1
  simp at h1
  omega
/-- one of the words ends v -/
def endsL (L : List Wd) (v : Wd) : Bool := L.any fun r => r.isSuffixOf v
theorem endsL_iff {L : List Wd} {v : Wd} : endsL L v = true ↔ ∃ r ∈ L, r <:+ v := by simp [endsL, List.any_eq_true]
def okL (L : List Wd) (v : Wd) (x : Nat) : Bool := !endsL L (v ++ [lt97 x])
/-- the number of ways to go on by m letters -/
def pwA (L : List Wd) (k : Nat) : Nat → Wd → Nat
  | 0, _ => 1
  | m + 1, v => ((List.range k).map fun x => if okL L v x = true then pwA L k m (v ++ [lt97 x]) else 0).sum
theorem sum_le {l : List Nat} {f g : Nat → Nat} (h : ∀ x ∈ l, f x ≤ g x) : (l.map f).sum ≤ (l.map g).sum := by
  induction l with
  | nil => exact Nat.le_refl _
  | cons a l ih =>
    have h1 := h a List.mem_cons_self
    have h2 := ih fun x hx => h x (List.mem_cons_of_mem _ hx)
    simp only [List.map_cons, List.sum_cons]
    omega
theorem suf_snoc {p v : Wd} {x : UInt8} (h : p <:+ v ++ [x]) : p = [] ∨ ∃ p', p = p' ++ [x] ∧ p' <:+ v := by
  rcases List.eq_nil_or_concat p with rfl | ⟨p', y, rfl⟩
  · exact .inl rfl
  · right
    rw [List.concat_eq_append] at h ⊢
    obtain ⟨t, ht⟩ := h
    rw [← List.append_assoc] at ht
    have h1 := List.append_inj' ht rfl
    obtain ⟨h2, h3⟩ := h1
    simp only [List.cons.injEq, and_true] at h3
    exact ⟨p', by rw [h3], t, h2⟩
theorem snoc_suf {p v : Wd} (h : p <:+ v) (x : UInt8) : p ++ [x] <:+ v ++ [x] := by
  obtain ⟨t, rfl⟩ := h
  exact ⟨t, by simp⟩
theorem okL_mono {L : List Wd} {p v : Wd} (h : p <:+ v) {x : Nat} (hx : okL L v x = true) : okL L p x = true := by
  unfold okL at *
  cases hb : endsL L (p ++ [lt97 x])
  · rfl
  · obtain ⟨r, hr, hs⟩ := endsL_iff.1 hb
    have : endsL L (v ++ [lt97 x]) = true := endsL_iff.2 ⟨r, hr, hs.trans (snoc_suf h _)⟩
    rw [this] at hx
    cases hx
theorem pw_mono (L : List Wd) (k : Nat) : ∀ (m : Nat) {p v : Wd}, p <:+ v → pwA L k m v ≤ pwA L k m p
  | 0, p, v, _ => Nat.le_refl _
  | m + 1, p, v, h => sum_le fun x _ => by
    by_cases h1 : okL L v x = true
    · rw [if_pos h1, if_pos (okL_mono h h1)]
      exact pw_mono L k m (snoc_suf h _)
    · rw [if_neg h1]
      exact Nat.zero_le _
/-- what a reader keeps: proper beginnings of the words -/
def inQ (L : List Wd) (q : Wd) : Prop := q = [] ∨ ∃ r ∈ L, ∃ y t, r = q ++ y :: t
theorem inQ_init {L : List Wd} {q : Wd} {x : UInt8} (h : inQ L (q ++ [x])) : inQ L q := by
  rcases h with h | ⟨r, hr, y, t, e⟩
  · simp at h
  · exact .inr ⟨r, hr, x, y :: t, by rw [e]; simp⟩
/-- s is what is kept of v -/
def Keeps (L : List Wd) (v s : Wd) : Prop := inQ L s ∧ s <:+ v ∧ ∀ q, inQ L q → q <:+ v → q <:+ s
theorem keeps_ex (L : List Wd) : ∀ v : Wd, ∃ s, Keeps L v s
  | [] => ⟨[], .inl rfl, ⟨[], rfl⟩, fun q _ h => h⟩
  | a :: v => by
    by_cases h : inQ L (a :: v)
    · exact ⟨a :: v, h, ⟨[], rfl⟩, fun q _ h => h⟩
    · obtain ⟨s, h1, h2, h3⟩ := keeps_ex L v
      refine ⟨s, h1, h2.trans (List.suffix_cons _ _), fun q hq hs => ?_⟩
      rcases List.suffix_cons_iff.1 hs with rfl | hs
      · exact absurd hq h
      · exact h3 q hq hs
theorem keeps_ok {L : List Wd} (hne : ∀ r ∈ L, r ≠ []) {v s : Wd} (h : s <:+ v ∧ ∀ q, inQ L q → q <:+ v → q <:+ s) (x : Nat) : okL L v x = okL L s x := by
  unfold okL
  congr 1
  rw [Bool.eq_iff_iff, endsL_iff, endsL_iff]
  constructor
  · rintro ⟨r, hr, hs⟩
    rcases suf_snoc hs with rfl | ⟨p, rfl, hp⟩
    · exact absurd rfl (hne _ hr)
    · exact ⟨_, hr, snoc_suf (h.2 p (.inr ⟨_, hr, lt97 x, [], rfl⟩) hp) _⟩
  · rintro ⟨r, hr, hs⟩
    exact ⟨r, hr, hs.trans (snoc_suf h.1 _)⟩
theorem keeps_pw {L : List Wd} (hne : ∀ r ∈ L, r ≠ []) (k : Nat) : ∀ (m : Nat) {v s : Wd}, (s <:+ v ∧ ∀ q, inQ L q → q <:+ v → q <:+ s) → pwA L k m v = pwA L k m s
  | 0, v, s, _ => rfl
  | m + 1, v, s, h => by
    unfold pwA
    congr 1
    apply List.map_congr_left
    intro x _
    rw [keeps_ok hne h x]
    have := keeps_pw hne k m (v := v ++ [lt97 x]) (s := s ++ [lt97 x]) ⟨snoc_suf h.1 _, fun q hq hs => by
      rcases suf_snoc hs with rfl | ⟨p, rfl, hp⟩
      · exact List.nil_suffix
      · exact snoc_suf (h.2 p (inQ_init hq) hp) _⟩
    rw [this]
/-- all ways of less than N letters -/
def tot (L : List Wd) (k N : Nat) (v : Wd) : Nat := ((List.range N).map fun m => pwA L k m v).sum
theorem sum_add (l : List Nat) (f g : Nat → Nat) : (l.map fun x => f x + g x).sum = (l.map f).sum + (l.map g).sum := by
  induction l with
  | nil => rfl
  | cons a l ih => simp only [List.map_cons, List.sum_cons, ih]; omega
theorem sum_zero (l : List Nat) : (l.map fun _ => 0).sum = 0 := by
  induction l with
  | nil => rfl
  | cons a l ih => simp only [List.map_cons, List.sum_cons, ih]
theorem tot_succ (L : List Wd) (k N : Nat) (v : Wd) : tot L k (N + 1) v = 1 + ((List.range k).map fun x => if okL L v x = true then tot L k N (v ++ [lt97 x]) else 0).sum := by
  induction N with
  | zero =>
    have : ((List.range k).map fun x => if okL L v x = true then tot L k 0 (v ++ [lt97 x]) else 0).sum = 0 := by
      refine Eq.trans ?_ (sum_zero (List.range k))
      congr 1
      apply List.map_congr_left
      intro x _
      split <;> rfl
    rw [this]
    rfl
  | succ N ih =>
    have e : ∀ v, tot L k (N + 1) v = tot L k N v + pwA L k N v := fun v => by
      unfold tot
      rw [List.range_succ, List.map_append, List.sum_append]
      simp
    have e2 : tot L k (N + 1 + 1) v = tot L k (N + 1) v + pwA L k (N + 1) v := by
      unfold tot
      rw [List.range_succ (n := N + 1), List.map_append, List.sum_append]
      simp
    rw [e2, ih, Nat.add_assoc]
    congr 1
    have e3 : pwA L k (N + 1) v = ((List.range k).map fun x => if okL L v x = true then pwA L k N (v ++ [lt97 x]) else 0).sum := rfl
    rw [e3, ← sum_add]
    congr 1
    apply List.map_congr_left
    intro x _
    split
    · rw [e]
    · rfl
theorem tot_eq {L : List Wd} {k N : Nat} (hN : pwA L k N [] = 0) (v : Wd) : tot L k N v = 1 + ((List.range k).map fun x => if okL L v x = true then tot L k N (v ++ [lt97 x]) else 0).sum := by
  have h0 : ∀ v, pwA L k N v = 0 := fun v => by
    have := pw_mono L k N (List.nil_suffix (l := v))
    omega
  have e2 : tot L k (N + 1) v = tot L k N v + pwA L k N v := by
    unfold tot
    rw [List.range_succ (n := N), List.map_append, List.sum_append]
    simp
  rw [← tot_succ, e2, h0]
  rfl
theorem tot_mono (L : List Wd) (k N : Nat) {p v : Wd} (h : p <:+ v) : tot L k N v ≤ tot L k N p := sum_le fun m _ => pw_mono L k m h
theorem mem_sum {l : List Nat} {f : Nat → Nat} {x : Nat} (h : x ∈ l) : f x ≤ (l.map f).sum := by
  induction l with
  | nil => cases h
  | cons a l ih =>
    simp only [List.map_cons, List.sum_cons]
    rcases List.mem_cons.1 h with rfl | h
    · omega
    · have := ih h; omega
theorem tot_less {L : List Wd} {k N : Nat} (hN : pwA L k N [] = 0) {v : Wd} {x : Nat} (hx : x < k) (ho : okL L v x = true) : tot L k N (v ++ [lt97 x]) < tot L k N v := by
  rw [tot_eq hN v]
  have := mem_sum (f := fun x => if okL L v x = true then tot L k N (v ++ [lt97 x]) else 0) (List.mem_range.2 hx)
  simp only [ho, if_true] at this
  omega
/-- 1, 2, 4, ..: one more than the d numbers ahead -/
def bons (d : Nat) : Nat → List Nat
  | 0 => [0]
  | n + 1 => (1 + ((bons d n).take d).sum) :: bons d n
def bon (d n : Nat) : Nat := (bons d n).headD 0
theorem bon_zero (d : Nat) : bon d 0 = 0 := rfl
/-- the first j of them from the n-th one down -/
def bonTo (d n : Nat) : Nat → Nat
  | 0 => 0
  | j + 1 => bon d n + bonTo d (n - 1) j
theorem bonTo_zero (d : Nat) : ∀ j, bonTo d 0 j = 0
  | 0 => rfl
  | j + 1 => by unfold bonTo; rw [bon_zero, bonTo_zero d j]
theorem bonTo_eq (d : Nat) : ∀ (n j : Nat), ((bons d n).take j).sum = bonTo d n j
  | n, 0 => by simp [bonTo]
  | 0, j + 1 => by rw [bonTo_zero]; simp [bons]
  | n + 1, j + 1 => by
    have h := bonTo_eq d n j
    unfold bonTo
    simp only [bons, List.take_succ_cons, List.sum_cons, Nat.add_sub_cancel]
    rw [h]
    rfl
theorem bon_succ (d n : Nat) : bon d (n + 1) = 1 + bonTo d n d := by
  show 1 + ((bons d n).take d).sum = _
  rw [bonTo_eq]
theorem bonTo_len (d : Nat) : ∀ (n : Nat) {i j : Nat}, i ≤ j → bonTo d n i ≤ bonTo d n j
  | n, 0, j, _ => Nat.zero_le _
  | n, i + 1, 0, h => by omega
  | n, i + 1, j + 1, h => by
    have := bonTo_len d (n - 1) (i := i) (j := j) (by omega)
    unfold bonTo
    omega
theorem bon_step (d : Nat) : ∀ n, bon d n ≤ bon d (n + 1) ∧ ∀ j, bonTo d n j ≤ bonTo d (n + 1) j := by
  intro n
  induction n with
  | zero => exact ⟨by rw [bon_zero]; exact Nat.zero_le _, fun j => by rw [bonTo_zero]; exact Nat.zero_le _⟩
  | succ n ih =>
    have h1 : bon d (n + 1) ≤ bon d (n + 1 + 1) := by
      rw [bon_succ, bon_succ]
      have := ih.2 d
      omega
    refine ⟨h1, fun j => ?_⟩
    cases j with
    | zero => exact Nat.le_refl _
    | succ j =>
      unfold bonTo
      have := ih.2 j
      simp only [Nat.add_sub_cancel]
      omega
theorem bon_mono (d : Nat) {m n : Nat} (h : m ≤ n) : bon d m ≤ bon d n := by
  induction h with
  | refl => exact Nat.le_refl _
  | @step n _ ih => exact Nat.le_trans ih (bon_step d n).1
theorem bonTo_mono (d j : Nat) {m n : Nat} (h : m ≤ n) : bonTo d m j ≤ bonTo d n j := by
  induction h with
  | refl => exact Nat.le_refl _
  | @step n _ ih => exact Nat.le_trans ih ((bon_step d n).2 j)
/-- how many of Q are in U -/
def cnt (Q : List Wd) (U : Wd → Bool) : Nat := (Q.filter U).length
theorem cnt_mono {Q : List Wd} {U V : Wd → Bool} (h : ∀ t, U t = true → V t = true) : cnt Q U ≤ cnt Q V := by
  unfold cnt
  induction Q with
  | nil => exact Nat.le_refl _
  | cons a Q ih =>
    rw [List.filter_cons, List.filter_cons]
    by_cases h1 : U a = true
    · rw [if_pos h1, if_pos (h a h1)]
      simp only [List.length_cons]; omega
    · rw [if_neg h1]
      split
      · simp only [List.length_cons]; omega
      · exact ih
theorem cnt_all (Q : List Wd) (U : Wd → Bool) : cnt Q U ≤ Q.length := List.length_filter_le _ _
theorem cnt_less {Q : List Wd} {U : Wd → Bool} {t : Wd} (ht : t ∈ Q) (hu : U t = true) : cnt Q (fun u => U u && !decide (u = t)) + 1 ≤ cnt Q U := by
  unfold cnt
  induction Q with
  | nil => cases ht
  | cons a Q ih =>
    have hm : ∀ Q : List Wd, (Q.filter fun u => U u && !decide (u = t)).length ≤ (Q.filter U).length := fun Q => cnt_mono (Q := Q) (V := U) fun t' h' => by
      cases h : U t'
      · rw [h] at h'; cases h'
      · rfl
    rw [List.filter_cons, List.filter_cons]
    by_cases e : a = t
    · subst e
      rw [hu]
      have := hm Q
      simp
      omega
    · have h1 := ih (by rcases List.mem_cons.1 ht with h | h; exact absurd h.symm e; exact h)
      by_cases h2 : U a = true
      · simp [h2, e]
        omega
      · simp [h2]
        omega
theorem max_ex {f : Wd → Nat} : ∀ {l : List Wd}, l ≠ [] → ∃ t ∈ l, ∀ u ∈ l, f u ≤ f t
  | [], h => absurd rfl h
  | [a], _ => ⟨a, List.mem_cons_self, fun u hu => by rw [List.mem_singleton.1 hu]; exact Nat.le_refl _⟩
  | a :: b :: l, _ => by
    obtain ⟨t, ht, hm⟩ := max_ex (f := f) (l := b :: l) (by simp)
    by_cases h : f t ≤ f a
    · refine ⟨a, List.mem_cons_self, fun u hu => ?_⟩
      rcases List.mem_cons.1 hu with rfl | hu
      · exact Nat.le_refl _
      · have := hm u hu; omega
    · refine ⟨t, List.mem_cons_of_mem _ ht, fun u hu => ?_⟩
      rcases List.mem_cons.1 hu with rfl | hu
      · omega
      · exact hm u hu
/-- t, and what lies below it -/
def down (f : Wd → Nat) (t : Wd) : Wd → Bool := fun u => decide (f u < f t) || decide (u = t)
theorem sum_down (d : Nat) (Q : List Wd) (f : Wd → Nat) : ∀ (j : Nat) (l : List Wd) (U : Wd → Bool), l.length = j → l.Nodup → (∀ t ∈ l, t ∈ Q ∧ ∀ u, down f t u = true → U u = true) → (l.map fun t => bon d (cnt Q (down f t))).sum ≤ bonTo d (cnt Q U) j
  | 0, l, U, hl, _, _ => by rw [List.length_eq_zero_iff.1 hl]; exact Nat.zero_le _
  | j + 1, l, U, hl, hn, hU => by
    obtain ⟨t, ht, hm⟩ := max_ex (f := f) (l := l) (by intro e; rw [e] at hl; simp at hl)
    have hp := List.perm_cons_erase ht
    have hn2 : (l.erase t).Nodup := hn.erase t
    have ih := sum_down d Q f j (l.erase t) (fun u => U u && !decide (u = t)) (by rw [List.length_erase_of_mem ht]; omega) hn2 (fun u hu => by
      have hu2 := (hn.mem_erase_iff).1 hu
      refine ⟨(hU u hu2.2).1, fun z hz => ?_⟩
      have h1 := (hU u hu2.2).2 z hz
      have h2 : z ≠ t := fun e => by
        subst e
        have h3 := hm u hu2.2
        unfold down at hz
        simp only [Bool.or_eq_true, decide_eq_true_eq] at hz
        rcases hz with hz | hz
        · omega
        · exact hu2.1 hz.symm
      simp [h1, h2])
    have e := (hp.map fun t => bon d (cnt Q (down f t))).sum_nat
    rw [e]
    simp only [List.map_cons, List.sum_cons]
    have h4 : cnt Q (down f t) ≤ cnt Q U := cnt_mono (hU t ht).2
    have h5 := bon_mono d h4
    have h6 := cnt_less (hU t ht).1 ((hU t ht).2 t (by simp [down]))
    have h7 := bonTo_mono d j (show cnt Q (fun u => U u && !decide (u = t)) ≤ cnt Q U - 1 by omega)
    unfold bonTo
    omega
/-- the bound -/
theorem tot_bound {L : List Wd} (hne : ∀ r ∈ L, r ≠ []) {k N d : Nat} (hk : k ≤ 4) (hN : pwA L k N [] = 0) {Q : List Wd} (hQ : ∀ q, inQ L q → (∀ y ∈ q, ∃ x, x < k ∧ y = lt97 x) → q ∈ Q)
    (hd : ∀ v, ((List.range k).filter fun x => okL L v x).length ≤ d) : ∀ (n : Nat) (s : Wd), tot L k N s ≤ n → inQ L s → (∀ y ∈ s, ∃ x, x < k ∧ y = lt97 x) → tot L k N s ≤ bon d (cnt Q (down (tot L k N) s))
  | 0, s, h, hs, hl => by
    rw [tot_eq hN] at h
    omega
  | n + 1, s, h, hs, hl => by
    have key : ∀ x, x < k → okL L s x = true → ∃ t, Keeps L (s ++ [lt97 x]) t ∧ tot L k N t = tot L k N (s ++ [lt97 x]) ∧ (∃ p, t = p ++ [lt97 x]) ∧ (∀ y ∈ t, ∃ x, x < k ∧ y = lt97 x) := fun x hx ho => by
      obtain ⟨t, ht⟩ := keeps_ex L (s ++ [lt97 x])
      have e : tot L k N t = tot L k N (s ++ [lt97 x]) := by
        unfold tot
        congr 1
        apply List.map_congr_left
        intro m _
        exact (keeps_pw hne k m ht.2).symm
      have hless := tot_less hN hx ho
      refine ⟨t, ht, e, ?_, fun y hy => ?_⟩
      · rcases suf_snoc ht.2.1 with h1 | ⟨p, h1, _⟩
        · subst h1
          have := tot_mono L k N (List.nil_suffix (l := s))
          omega
        · exact ⟨p, h1⟩
      · have h1 := ht.2.1.subset hy
        rcases List.mem_append.1 h1 with h1 | h1
        · exact hl y h1
        · exact ⟨x, hx, by simpa using h1⟩
    obtain ⟨g, hg⟩ : ∃ g : Nat → Wd, ∀ x, x < k → okL L s x = true → Keeps L (s ++ [lt97 x]) (g x) ∧ tot L k N (g x) = tot L k N (s ++ [lt97 x]) ∧ (∃ p, g x = p ++ [lt97 x]) ∧ (∀ y ∈ g x, ∃ x, x < k ∧ y = lt97 x) := by
      refine ⟨fun x => if h : x < k ∧ okL L s x = true then Classical.choose (key x h.1 h.2) else [], fun x hx ho => ?_⟩
      simp only [hx, ho, and_self, dif_pos]
      exact Classical.choose_spec (key x hx ho)
    let xs := (List.range k).filter fun x => okL L s x
    have hxs : ∀ x ∈ xs, x < k ∧ okL L s x = true := fun x hx => by
      have := List.mem_filter.1 hx
      exact ⟨List.mem_range.1 this.1, this.2⟩
    have hsum : ((List.range k).map fun x => if okL L s x = true then tot L k N (s ++ [lt97 x]) else 0).sum = (xs.map fun x => tot L k N (g x)).sum := by
      have e1 : ∀ l : List Nat, (∀ x ∈ l, x < k) → (l.map fun x => if okL L s x = true then tot L k N (s ++ [lt97 x]) else 0).sum = ((l.filter fun x => okL L s x).map fun x => tot L k N (g x)).sum := fun l => by
        induction l with
        | nil => intro _; rfl
        | cons a l ih =>
          intro hh
          have h1 := ih fun x hx => hh x (List.mem_cons_of_mem _ hx)
          rw [List.filter_cons]
          simp only [List.map_cons, List.sum_cons]
          rw [h1]
          by_cases h2 : okL L s a = true
          · rw [if_pos h2, if_pos h2]
            simp only [List.map_cons, List.sum_cons]
            rw [(hg a (hh a List.mem_cons_self) h2).2.1]
          · rw [if_neg h2, if_neg h2]
            omega
      exact e1 _ fun x hx => List.mem_range.1 hx
    have hmap : (xs.map fun x => tot L k N (g x)).sum ≤ (xs.map fun x => bon d (cnt Q (down (tot L k N) (g x)))).sum := sum_le fun x hx => by
      obtain ⟨hx1, hx2⟩ := hxs x hx
      obtain ⟨h1, h2, _, h4⟩ := hg x hx1 hx2
      have h5 := tot_less hN hx1 hx2
      exact tot_bound hne hk hN hQ hd n (g x) (by omega) h1.1 h4
    have hnd : (xs.map g).Nodup := by
      have h1 : xs.Nodup := List.Pairwise.filter _ List.nodup_range
      unfold List.Nodup at *
      rw [List.pairwise_map]
      refine h1.imp_of_mem fun {a b} ha hb hab e => hab ?_
      obtain ⟨ha1, ha2⟩ := hxs a ha
      obtain ⟨hb1, hb2⟩ := hxs b hb
      obtain ⟨p, hp⟩ := (hg a ha1 ha2).2.2.1
      obtain ⟨q, hq⟩ := (hg b hb1 hb2).2.2.1
      rw [hp, hq] at e
      have h2 := (List.append_inj' e rfl).2
      simp only [List.cons.injEq, and_true] at h2
      exact lt97_inj (by omega) (by omega) h2
    have hdn := sum_down d Q (tot L k N) xs.length (xs.map g) (fun u => decide (tot L k N u < tot L k N s)) (by simp) hnd (fun t ht => by
      obtain ⟨x, hx, rfl⟩ := List.mem_map.1 ht
      obtain ⟨hx1, hx2⟩ := hxs x hx
      obtain ⟨h1, h2, _, h4⟩ := hg x hx1 hx2
      have h5 := tot_less hN hx1 hx2
      refine ⟨hQ _ h1.1 h4, fun u hu => ?_⟩
      unfold down at hu
      simp only [Bool.or_eq_true, decide_eq_true_eq] at hu ⊢
      rcases hu with hu | rfl
      · omega
      · omega)
    rw [List.map_map] at hdn
    have hb1 := bonTo_len d (cnt Q fun u => decide (tot L k N u < tot L k N s)) (hd s)
    have hc : cnt Q (fun u => decide (tot L k N u < tot L k N s)) + 1 ≤ cnt Q (down (tot L k N) s) := by
      have h1 := cnt_less (Q := Q) (U := down (tot L k N) s) (hQ s hs hl) (by simp [down])
      have h2 := cnt_mono (Q := Q) (U := fun u => decide (tot L k N u < tot L k N s)) (V := fun u => down (tot L k N) s u && !decide (u = s)) (fun t ht => by
        simp only [decide_eq_true_eq] at ht
        have : t ≠ s := fun e => by subst e; omega
        simp [down, ht, this])
      omega
    have hb2 := bon_mono d hc
    rw [bon_succ] at hb2
    rw [tot_eq hN, hsum]
    have e3 : (xs.map fun x => bon d (cnt Q (down (tot L k N) (g x)))) = xs.map ((fun t => bon d (cnt Q (down (tot L k N) t))) ∘ g) := rfl
    rw [e3] at hmap
    have hb3 : bonTo d (cnt Q fun u => decide (tot L k N u < tot L k N s)) xs.length ≤ bonTo d (cnt Q fun u => decide (tot L k N u < tot L k N s)) d := hb1
    omega
theorem tot_le {L : List Wd} (hne : ∀ r ∈ L, r ≠ []) {k N d : Nat} (hk : k ≤ 4) (hN : pwA L k N [] = 0) {Q : List Wd} (hQ : ∀ q, inQ L q → (∀ y ∈ q, ∃ x, x < k ∧ y = lt97 x) → q ∈ Q)
    (hd : ∀ v, ((List.range k).filter fun x => okL L v x).length ≤ d) : tot L k N [] ≤ bon d Q.length :=
  Nat.le_trans (tot_bound hne hk hN hQ hd _ [] (Nat.le_refl _) (.inl rfl) (fun y hy => by cases hy)) (bon_mono d (cnt_all _ _))
end Go.Proofs.YtgoeadgpbidgiaaGreatDoor
namespace Go.Proofs.YtgoeadgpbidgiaaGreatDoor
set_option linter.unusedVariables false
/-- the number of a word, in base 257 -/
def wtL : Wd → Nat → Nat
  | [], a => a
  | y :: v, a => wtL v (a * 257 + (y.toNat + 1))
def wt (v : Wd) : Nat := wtL v 0
theorem wtL_add : ∀ (v : Wd) (a : Nat), wtL v a = a * 257 ^ v.length + wt v
  | [], a => by simp [wtL, wt]
  | y :: v, a => by
    unfold wt
    simp only [wtL]
    rw [wtL_add v, wtL_add v (0 * 257 + _)]
    rw [List.length_cons, Nat.pow_succ, Nat.add_mul, Nat.zero_mul, Nat.zero_add, Nat.mul_comm (257 ^ v.length) 257, ← Nat.mul_assoc]
    omega
theorem wt_app (u v : Wd) : wt (u ++ v) = wt u * 257 ^ v.length + wt v := by
  have h : ∀ (u : Wd) (a : Nat), wtL (u ++ v) a = wtL v (wtL u a) := fun u => by
    induction u with
    | nil => intro a; rfl
    | cons y u ih => intro a; exact ih _
  unfold wt
  rw [h, wtL_add]
  rfl
theorem wt_cons (y : UInt8) (v : Wd) : wt (y :: v) = (y.toNat + 1) * 257 ^ v.length + wt v := by
  have h := wt_app [y] v
  have e : wt [y] = y.toNat + 1 := by simp [wt, wtL]
  rw [e] at h
  exact h
theorem wt_lt : ∀ (v : Wd), wt v < 257 ^ v.length
  | [] => by simp [wt, wtL]
  | y :: v => by
    have ih := wt_lt v
    have h1 := y.toNat_lt
    rw [wt_cons, List.length_cons, Nat.pow_succ]
    have h2 : (y.toNat + 1) * 257 ^ v.length ≤ 256 * 257 ^ v.length := Nat.mul_le_mul_right _ (by omega)
    omega
theorem wt_ge (y : UInt8) (v : Wd) : 257 ^ v.length ≤ wt (y :: v) := by
  rw [wt_cons]
  have h2 : 1 * 257 ^ v.length ≤ (y.toNat + 1) * 257 ^ v.length := Nat.mul_le_mul_right _ (by omega)
  omega
theorem wt_len {a b : Wd} (h : wt a < wt b) : a.length ≤ b.length := by
  rcases Nat.lt_or_ge b.length a.length with h1 | h1
  · exfalso
    cases a with
    | nil => simp at h1
    | cons y v =>
      have h2 := wt_ge y v
      have h3 := wt_lt b
      have h4 : 257 ^ b.length ≤ 257 ^ v.length := Nat.pow_le_pow_right (by omega) (by simp at h1; omega)
      omega
  · exact h1
theorem wt_ctx {a b : Wd} (x y : Wd) (h : wt a < wt b) : wt (x ++ (a ++ y)) < wt (x ++ (b ++ y)) := by
  have hl := wt_len h
  rw [wt_app x (a ++ y), wt_app x (b ++ y), wt_app a y, wt_app b y, List.length_append, List.length_append, Nat.pow_add, Nat.pow_add]
  have h2 : 257 ^ a.length ≤ 257 ^ b.length := Nat.pow_le_pow_right (by omega) hl
  have h3 : wt x * (257 ^ a.length * 257 ^ y.length) ≤ wt x * (257 ^ b.length * 257 ^ y.length) := Nat.mul_le_mul_left _ (Nat.mul_le_mul_right _ h2)
  have h4 : (wt a + 1) * 257 ^ y.length ≤ wt b * 257 ^ y.length := Nat.mul_le_mul_right _ h
  have h5 : 1 ≤ 257 ^ y.length := Nat.one_le_pow _ _ (by omega)
  rw [Nat.add_mul, Nat.one_mul] at h4
  omega
theorem wt_lex : ∀ {u v : Wd}, u.length = v.length → u < v → wt u < wt v
  | [], [], _, h => absurd h (List.lt_irrefl _)
  | [], _ :: _, h, _ => by simp at h
  | _ :: _, [], h, _ => by simp at h
  | a :: u, b :: v, hl, h => by
    have hl2 : u.length = v.length := by simpa using hl
    rw [wt_cons, wt_cons, hl2]
    rcases List.cons_lt_cons_iff.1 h with h1 | ⟨rfl, h1⟩
    · have h2 := UInt8.lt_iff_toNat_lt.1 h1
      have h3 := wt_lt u
      rw [hl2] at h3
      have h4 : (a.toNat + 1 + 1) * 257 ^ v.length ≤ (b.toNat + 1) * 257 ^ v.length := Nat.mul_le_mul_right _ (by omega)
      rw [Nat.add_mul] at h4
      omega
    · have := wt_lex hl2 h1
      omega
theorem wt_short {u v : Wd} (h : u.length < v.length) : wt u < wt v := by
  cases v with
  | nil => simp at h
  | cons y v =>
    have h1 := wt_lt u
    have h2 := wt_ge y v
    have h3 : 257 ^ u.length ≤ 257 ^ v.length := Nat.pow_le_pow_right (by omega) (by simp at h; omega)
    omega
/-- rules: which left side has which right side -/
abbrev Rs := Wd → Wd → Prop
/-- one step -/
def Stp (E : Rs) (u v : Wd) : Prop := ∃ x l r y, E l r ∧ u = x ++ (l ++ y) ∧ v = x ++ (r ++ y)
theorem Stp.ctx {E : Rs} {u v : Wd} (x y : Wd) (h : Stp E u v) : Stp E (x ++ (u ++ y)) (x ++ (v ++ y)) := by
  obtain ⟨a, l, r, b, h1, rfl, rfl⟩ := h
  exact ⟨x ++ a, l, r, b ++ y, h1, by simp [List.append_assoc], by simp [List.append_assoc]⟩
theorem Stp.mono {E F : Rs} (h : ∀ l r, E l r → F l r) {u v : Wd} (s : Stp E u v) : Stp F u v := by
  obtain ⟨a, l, r, b, h1, h2, h3⟩ := s
  exact ⟨a, l, r, b, h _ _ h1, h2, h3⟩
theorem Stp.rule {E : Rs} {l r : Wd} (h : E l r) : Stp E l r := ⟨[], l, r, [], h, by simp, by simp⟩
/-- each rule makes a word less -/
def Dwn (E : Rs) : Prop := ∀ l r, E l r → wt r < wt l
theorem Dwn.stp {E : Rs} (h : Dwn E) {u v : Wd} (s : Stp E u v) : wt v < wt u := by
  obtain ⟨x, l, r, y, h1, rfl, rfl⟩ := s
  exact wt_ctx x y (h _ _ h1)
/-- many steps -/
inductive Red (E : Rs) : Wd → Wd → Prop
  | refl (u : Wd) : Red E u u
  | step {u v x : Wd} : Stp E u v → Red E v x → Red E u x
theorem Red.trans {E : Rs} {u v x : Wd} (a : Red E u v) (b : Red E v x) : Red E u x := by
  induction a with
  | refl => exact b
  | step s _ ih => exact .step s (ih b)
theorem Red.one {E : Rs} {u v : Wd} (s : Stp E u v) : Red E u v := .step s (.refl _)
theorem Red.ctx {E : Rs} {u v : Wd} (x y : Wd) (h : Red E u v) : Red E (x ++ (u ++ y)) (x ++ (v ++ y)) := by
  induction h with
  | refl => exact .refl _
  | step s _ ih => exact .step (s.ctx x y) ih
theorem Red.le {E : Rs} (hd : Dwn E) {u v : Wd} (h : Red E u v) : wt v ≤ wt u := by
  induction h with
  | refl => exact Nat.le_refl _
  | step s _ ih => have := hd.stp s; omega
theorem Red.mono {E F : Rs} (h : ∀ l r, E l r → F l r) {u v : Wd} (s : Red E u v) : Red F u v := by
  induction s with
  | refl => exact .refl _
  | step s _ ih => exact .step (s.mono h) ih
/-- no step can be made -/
def Irr (E : Rs) (u : Wd) : Prop := ∀ v, ¬ Stp E u v
/-- connected by steps, forth and back, all words below a number -/
inductive Conn (E : Rs) (n : Nat) : Wd → Wd → Prop
  | refl (u : Wd) : Conn E n u u
  | fwd {u v x : Wd} : wt u < n → wt v < n → Stp E u v → Conn E n v x → Conn E n u x
  | bwd {u v x : Wd} : wt u < n → wt v < n → Stp E v u → Conn E n v x → Conn E n u x
theorem Conn.trans {E : Rs} {n : Nat} {u v x : Wd} (a : Conn E n u v) (b : Conn E n v x) : Conn E n u x := by
  induction a with
  | refl => exact b
  | fwd h1 h2 s _ ih => exact .fwd h1 h2 s (ih b)
  | bwd h1 h2 s _ ih => exact .bwd h1 h2 s (ih b)
theorem Conn.symm {E : Rs} {n : Nat} {u v : Wd} (a : Conn E n u v) : Conn E n v u := by
  induction a with
  | refl => exact .refl _
  | fwd h1 h2 s _ ih => exact ih.trans (.bwd h2 h1 s (.refl _))
  | bwd h1 h2 s _ ih => exact ih.trans (.fwd h2 h1 s (.refl _))
theorem Conn.mono {E : Rs} {n k : Nat} (h : n ≤ k) {u v : Wd} (a : Conn E n u v) : Conn E k u v := by
  induction a with
  | refl => exact .refl _
  | fwd h1 h2 s _ ih => exact .fwd (by omega) (by omega) s ih
  | bwd h1 h2 s _ ih => exact .bwd (by omega) (by omega) s ih
theorem Conn.ctx {E : Rs} {w u v : Wd} (x y : Wd) (a : Conn E (wt w) u v) : Conn E (wt (x ++ (w ++ y))) (x ++ (u ++ y)) (x ++ (v ++ y)) := by
  induction a with
  | refl => exact .refl _
  | fwd h1 h2 s _ ih => exact .fwd (wt_ctx x y h1) (wt_ctx x y h2) (s.ctx x y) ih
  | bwd h1 h2 s _ ih => exact .bwd (wt_ctx x y h1) (wt_ctx x y h2) (s.ctx x y) ih
theorem Conn.red {E : Rs} (hd : Dwn E) {n : Nat} {u v : Wd} (h : Red E u v) (hu : wt u < n) : Conn E n u v := by
  induction h with
  | refl => exact .refl _
  | step s _ ih => have := hd.stp s; exact .fwd hu (by omega) s (ih (by omega))
/-- what simulates the steps of E simulates what is connected by them -/
theorem Conn.sim {E F : Rs} {n : Nat} (h : ∀ u v, Stp E u v → wt u < n → wt v < n → Conn F n u v) {u v : Wd} (a : Conn E n u v) : Conn F n u v := by
  induction a with
  | refl => exact .refl _
  | fwd h1 h2 s _ ih => exact (h _ _ s h1 h2).trans ih
  | bwd h1 h2 s _ ih => exact (h _ _ s h2 h1).symm.trans ih
/-- the critical pairs of S are connected in E below their words -/
structure Crit (S E : Rs) : Prop where
  inn : ∀ l1 r1 l2 r2 x y, S l1 r1 → S l2 r2 → l1 = x ++ (l2 ++ y) → Conn E (wt l1) r1 (x ++ (r2 ++ y))
  acr : ∀ l1 r1 l2 r2 x t y, S l1 r1 → S l2 r2 → l1 = x ++ t → l2 = t ++ y → t ≠ [] → x ≠ [] → y ≠ [] → Conn E (wt (x ++ (t ++ y))) (r1 ++ y) (x ++ r2)
/-- two words that are one: the first of two parts lies in front -/
theorem split_two {p1 q1 p2 q2 : Wd} (h : p1 ++ q1 = p2 ++ q2) (hl : p1.length ≤ p2.length) : ∃ t, p2 = p1 ++ t ∧ q1 = t ++ q2 := by
  obtain ⟨t, ht⟩ : p1 <+: p2 := List.prefix_of_prefix_length_le (List.prefix_append p1 q1) (h ▸ List.prefix_append p2 q2) hl
  refine ⟨t, ht.symm, ?_⟩
  rw [← ht, List.append_assoc] at h
  exact List.append_cancel_left h
/-- two steps from one word, the first one's place in front -/
theorem local_le {S : Rs} (hd : Dwn S) (hc : Crit S S) {p1 l1 r1 q1 p2 l2 r2 q2 : Wd} (h1 : S l1 r1) (h2 : S l2 r2) (h : p1 ++ (l1 ++ q1) = p2 ++ (l2 ++ q2)) (hl : p1.length ≤ p2.length) :
    Conn S (wt (p1 ++ (l1 ++ q1))) (p1 ++ (r1 ++ q1)) (p2 ++ (r2 ++ q2)) := by
  obtain ⟨t, rfl, h3⟩ := split_two h hl
  -- l1 ++ q1 = t ++ (l2 ++ q2)
  rcases Nat.lt_or_ge t.length l1.length with hlt | hge
  · obtain ⟨s, rfl, h5⟩ := split_two h3.symm (Nat.le_of_lt hlt)
    -- l1 = t ++ s, l2 ++ q2 = s ++ q1
    have hs : s ≠ [] := by rintro rfl; simp at hlt
    rcases Nat.lt_or_ge s.length l2.length with hlt2 | hge2
    · obtain ⟨y, rfl, rfl⟩ := split_two h5.symm (Nat.le_of_lt hlt2)
      have hy : y ≠ [] := by rintro rfl; simp at hlt2
      by_cases ht : t = []
      · subst ht
        have h6 := hc.inn _ _ _ _ [] y h2 h1 (by simp)
        have h7 := (h6.ctx p1 q2).symm
        simpa [List.append_assoc] using h7
      · have h6 := hc.acr _ _ _ _ t s y h1 h2 rfl rfl hs ht hy
        have h7 := h6.ctx p1 q2
        simpa [List.append_assoc] using h7
    · obtain ⟨y, rfl, rfl⟩ := split_two h5 hge2
      have h6 := hc.inn _ _ _ _ t y h1 h2 rfl
      have h7 := h6.ctx p1 q1
      simpa [List.append_assoc] using h7
  · obtain ⟨s, rfl, rfl⟩ := split_two h3 hge
    -- t = l1 ++ s, q1 = s ++ (l2 ++ q2)
    have s1 : Stp S (p1 ++ (r1 ++ (s ++ (l2 ++ q2)))) (p1 ++ (r1 ++ (s ++ (r2 ++ q2)))) := ⟨p1 ++ (r1 ++ s), l2, r2, q2, h2, by simp [List.append_assoc], by simp [List.append_assoc]⟩
    have s2 : Stp S (p1 ++ (l1 ++ (s ++ (r2 ++ q2)))) (p1 ++ (r1 ++ (s ++ (r2 ++ q2)))) := ⟨p1, l1, r1, _, h1, rfl, rfl⟩
    have s3 : Stp S (p1 ++ (l1 ++ (s ++ (l2 ++ q2)))) (p1 ++ (r1 ++ (s ++ (l2 ++ q2)))) := ⟨p1, l1, r1, _, h1, rfl, rfl⟩
    have s4 : Stp S (p1 ++ (l1 ++ (s ++ (l2 ++ q2)))) (p1 ++ (l1 ++ (s ++ (r2 ++ q2)))) := ⟨p1 ++ (l1 ++ s), l2, r2, q2, h2, by simp [List.append_assoc], by simp [List.append_assoc]⟩
    have d1 := hd.stp s1
    have d3 := hd.stp s3
    have d4 := hd.stp s4
    have h7 : Conn S (wt (p1 ++ (l1 ++ (s ++ (l2 ++ q2))))) (p1 ++ (r1 ++ (s ++ (l2 ++ q2)))) (p1 ++ (l1 ++ (s ++ (r2 ++ q2)))) := .fwd d3 (by omega) s1 (.bwd (by omega) d4 s2 (.refl _))
    simpa [List.append_assoc] using h7
/-- two steps from one word -/
theorem local_all {S : Rs} (hd : Dwn S) (hc : Crit S S) {w a b : Wd} (s1 : Stp S w a) (s2 : Stp S w b) : Conn S (wt w) a b := by
  obtain ⟨p1, l1, r1, q1, h1, rfl, rfl⟩ := s1
  obtain ⟨p2, l2, r2, q2, h2, h, rfl⟩ := s2
  rcases Nat.le_total p1.length p2.length with hl | hl
  · exact local_le hd hc h1 h2 h hl
  · rw [h]
    exact (local_le hd hc h2 h1 h.symm hl).symm
/-- a normal form -/
def Nf (S : Rs) (u x : Wd) : Prop := Red S u x ∧ Irr S x
theorem Nf.ex {S : Rs} (hd : Dwn S) : ∀ (n : Nat) (u : Wd), wt u < n → ∃ x, Nf S u x
  | 0, u, h => by omega
  | n + 1, u, h => by
    by_cases hi : Irr S u
    · exact ⟨u, .refl _, hi⟩
    · obtain ⟨v, hv⟩ : ∃ v, Stp S u v := Classical.byContradiction fun hn => hi fun v hv => hn ⟨v, hv⟩
      have := hd.stp hv
      obtain ⟨x, h1, h2⟩ := Nf.ex hd n v (by omega)
      exact ⟨x, .step hv h1, h2⟩
theorem Nf.conn {S : Rs} (hd : Dwn S) {n : Nat} (hu : ∀ u, wt u < n → ∀ x y, Nf S u x → Nf S u y → x = y) {u v : Wd} (h : Conn S n u v) : ∀ x, Nf S u x → Nf S v x := by
  induction h with
  | refl => intro x hx; exact hx
  | @fwd u v z h1 h2 s _ ih =>
    intro x hx
    obtain ⟨y, hy⟩ := Nf.ex hd _ v (Nat.lt_succ_self _)
    obtain rfl := hu u h1 x y hx ⟨.step s hy.1, hy.2⟩
    exact ih _ hy
  | @bwd u v z h1 h2 s _ ih =>
    intro x hx
    exact ih _ ⟨.step s hx.1, hx.2⟩
theorem Nf.uniq {S : Rs} (hd : Dwn S) (hc : Crit S S) : ∀ (n : Nat) (u : Wd), wt u < n → ∀ x y, Nf S u x → Nf S u y → x = y
  | 0, u, h => by omega
  | n + 1, u, h => by
    rintro x y ⟨h1, h2⟩ ⟨h3, h4⟩
    cases h1 with
    | refl =>
      cases h3 with
      | refl => rfl
      | step s _ => exact absurd s (h2 _)
    | @step _ a _ s1 r1 =>
      cases h3 with
      | refl => exact absurd s1 (h4 _)
      | @step _ b _ s2 r2 =>
        have c := local_all hd hc s1 s2
        have d2 := hd.stp s2
        have IH := Nf.uniq hd hc n
        have h5 := Nf.conn hd (fun v hv => IH v (by omega)) c x ⟨r1, h2⟩
        exact IH b (by omega) x y h5 ⟨r2, h4⟩
/-- words that are connected have one normal form -/
theorem conf_conn {S : Rs} (hd : Dwn S) (hc : Crit S S) {n : Nat} {u v : Wd} (h : Conn S n u v) {x y : Wd} (hx : Nf S u x) (hy : Nf S v y) : x = y :=
  Nf.uniq hd hc _ v (Nat.lt_succ_self _) x y (Nf.conn hd (fun w _ => Nf.uniq hd hc _ w (Nat.lt_succ_self _)) h x hx) hy
/-- a word and what it is reduced to have one normal form -/
theorem conf_red {S : Rs} (hd : Dwn S) (hc : Crit S S) {u v : Wd} (h : Red S u v) {x y : Wd} (hx : Nf S u x) (hy : Nf S v y) : x = y :=
  Nf.uniq hd hc _ u (Nat.lt_succ_self _) x y hx ⟨h.trans hy.1, hy.2⟩
end Go.Proofs.YtgoeadgpbidgiaaGreatDoor
namespace Go.Proofs.YtgoeadgpbidgiaaGreatDoor
open Go.RowKit
set_option linter.unusedVariables false
/-- a text of one byte -/
def oneC (x : Int) : ByteArray := ⟨#[UInt8.ofNat x.toNat]⟩
theorem convC (w : World) (x : Int) :
    (convert 29 9 (.slice (some ⟨w.heap.size, 0, none⟩) 1 1)).run Tryz.prog (w.alloc (.cells #[.int .u8 x] 5)) = .ok (.string (oneC x)) (w.alloc (.cells #[.int .u8 x] 5)) :=
  run_convert_bytes_arg (P := Tryz.prog) (w.alloc (.cells #[.int .u8 x] 5)) 29 5 Tryz.underlying29 Tryz.underlying5 w.heap.size 0 1 1 [x] rfl (fun i hi => by
    obtain rfl : i = 0 := by omega
    simp) 9 Tryz.underlying9
/-- the letter of a number -/
def letterN (x : Nat) : ByteArray := oneC (97 + (x : Int))
theorem letterN_size (x : Nat) : (letterN x).size = 1 := rfl
theorem letterOf_any (x : Nat) (w : World) (hx : x < 26) : Calls Tryz.prog 109 #[.int .i64 (x : Nat)] w fun e w' => e = .returned (.string (letterN x)) ∧ Below w.heap.size w w' := by
  have kc := convC
  have hu : IntKind.u8.wrap (97 + (x : Int)) = 97 + (x : Int) := by simp [IntKind.wrap, IntKind.signed, IntKind.bits]; omega
  have HL : Hid (oneC (97 + (x : Int)) = letterN x) := Lib.hid rfl
  go_enter Tryz.func109, Tryz.ntmps109
  go_wp2_with fail
  go_ret
  exact ⟨rfl, (Below.refl _ _).alloc (Nat.le_refl _) _⟩
end Go.Proofs.YtgoeadgpbidgiaaGreatDoor
