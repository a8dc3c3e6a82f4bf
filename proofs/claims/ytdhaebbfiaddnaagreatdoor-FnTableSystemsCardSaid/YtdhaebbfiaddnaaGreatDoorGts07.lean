/-
  The bound at twelve words of at most eight letters out of four: some of them are short.
-/
import Derived.Test.YtdhaebbfiaddnaaGreatDoorGts01
namespace Go.Proofs.YtdhaebbfiaddnaaGreatDoor
open Go.RowKit
set_option linter.unusedVariables false
abbrev Wd := List UInt8
def lt97 (x : Nat) : UInt8 := UInt8.ofNat (97 + x)
theorem lt97_inj {x y : Nat} (hx : x < 4) (hy : y < 4) (h : lt97 x = lt97 y) : x = y := by
  have h1 := congrArg UInt8.toNat h
  unfold lt97 at h1
  simp at h1
  omega
/-- one of the words ends v -/
def endsL (L : List Wd) (v : Wd) : Bool := L.any fun r => r.isSuffixOf v
theorem endsL_iff {L : List Wd} {v : Wd} : endsL L v = true ↔ ∃ r ∈ L, r <:+ v := by simp [endsL, List.any_eq_true]
def okL (L : List Wd) (v : Wd) (x : Nat) : Bool := !endsL L (v ++ [lt97 x])
/-- the number of ways to go on by m letters -/
def pwA (L : List Wd) (k : Nat) : Nat → Wd → Nat
  | 0, _ => 1
  | m + 1, v => ((List.range k).map fun x => if okL L v x = true then pwA L k m (v ++ [lt97 x]) else 0).sum
theorem sum_le {l : List Nat} {f g : Nat → Nat} (h : ∀ x ∈ l, f x ≤ g x) : (l.map f).sum ≤ (l.map g).sum := by
  induction l with
  | nil => exact Nat.le_refl _
  | cons a l ih =>
    have h1 := h a List.mem_cons_self
    have h2 := ih fun x hx => h x (List.mem_cons_of_mem _ hx)
    simp only [List.map_cons, List.sum_cons]
    omega
theorem suf_snoc {p v : Wd} {x : UInt8} (h : p <:+ v ++ [x]) : p = [] ∨ ∃ p', p = p' ++ [x] ∧ p' <:+ v := by
  rcases List.eq_nil_or_concat p with rfl | ⟨p', y, rfl⟩
  · exact .inl rfl
  · right
    rw [List.concat_eq_append] at h ⊢
    obtain ⟨t, ht⟩ := h
    rw [← List.append_assoc] at ht
    have h1 := List.append_inj' ht rfl
    obtain ⟨h2, h3⟩ := h1
    simp only [List.cons.injEq, and_true] at h3
    exact ⟨p', by rw [h3], t, h2⟩
theorem snoc_suf {p v : Wd} (h : p <:+ v) (x : UInt8) : p ++ [x] <:+ v ++ [x] := by
  obtain ⟨t, rfl⟩ := h
  exact ⟨t, by simp⟩
theorem okL_mono {L : List Wd} {p v : Wd} (h : p <:+ v) {x : Nat} (hx : okL L v x = true) : okL L p x = true := by
  unfold okL at *
  cases hb : endsL L (p ++ [lt97 x])
  · rfl
  · obtain ⟨r, hr, hs⟩ := endsL_iff.1 hb
    have : endsL L (v ++ [lt97 x]) = true := endsL_iff.2 ⟨r, hr, hs.trans (snoc_suf h _)⟩
    rw [this] at hx
    cases hx
theorem pw_mono (L : List Wd) (k : Nat) : ∀ (m : Nat) {p v : Wd}, p <:+ v → pwA L k m v ≤ pwA L k m p
  | 0, p, v, _ => Nat.le_refl _
  | m + 1, p, v, h => sum_le fun x _ => by
    by_cases h1 : okL L v x = true
    · rw [if_pos h1, if_pos (okL_mono h h1)]
      exact pw_mono L k m (snoc_suf h _)
    · rw [if_neg h1]
      exact Nat.zero_le _
/-- what a reader keeps: proper beginnings of the words -/
def inQ (L : List Wd) (q : Wd) : Prop := q = [] ∨ ∃ r ∈ L, ∃ y t, r = q ++ y :: t
theorem inQ_init {L : List Wd} {q : Wd} {x : UInt8} (h : inQ L (q ++ [x])) : inQ L q := by
  rcases h with h | ⟨r, hr, y, t, e⟩
  · simp at h
  · exact .inr ⟨r, hr, x, y :: t, by rw [e]; simp⟩
/-- s is what is kept of v -/
def Keeps (L : List Wd) (v s : Wd) : Prop := inQ L s ∧ s <:+ v ∧ ∀ q, inQ L q → q <:+ v → q <:+ s
theorem keeps_ex (L : List Wd) : ∀ v : Wd, ∃ s, Keeps L v s
  | [] => ⟨[], .inl rfl, ⟨[], rfl⟩, fun q _ h => h⟩
  | a :: v => by
    by_cases h : inQ L (a :: v)
    · exact ⟨a :: v, h, ⟨[], rfl⟩, fun q _ h => h⟩
    · obtain ⟨s, h1, h2, h3⟩ := keeps_ex L v
      refine ⟨s, h1, h2.trans (List.suffix_cons _ _), fun q hq hs => ?_⟩
      rcases List.suffix_cons_iff.1 hs with rfl | hs
      · exact absurd hq h
      · exact h3 q hq hs
theorem keeps_ok {L : List Wd} (hne : ∀ r ∈ L, r ≠ []) {v s : Wd} (h : s <:+ v ∧ ∀ q, inQ L q → q <:+ v → q <:+ s) (x : Nat) : okL L v x = okL L s x := by
  unfold okL
  congr 1
  rw [Bool.eq_iff_iff, endsL_iff, endsL_iff]
  constructor
  · rintro ⟨r, hr, hs⟩
    rcases suf_snoc hs with rfl | ⟨p, rfl, hp⟩
    · exact absurd rfl (hne _ hr)
    · exact ⟨_, hr, snoc_suf (h.2 p (.inr ⟨_, hr, lt97 x, [], rfl⟩) hp) _⟩
  · rintro ⟨r, hr, hs⟩
    exact ⟨r, hr, hs.trans (snoc_suf h.1 _)⟩
theorem keeps_pw {L : List Wd} (hne : ∀ r ∈ L, r ≠ []) (k : Nat) : ∀ (m : Nat) {v s : Wd}, (s <:+ v ∧ ∀ q, inQ L q → q <:+ v → q <:+ s) → pwA L k m v = pwA L k m s
  | 0, v, s, _ => rfl
  | m + 1, v, s, h => by
    unfold pwA
    congr 1
    apply List.map_congr_left
    intro x _
    rw [keeps_ok hne h x]
    have := keeps_pw hne k m (v := v ++ [lt97 x]) (s := s ++ [lt97 x]) ⟨snoc_suf h.1 _, fun q hq hs => by
      rcases suf_snoc hs with rfl | ⟨p, rfl, hp⟩
      · exact List.nil_suffix
      · exact snoc_suf (h.2 p (inQ_init hq) hp) _⟩
    rw [this]
/-- all ways of less than N letters -/
def tot (L : List Wd) (k N : Nat) (v : Wd) : Nat := ((List.range N).map fun m => pwA L k m v).sum
theorem sum_add (l : List Nat) (f g : Nat → Nat) : (l.map fun x => f x + g x).sum = (l.map f).sum + (l.map g).sum := by
  induction l with
  | nil => rfl
  | cons a l ih => simp only [List.map_cons, List.sum_cons, ih]; omega
theorem sum_zero (l : List Nat) : (l.map fun _ => 0).sum = 0 := by
  induction l with
  | nil => rfl
  | cons a l ih => simp only [List.map_cons, List.sum_cons, ih]
theorem tot_succ (L : List Wd) (k N : Nat) (v : Wd) : tot L k (N + 1) v = 1 + ((List.range k).map fun x => if okL L v x = true then tot L k N (v ++ [lt97 x]) else 0).sum := by
  induction N with
  | zero =>
    have : ((List.range k).map fun x => if okL L v x = true then tot L k 0 (v ++ [lt97 x]) else 0).sum = 0 := by
      refine Eq.trans ?_ (sum_zero (List.range k))
      congr 1
      apply List.map_congr_left
      intro x _
      split <;> rfl
    rw [this]
    rfl
  | succ N ih =>
    have e : ∀ v, tot L k (N + 1) v = tot L k N v + pwA L k N v := fun v => by
      unfold tot
      rw [List.range_succ, List.map_append, List.sum_append]
      simp
    have e2 : tot L k (N + 1 + 1) v = tot L k (N + 1) v + pwA L k (N + 1) v := by
      unfold tot
      rw [List.range_succ (n := N + 1), List.map_append, List.sum_append]
      simp
    rw [e2, ih, Nat.add_assoc]
    congr 1
    have e3 : pwA L k (N + 1) v = ((List.range k).map fun x => if okL L v x = true then pwA L k N (v ++ [lt97 x]) else 0).sum := rfl
    rw [e3, ← sum_add]
    congr 1
    apply List.map_congr_left
    intro x _
    split
    · rw [e]
    · rfl
theorem tot_eq {L : List Wd} {k N : Nat} (hN : pwA L k N [] = 0) (v : Wd) : tot L k N v = 1 + ((List.range k).map fun x => if okL L v x = true then tot L k N (v ++ [lt97 x]) else 0).sum := by
  have h0 : ∀ v, pwA L k N v = 0 := fun v => by
    have := pw_mono L k N (List.nil_suffix (l := v))
    omega
  have e2 : tot L k (N + 1) v = tot L k N v + pwA L k N v := by
    unfold tot
    rw [List.range_succ (n := N), List.map_append, List.sum_append]
    simp
  rw [← tot_succ, e2, h0]
  rfl
theorem tot_mono (L : List Wd) (k N : Nat) {p v : Wd} (h : p <:+ v) : tot L k N v ≤ tot L k N p := sum_le fun m _ => pw_mono L k m h
theorem mem_sum {l : List Nat} {f : Nat → Nat} {x : Nat} (h : x ∈ l) : f x ≤ (l.map f).sum := by
  induction l with
  | nil => cases h
  | cons a l ih =>
    simp only [List.map_cons, List.sum_cons]
    rcases List.mem_cons.1 h with rfl | h
    · omega
    · have := ih h; omega
theorem tot_less {L : List Wd} {k N : Nat} (hN : pwA L k N [] = 0) {v : Wd} {x : Nat} (hx : x < k) (ho : okL L v x = true) : tot L k N (v ++ [lt97 x]) < tot L k N v := by
  rw [tot_eq hN v]
  have := mem_sum (f := fun x => if okL L v x = true then tot L k N (v ++ [lt97 x]) else 0) (List.mem_range.2 hx)
  simp only [ho, if_true] at this
  omega
/-- 1, 2, 4, ..: one more than the d numbers ahead -/
def bons (d : Nat) : Nat → List Nat
  | 0 => [0]
  | n + 1 => (1 + ((bons d n).take d).sum) :: bons d n
def bon (d n : Nat) : Nat := (bons d n).headD 0
theorem bon_zero (d : Nat) : bon d 0 = 0 := rfl
/-- the first j of them from the n-th one down -/
def bonTo (d n : Nat) : Nat → Nat
  | 0 => 0
  | j + 1 => bon d n + bonTo d (n - 1) j
theorem bonTo_zero (d : Nat) : ∀ j, bonTo d 0 j = 0
  | 0 => rfl
  | j + 1 => by unfold bonTo; rw [bon_zero, bonTo_zero d j]
theorem bonTo_eq (d : Nat) : ∀ (n j : Nat), ((bons d n).take j).sum = bonTo d n j
  | n, 0 => by simp [bonTo]
  | 0, j + 1 => by rw [bonTo_zero]; simp [bons]
  | n + 1, j + 1 => by
    have h := bonTo_eq d n j
    unfold bonTo
    simp only [bons, List.take_succ_cons, List.sum_cons, Nat.add_sub_cancel]
    rw [h]
    rfl
theorem bon_succ (d n : Nat) : bon d (n + 1) = 1 + bonTo d n d := by
  show 1 + ((bons d n).take d).sum = _
  rw [bonTo_eq]
theorem bonTo_len (d : Nat) : ∀ (n : Nat) {i j : Nat}, i ≤ j → bonTo d n i ≤ bonTo d n j
  | n, 0, j, _ => Nat.zero_le _
  | n, i + 1, 0, h => by omega
  | n, i + 1, j + 1, h => by
    have := bonTo_len d (n - 1) (i := i) (j := j) (by omega)
    unfold bonTo
    omega
theorem bon_step (d : Nat) : ∀ n, bon d n ≤ bon d (n + 1) ∧ ∀ j, bonTo d n j ≤ bonTo d (n + 1) j := by
  intro n
  induction n with
  | zero => exact ⟨by rw [bon_zero]; exact Nat.zero_le _, fun j => by rw [bonTo_zero]; exact Nat.zero_le _⟩
  | succ n ih =>
    have h1 : bon d (n + 1) ≤ bon d (n + 1 + 1) := by
      rw [bon_succ, bon_succ]
      have := ih.2 d
      omega
    refine ⟨h1, fun j => ?_⟩
    cases j with
    | zero => exact Nat.le_refl _
    | succ j =>
      unfold bonTo
      have := ih.2 j
      simp only [Nat.add_sub_cancel]
      omega
theorem bon_mono (d : Nat) {m n : Nat} (h : m ≤ n) : bon d m ≤ bon d n := by
  induction h with
  | refl => exact Nat.le_refl _
  | @step n _ ih => exact Nat.le_trans ih (bon_step d n).1
theorem bonTo_mono (d j : Nat) {m n : Nat} (h : m ≤ n) : bonTo d m j ≤ bonTo d n j := by
  induction h with
  | refl => exact Nat.le_refl _
  | @step n _ ih => exact Nat.le_trans ih ((bon_step d n).2 j)
/-- how many of Q are in U -/
def cnt (Q : List Wd) (U : Wd → Bool) : Nat := (Q.filter U).length
theorem cnt_mono {Q : List Wd} {U V : Wd → Bool} (h : ∀ t, U t = true → V t = true) : cnt Q U ≤ cnt Q V := by
  unfold cnt
  induction Q with
  | nil => exact Nat.le_refl _
  | cons a Q ih =>
    rw [List.filter_cons, List.filter_cons]
    by_cases h1 : U a = true
    · rw [if_pos h1, if_pos (h a h1)]
      simp only [List.length_cons]; omega
    · rw [if_neg h1]
      split
      · simp only [List.length_cons]; omega
      · exact ih
theorem cnt_all (Q : List Wd) (U : Wd → Bool) : cnt Q U ≤ Q.length := List.length_filter_le _ _
theorem cnt_less {Q : List Wd} {U : Wd → Bool} {t : Wd} (ht : t ∈ Q) (hu : U t = true) : cnt Q (fun u => U u && !decide (u = t)) + 1 ≤ cnt Q U := by
  unfold cnt
  induction Q with
  | nil => cases ht
  | cons a Q ih =>
    have hm : ∀ Q : List Wd, (Q.filter fun u => U u && !decide (u = t)).length ≤ (Q.filter U).length := fun Q => cnt_mono (Q := Q) (V := U) fun t' h' => by
      cases h : U t'
      · rw [h] at h'; cases h'
      · rfl
    rw [List.filter_cons, List.filter_cons]
    by_cases e : a = t
    · subst e
      rw [hu]
      have := hm Q
      simp
      omega
    · have h1 := ih (by rcases List.mem_cons.1 ht with h | h; exact absurd h.symm e; exact h)
      by_cases h2 : U a = true
      · simp [h2, e]
        omega
      · simp [h2]
        omega
theorem max_ex {f : Wd → Nat} : ∀ {l : List Wd}, l ≠ [] → ∃ t ∈ l, ∀ u ∈ l, f u ≤ f t
  | [], h => absurd rfl h
  | [a], _ => ⟨a, List.mem_cons_self, fun u hu => by rw [List.mem_singleton.1 hu]; exact Nat.le_refl _⟩
  | a :: b :: l, _ => by
    obtain ⟨t, ht, hm⟩ := max_ex (f := f) (l := b :: l) (by simp)
    by_cases h : f t ≤ f a
    · refine ⟨a, List.mem_cons_self, fun u hu => ?_⟩
      rcases List.mem_cons.1 hu with rfl | hu
      · exact Nat.le_refl _
      · have := hm u hu; omega
    · refine ⟨t, List.mem_cons_of_mem _ ht, fun u hu => ?_⟩
      rcases List.mem_cons.1 hu with rfl | hu
      · omega
      · exact hm u hu
/-- t, and what lies below it -/
def down (f : Wd → Nat) (t : Wd) : Wd → Bool := fun u => decide (f u < f t) || decide (u = t)
theorem sum_down (d : Nat) (Q : List Wd) (f : Wd → Nat) : ∀ (j : Nat) (l : List Wd) (U : Wd → Bool), l.length = j → l.Nodup → (∀ t ∈ l, t ∈ Q ∧ ∀ u, down f t u = true → U u = true) → (l.map fun t => bon d (cnt Q (down f t))).sum ≤ bonTo d (cnt Q U) j
  | 0, l, U, hl, _, _ => by rw [List.length_eq_zero_iff.1 hl]; exact Nat.zero_le _
  | j + 1, l, U, hl, hn, hU => by
    obtain ⟨t, ht, hm⟩ := max_ex (f := f) (l := l) (by intro e; rw [e] at hl; simp at hl)
    have hp := List.perm_cons_erase ht
    have hn2 : (l.erase t).Nodup := hn.erase t
    have ih := sum_down d Q f j (l.erase t) (fun u => U u && !decide (u = t)) (by rw [List.length_erase_of_mem ht]; omega) hn2 (fun u hu => by
      have hu2 := (hn.mem_erase_iff).1 hu
      refine ⟨(hU u hu2.2).1, fun z hz => ?_⟩
      have h1 := (hU u hu2.2).2 z hz
      have h2 : z ≠ t := fun e => by
        subst e
        have h3 := hm u hu2.2
        unfold down at hz
        simp only [Bool.or_eq_true, decide_eq_true_eq] at hz
        rcases hz with hz | hz
        · omega
        · exact hu2.1 hz.symm
      simp [h1, h2])
    have e := (hp.map fun t => bon d (cnt Q (down f t))).sum_nat
    rw [e]
    simp only [List.map_cons, List.sum_cons]
    have h4 : cnt Q (down f t) ≤ cnt Q U := cnt_mono (hU t ht).2
    have h5 := bon_mono d h4
    have h6 := cnt_less (hU t ht).1 ((hU t ht).2 t (by simp [down]))
    have h7 := bonTo_mono d j (show cnt Q (fun u => U u && !decide (u = t)) ≤ cnt Q U - 1 by omega)
    unfold bonTo
    omega
/-- the bound -/
theorem tot_bound {L : List Wd} (hne : ∀ r ∈ L, r ≠ []) {k N d : Nat} (hk : k ≤ 4) (hN : pwA L k N [] = 0) {Q : List Wd} (hQ : ∀ q, inQ L q → (∀ y ∈ q, ∃ x, x < k ∧ y = lt97 x) → q ∈ Q)
    (hd : ∀ v, ((List.range k).filter fun x => okL L v x).length ≤ d) : ∀ (n : Nat) (s : Wd), tot L k N s ≤ n → inQ L s → (∀ y ∈ s, ∃ x, x < k ∧ y = lt97 x) → tot L k N s ≤ bon d (cnt Q (down (tot L k N) s))
  | 0, s, h, hs, hl => by
    rw [tot_eq hN] at h
    omega
  | n + 1, s, h, hs, hl => by
    have key : ∀ x, x < k → okL L s x = true → ∃ t, Keeps L (s ++ [lt97 x]) t ∧ tot L k N t = tot L k N (s ++ [lt97 x]) ∧ (∃ p, t = p ++ [lt97 x]) ∧ (∀ y ∈ t, ∃ x, x < k ∧ y = lt97 x) := fun x hx ho => by
      obtain ⟨t, ht⟩ := keeps_ex L (s ++ [lt97 x])
      have e : tot L k N t = tot L k N (s ++ [lt97 x]) := by
        unfold tot
        congr 1
        apply List.map_congr_left
        intro m _
        exact (keeps_pw hne k m ht.2).symm
      have hless := tot_less hN hx ho
      refine ⟨t, ht, e, ?_, fun y hy => ?_⟩
      · rcases suf_snoc ht.2.1 with h1 | ⟨p, h1, _⟩
        · subst h1
          have := tot_mono L k N (List.nil_suffix (l := s))
          omega
        · exact ⟨p, h1⟩
      · have h1 := ht.2.1.subset hy
        rcases List.mem_append.1 h1 with h1 | h1
        · exact hl y h1
        · exact ⟨x, hx, by simpa using h1⟩
    obtain ⟨g, hg⟩ : ∃ g : Nat → Wd, ∀ x, x < k → okL L s x = true → Keeps L (s ++ [lt97 x]) (g x) ∧ tot L k N (g x) = tot L k N (s ++ [lt97 x]) ∧ (∃ p, g x = p ++ [lt97 x]) ∧ (∀ y ∈ g x, ∃ x, x < k ∧ y = lt97 x) := by
      refine ⟨fun x => if h : x < k ∧ okL L s x = true then Classical.choose (key x h.1 h.2) else [], fun x hx ho => ?_⟩
      simp only [hx, ho, and_self, dif_pos]
      exact Classical.choose_spec (key x hx ho)
    let xs := (List.range k).filter fun x => okL L s x
    have hxs : ∀ x ∈ xs, x < k ∧ okL L s x = true := fun x hx => by
      have := List.mem_filter.1 hx
      exact ⟨List.mem_range.1 this.1, this.2⟩
    have hsum : ((List.range k).map fun x => if okL L s x = true then tot L k N (s ++ [lt97 x]) else 0).sum = (xs.map fun x => tot L k N (g x)).sum := by
      have e1 : ∀ l : List Nat, (∀ x ∈ l, x < k) → (l.map fun x => if okL L s x = true then tot L k N (s ++ [lt97 x]) else 0).sum = ((l.filter fun x => okL L s x).map fun x => tot L k N (g x)).sum := fun l => by
        induction l with
        | nil => intro _; rfl
        | cons a l ih =>
          intro hh
          have h1 := ih fun x hx => hh x (List.mem_cons_of_mem _ hx)
          rw [List.filter_cons]
          simp only [List.map_cons, List.sum_cons]
          rw [h1]
          by_cases h2 : okL L s a = true
          · rw [if_pos h2, if_pos h2]
            simp only [List.map_cons, List.sum_cons]
            rw [(hg a (hh a List.mem_cons_self) h2).2.1]
          · rw [if_neg h2, if_neg h2]
            omega
      exact e1 _ fun x hx => List.mem_range.1 hx
    have hmap : (xs.map fun x => tot L k N (g x)).sum ≤ (xs.map fun x => bon d (cnt Q (down (tot L k N) (g x)))).sum := sum_le fun x hx => by
      obtain ⟨hx1, hx2⟩ := hxs x hx
      obtain ⟨h1, h2, _, h4⟩ := hg x hx1 hx2
      have h5 := tot_less hN hx1 hx2
      exact tot_bound hne hk hN hQ hd n (g x) (by omega) h1.1 h4
    have hnd : (xs.map g).Nodup := by
      have h1 : xs.Nodup := List.Pairwise.filter _ List.nodup_range
      unfold List.Nodup at *
      rw [List.pairwise_map]
      refine h1.imp_of_mem fun {a b} ha hb hab e => hab ?_
      obtain ⟨ha1, ha2⟩ := hxs a ha
      obtain ⟨hb1, hb2⟩ := hxs b hb
      obtain ⟨p, hp⟩ := (hg a ha1 ha2).2.2.1
      obtain ⟨q, hq⟩ := (hg b hb1 hb2).2.2.1
      rw [hp, hq] at e
      have h2 := (List.append_inj' e rfl).2
      simp only [List.cons.injEq, and_true] at h2
      exact lt97_inj (by omega) (by omega) h2
    have hdn := sum_down d Q (tot L k N) xs.length (xs.map g) (fun u => decide (tot L k N u < tot L k N s)) (by simp) hnd (fun t ht => by
      obtain ⟨x, hx, rfl⟩ := List.mem_map.1 ht
      obtain ⟨hx1, hx2⟩ := hxs x hx
      obtain ⟨h1, h2, _, h4⟩ := hg x hx1 hx2
      have h5 := tot_less hN hx1 hx2
      refine ⟨hQ _ h1.1 h4, fun u hu => ?_⟩
      unfold down at hu
      simp only [Bool.or_eq_true, decide_eq_true_eq] at hu ⊢
      rcases hu with hu | rfl
      · omega
      · omega)
    rw [List.map_map] at hdn
    have hb1 := bonTo_len d (cnt Q fun u => decide (tot L k N u < tot L k N s)) (hd s)
    have hc : cnt Q (fun u => decide (tot L k N u < tot L k N s)) + 1 ≤ cnt Q (down (tot L k N) s) := by
      have h1 := cnt_less (Q := Q) (U := down (tot L k N) s) (hQ s hs hl) (by simp [down])
      have h2 := cnt_mono (Q := Q) (U := fun u => decide (tot L k N u < tot L k N s)) (V := fun u => down (tot L k N) s u && !decide (u = s)) (fun t ht => by
        simp only [decide_eq_true_eq] at ht
        have : t ≠ s := fun e => by subst e; omega
        simp [down, ht, this])
      omega
    have hb2 := bon_mono d hc
    rw [bon_succ] at hb2
    rw [tot_eq hN, hsum]
    have e3 : (xs.map fun x => bon d (cnt Q (down (tot L k N) (g x)))) = xs.map ((fun t => bon d (cnt Q (down (tot L k N) t))) ∘ g) := rfl
    rw [e3] at hmap
    have hb3 : bonTo d (cnt Q fun u => decide (tot L k N u < tot L k N s)) xs.length ≤ bonTo d (cnt Q fun u => decide (tot L k N u < tot L k N s)) d := hb1
    omega
theorem tot_le {L : List Wd} (hne : ∀ r ∈ L, r ≠ []) {k N d : Nat} (hk : k ≤ 4) (hN : pwA L k N [] = 0) {Q : List Wd} (hQ : ∀ q, inQ L q → (∀ y ∈ q, ∃ x, x < k ∧ y = lt97 x) → q ∈ Q)
    (hd : ∀ v, ((List.range k).filter fun x => okL L v x).length ≤ d) : tot L k N [] ≤ bon d Q.length :=
  Nat.le_trans (tot_bound hne hk hN hQ hd _ [] (Nat.le_refl _) (.inl rfl) (fun y hy => by cases hy)) (bon_mono d (cnt_all _ _))
end Go.Proofs.YtdhaebbfiaddnaaGreatDoor
namespace Go.Proofs.YtdhaebbfiaddnaaGreatDoor
open Go.RowKit
set_option linter.unusedVariables false
theorem nodup_len {α : Type} [DecidableEq α] : ∀ {l m : List α}, l.Nodup → (∀ x ∈ l, x ∈ m) → l.length ≤ m.length
  | [], m, _, _ => Nat.zero_le _
  | a :: l, m, hn, h => by
    have h1 := List.nodup_cons.1 hn
    have ha := h a List.mem_cons_self
    have ih := nodup_len (m := m.erase a) h1.2 fun x hx => by
      have : x ≠ a := fun e => by subst e; exact h1.1 hx
      exact (List.mem_erase_of_ne this).2 (h x (List.mem_cons_of_mem _ hx))
    rw [List.length_erase_of_mem ha] at ih
    have : 0 < m.length := List.length_pos_of_mem ha
    simp only [List.length_cons]
    omega
/-- the first j letters of a row without an end -/
def pre (f : Nat → Nat) (j : Nat) : Wd := (List.range j).map fun i => lt97 (f i)
theorem pre_succ (f : Nat → Nat) (j : Nat) : pre f (j + 1) = pre f j ++ [lt97 (f j)] := by
  unfold pre; rw [List.range_succ, List.map_append]; rfl
theorem pw_row {L : List Wd} {k : Nat} {f : Nat → Nat} (hf : ∀ j, f j < k) (h : ∀ j, okL L (pre f j) (f j) = true) : ∀ (m j : Nat), 1 ≤ pwA L k m (pre f j)
  | 0, j => Nat.le_refl _
  | m + 1, j => by
    have h1 := pw_row hf h m (j + 1)
    have h2 := mem_sum (f := fun x => if okL L (pre f j) x = true then pwA L k m (pre f j ++ [lt97 x]) else 0) (List.mem_range.2 (hf j))
    simp only [h j, if_true] at h2
    rw [← pre_succ] at h2
    exact Nat.le_trans h1 h2
def un97 (y : UInt8) : Nat := y.toNat - 97
theorem un97_lt {x : Nat} (h : x < 4) : un97 (lt97 x) = x := by
  unfold un97 lt97
  simp
  omega
/-- one of the words lies in each row -/
theorem row_hit {L : List Wd} {k N : Nat} (hk : k ≤ 4) (hN : pwA L k N [] = 0) {f : Nat → Nat} (hf : ∀ j, f j < k) : ∃ r ∈ L, ∃ o, ∀ i, i < r.length → (r.map un97)[i]? = some (f (o + i)) := by
  by_cases h : ∀ j, okL L (pre f j) (f j) = true
  · have := pw_row hf h N 0
    have e : pre f 0 = [] := rfl
    rw [e, hN] at this
    omega
  · obtain ⟨j, hj⟩ := Classical.not_forall.1 h
    have h1 : endsL L (pre f (j + 1)) = true := by
      rw [pre_succ]
      unfold okL at hj
      simpa using hj
    obtain ⟨r, hr, t, ht⟩ := endsL_iff.1 h1
    refine ⟨r, hr, t.length, fun i hi => ?_⟩
    have h2 : (t ++ r)[t.length + i]? = r[i]? := by rw [List.getElem?_append_right (by omega)]; congr 1; omega
    rw [ht] at h2
    have h3 : t.length + r.length = j + 1 := by
      have := congrArg List.length ht
      simpa [pre] using this
    have h4 : (pre f (j + 1))[t.length + i]? = some (lt97 (f (t.length + i))) := by
      unfold pre
      rw [List.getElem?_map, List.getElem?_range (by omega)]
      rfl
    rw [List.getElem?_map, ← h2, h4]
    have h5 := hf (t.length + i)
    simp [un97_lt (show f (t.length + i) < 4 by omega)]
/-- rows of four letters that come again -/
def rows4 : List (List Nat) := [[0, 0, 0, 1], [0, 0, 0, 2], [0, 0, 1, 1], [0, 0, 1, 2], [0, 0, 2, 1], [0, 0, 2, 2], [0, 1, 0, 2], [0, 1, 1, 1], [0, 1, 1, 2], [0, 1, 2, 1], [0, 1, 2, 2], [0, 2, 1, 1], [0, 2, 1, 2], [0, 2, 2, 1], [0, 2, 2, 2], [1, 1, 1, 2], [1, 1, 2, 2], [1, 2, 2, 2]]
def c4 (a b c d : Nat) : Nat := min (min (a * 27 + b * 9 + c * 3 + d) (b * 27 + c * 9 + d * 3 + a)) (min (c * 27 + d * 9 + a * 3 + b) (d * 27 + a * 9 + b * 3 + c))
def cls4 : List Nat → Nat
  | a :: b :: c :: d :: _ => c4 a b c d
  | _ => 999
def at4 (u : List Nat) (j : Nat) : Nat := u.getD (j % 4) 0
theorem rows4_nodup : (rows4.map cls4).Nodup := by decide +kernel
theorem rows4_lt : ∀ u ∈ rows4, ∀ o, o < 4 → at4 u o < 3 := by decide +kernel
theorem rows4_turn : ∀ u ∈ rows4, ∀ o, o < 4 → c4 (at4 u o) (at4 u (o + 1)) (at4 u (o + 2)) (at4 u (o + 3)) = cls4 u := by decide +kernel
theorem at4_mod (u : List Nat) (o i : Nat) : at4 u (o + i) = at4 u (o % 4 + i) := by unfold at4; congr 1; omega
theorem short3 {L : List Wd} {N : Nat} (hN : pwA L 3 N [] = 0) (hlen : L.length ≤ 12) : ∃ r ∈ L, r.length ≤ 3 := by
  by_cases h : ∃ r ∈ L, r.length ≤ 3
  · exact h
  · exfalso
    have hlong : ∀ r ∈ L, 4 ≤ r.length := fun r hr => by
      by_cases h2 : r.length ≤ 3
      · exact absurd ⟨r, hr, h2⟩ h
      · omega
    have h1 := nodup_len (m := L.map fun r => cls4 (r.map un97)) rows4_nodup (fun c hc => by
      obtain ⟨u, hu, rfl⟩ := List.mem_map.1 hc
      obtain ⟨r, hr, o, ho⟩ := row_hit (by omega) hN (f := at4 u) (fun j => by
        have := rows4_lt u hu (j % 4) (Nat.mod_lt _ (by omega))
        have e := at4_mod u j 0
        simp only [Nat.add_zero] at e
        omega)
      refine List.mem_map.2 ⟨r, hr, ?_⟩
      have hl := hlong r hr
      have g0 := ho 0 (by omega)
      have g1 := ho 1 (by omega)
      have g2 := ho 2 (by omega)
      have g3 := ho 3 (by omega)
      have ht := rows4_turn u hu (o % 4) (Nat.mod_lt _ (by omega))
      rw [at4_mod] at g0 g1 g2 g3
      rw [Nat.add_zero] at g0
      have hlm : 4 ≤ (r.map un97).length := by simpa using hl
      generalize r.map un97 = z at *
      match z, hlm with
      | a :: b :: c :: d :: z', _ =>
        simp at g0 g1 g2 g3
        subst g0 g1 g2 g3
        exact ht)
    have e : (rows4.map cls4).length = 18 := by decide +kernel
    rw [e, List.length_map] at h1
    omega
/-- rows of one, two, three letters that come again -/
def rows6 : List (List Nat) := [[0, 0, 0, 0, 0, 0], [1, 1, 1, 1, 1, 1], [2, 2, 2, 2, 2, 2], [3, 3, 3, 3, 3, 3], [0, 1, 0, 1, 0, 1], [0, 2, 0, 2, 0, 2], [0, 3, 0, 3, 0, 3], [1, 2, 1, 2, 1, 2], [1, 3, 1, 3, 1, 3], [2, 3, 2, 3, 2, 3], [0, 1, 2, 0, 1, 2], [0, 2, 1, 0, 2, 1], [0, 1, 3, 0, 1, 3], [0, 3, 1, 0, 3, 1], [0, 2, 3, 0, 2, 3], [0, 3, 2, 0, 3, 2], [1, 2, 3, 1, 2, 3], [1, 3, 2, 1, 3, 2]]
def c3 (x y z : Nat) : Nat := if x = z then (if x = y then 1000 + x else 2000 + 10 * min x y + max x y) else if x = y then 9999 else if y = z then 9999 else 3000 + min (x * 16 + y * 4 + z) (min (y * 16 + z * 4 + x) (z * 16 + x * 4 + y))
def cls6 : List Nat → List Nat
  | x :: y :: z :: _ => [c3 x y z]
  | [x, y] => [c3 x y 0, c3 x y 1, c3 x y 2, c3 x y 3]
  | _ => []
def code6 (u : List Nat) : Nat := c3 (u.getD 0 0) (u.getD 1 0) (u.getD 2 0)
def at6 (u : List Nat) (j : Nat) : Nat := u.getD (j % 6) 0
theorem rows6_nodup : (rows6.map code6).Nodup := by decide +kernel
theorem rows6_lt : ∀ u ∈ rows6, ∀ o, o < 6 → at6 u o < 4 := by decide +kernel
theorem rows6_turn : ∀ u ∈ rows6, ∀ o, o < 6 → c3 (at6 u o) (at6 u (o + 1)) (at6 u (o + 2)) = code6 u := by decide +kernel
theorem at6_mod (u : List Nat) (o i : Nat) : at6 u (o + i) = at6 u (o % 6 + i) := by unfold at6; congr 1; omega
theorem at6_lt {u : List Nat} (hu : u ∈ rows6) (j : Nat) : at6 u j < 4 := by
  have := rows6_lt u hu (j % 6) (Nat.mod_lt _ (by omega))
  have e := at6_mod u j 0
  simp only [Nat.add_zero] at e
  omega
def two (L : List Wd) : Nat := (L.filter fun r => r.length == 2).length
theorem cls6_len (L : List Wd) : (L.flatMap fun r => cls6 (r.map un97)).length ≤ L.length + 3 * two L := by
  induction L with
  | nil => exact Nat.le_refl _
  | cons r L ih =>
    unfold two at *
    rw [List.flatMap_cons, List.length_append, List.filter_cons]
    generalize (L.flatMap fun r => cls6 (r.map un97)).length = n at *
    rcases r with _ | ⟨x, _ | ⟨y, _ | ⟨z, r⟩⟩⟩
    · simp [cls6]; omega
    · simp [cls6]; omega
    · simp [cls6]; omega
    · simp [cls6]; omega
theorem short4 {L : List Wd} {N : Nat} (hN : pwA L 4 N [] = 0) (hlen : L.length ≤ 12) (hl2 : ∀ r ∈ L, 2 ≤ r.length) : 2 ≤ two L := by
  have h1 := nodup_len (m := L.flatMap fun r => cls6 (r.map un97)) rows6_nodup (fun c hc => by
    obtain ⟨u, hu, rfl⟩ := List.mem_map.1 hc
    obtain ⟨r, hr, o, ho⟩ := row_hit (by omega) hN (f := at6 u) (at6_lt hu)
    refine List.mem_flatMap.2 ⟨r, hr, ?_⟩
    have hl := hl2 r hr
    have ht := rows6_turn u hu (o % 6) (Nat.mod_lt _ (by omega))
    have g0 := ho 0 (by omega)
    have g1 := ho 1 (by omega)
    have g2 := ho 2
    rw [at6_mod] at g0 g1
    rw [Nat.add_zero] at g0
    have h3 := at6_lt hu (o % 6 + 2)
    have hlm : 2 ≤ (r.map un97).length := by simpa using hl
    have hle : (r.map un97).length = r.length := by simp
    generalize r.map un97 = z at *
    match z, hlm with
    | [x, y], _ =>
      simp at g0 g1
      subst g0 g1
      rw [← ht]
      generalize at6 u (o % 6 + 2) = q at *
      have : q = 0 ∨ q = 1 ∨ q = 2 ∨ q = 3 := by omega
      rcases this with rfl | rfl | rfl | rfl <;> simp [cls6]
    | x :: y :: z :: z', _ =>
      have g2 := g2 (by simp at hle; omega)
      rw [at6_mod] at g2
      have e0 : x = at6 u (o % 6) := by simpa using g0
      have e1 : y = at6 u (o % 6 + 1) := by simpa using g1
      have e2 : z = at6 u (o % 6 + 2) := by simpa using g2
      rw [← ht, e0, e1, e2]
      simp [cls6])
  have e : (rows6.map code6).length = 18 := by decide +kernel
  rw [e] at h1
  have h2 := cls6_len L
  omega
/-- the states -/
def stQ (L : List Wd) (k : Nat) : List Wd := [] :: (List.range k).map (fun x => [lt97 x]) ++ L.flatMap fun r => (List.range (r.length - 2)).map fun i => r.take (i + 2)
theorem stQ_has {L : List Wd} {k : Nat} {q : Wd} (h : inQ L q) (hl : ∀ y ∈ q, ∃ x, x < k ∧ y = lt97 x) : q ∈ stQ L k := by
  unfold stQ
  rcases h with rfl | ⟨r, hr, y, t, e⟩
  · simp
  · match q, hl, e with
    | [], _, _ => simp
    | [z], hl, _ =>
      obtain ⟨x, hx, rfl⟩ := hl z List.mem_cons_self
      apply List.mem_append_left
      apply List.mem_cons_of_mem
      exact List.mem_map.2 ⟨x, List.mem_range.2 hx, rfl⟩
    | z :: z2 :: q', _, e =>
      apply List.mem_append_right
      refine List.mem_flatMap.2 ⟨r, hr, List.mem_map.2 ⟨q'.length, List.mem_range.2 ?_, ?_⟩⟩
      · rw [e]; simp
      · rw [e]; simp
def exSum (L : List Wd) : Nat := (L.map fun r => r.length - 2).sum
theorem stQ_len (L : List Wd) (k : Nat) : (stQ L k).length = 1 + k + exSum L := by
  unfold stQ exSum
  rw [List.length_append, List.length_flatMap]
  simp
  omega
theorem exSum_le {L : List Wd} (h8 : ∀ r ∈ L, r.length ≤ 8) : exSum L + 6 * two L ≤ 6 * L.length := by
  induction L with
  | nil => exact Nat.le_refl _
  | cons r L ih =>
    have h1 := ih fun x hx => h8 x (List.mem_cons_of_mem _ hx)
    have h2 := h8 r List.mem_cons_self
    unfold exSum two at *
    rw [List.filter_cons]
    simp only [List.map_cons, List.sum_cons, List.length_cons]
    by_cases h3 : r.length = 2
    · simp [h3]; omega
    · simp [h3]; omega
theorem exSum_one {L : List Wd} (h8 : ∀ r ∈ L, r.length ≤ 8) {r : Wd} (hr : r ∈ L) : exSum L + 6 ≤ 6 * L.length + (r.length - 2) := by
  have hp := List.perm_cons_erase hr
  have e : exSum L = (r.length - 2) + exSum (L.erase r) := by
    unfold exSum
    have := (hp.map fun r => r.length - 2).sum_nat
    rw [this]
    simp
  have h1 := exSum_le (L := L.erase r) fun x hx => h8 x (List.mem_of_mem_erase hx)
  have h2 := List.length_erase_of_mem hr
  have h3 : 0 < L.length := List.length_pos_of_mem hr
  omega
theorem fil_len (l : List Nat) (p : Nat → Bool) {y : Nat} (hy : y ∈ l) (h : p y = false) : (l.filter p).length + 1 ≤ l.length := by
  induction l with
  | nil => cases hy
  | cons a l ih =>
    rw [List.filter_cons]
    rcases List.mem_cons.1 hy with rfl | hy
    · rw [h]
      have := List.length_filter_le p l
      simp only [List.length_cons]
      simp
      omega
    · have := ih hy
      split
      · simp only [List.length_cons]; omega
      · simp only [List.length_cons]; omega
def topB : Nat := 4611686018427387903
theorem bons_ok : bon 2 76 ≤ topB ∧ bon 3 71 ≤ topB ∧ bon 4 65 ≤ topB := by decide +kernel
/-- all words that avoid twelve words are at most 2^62 - 1, if they are finitely many -/
theorem all_le {L : List Wd} {k N : Nat} (hk : k ≤ 4) (hN : pwA L k N [] = 0) (h12 : L.length ≤ 12) (h8 : ∀ r ∈ L, r.length ≤ 8) (hne : ∀ r ∈ L, r ≠ []) (hlet : ∀ r ∈ L, ∀ y ∈ r, ∃ x, x < k ∧ y = lt97 x) : tot L k N [] ≤ topB := by
  obtain ⟨b2, b3, b4⟩ := bons_ok
  have hd0 : ∀ v, ((List.range k).filter fun x => okL L v x).length ≤ k := fun v => by
    have := List.length_filter_le (fun x => okL L v x) (List.range k)
    simpa using this
  have hq := stQ_len L k
  have hs := exSum_le h8
  by_cases hdead : ∃ r ∈ L, r.length = 1
  · obtain ⟨r, hr, hr1⟩ := hdead
    obtain ⟨y, rfl⟩ := List.length_eq_one_iff.1 hr1
    obtain ⟨x, hx, rfl⟩ := hlet _ hr y List.mem_cons_self
    have hd : ∀ v, ((List.range k).filter fun x => okL L v x).length ≤ k - 1 := fun v => by
      have h1 := fil_len (List.range k) (fun x => okL L v x) (List.mem_range.2 hx) (by
        unfold okL
        have : endsL L (v ++ [lt97 x]) = true := endsL_iff.2 ⟨_, hr, List.suffix_append _ _⟩
        rw [this]; rfl)
      simp at h1
      omega
    have h1 := exSum_one h8 hr
    simp at h1
    by_cases h4 : k = 4
    · subst h4
      exact Nat.le_trans (tot_le hne (by omega) hN (fun q hq hl => stQ_has hq hl) hd) (Nat.le_trans (bon_mono 3 (by omega)) b3)
    · exact Nat.le_trans (tot_le hne hk hN (fun q hq hl => stQ_has hq hl) (d := 2) (fun v => by have := hd v; omega)) (Nat.le_trans (bon_mono 2 (by omega)) b2)
  · have hl2 : ∀ r ∈ L, 2 ≤ r.length := fun r hr => by
      have h1 : r.length ≠ 1 := fun e => hdead ⟨r, hr, e⟩
      have h2 : r.length ≠ 0 := fun e => hne r hr (List.length_eq_zero_iff.1 e)
      omega
    by_cases h4 : k = 4
    · subst h4
      have h5 := short4 hN h12 hl2
      exact Nat.le_trans (tot_le hne (by omega) hN (fun q hq hl => stQ_has hq hl) hd0) (Nat.le_trans (bon_mono 4 (by omega)) b4)
    · by_cases h3 : k = 3
      · subst h3
        obtain ⟨r, hr, hr3⟩ := short3 hN h12
        have h1 := exSum_one h8 hr
        exact Nat.le_trans (tot_le hne (by omega) hN (fun q hq hl => stQ_has hq hl) hd0) (Nat.le_trans (bon_mono 3 (by omega)) b3)
      · exact Nat.le_trans (tot_le hne hk hN (fun q hq hl => stQ_has hq hl) (d := 2) (fun v => by have := hd0 v; omega)) (Nat.le_trans (bon_mono 2 (by omega)) b2)
end Go.Proofs.YtdhaebbfiaddnaaGreatDoor
