/-
  Counting with lists of marked numbers: one-to-one maps and fibres; classes by number.
-/
import Derived.Test.YtdhaebbfiaddnaaGreatDoorGts24
import Derived.Test.YtdhaebbfiaddnaaGreatDoorGts23
import Derived.Test.YtdhaebbfiaddnaaGreatDoorGts22
namespace Go.Proofs.YtdhaebbfiaddnaaGreatDoor
open Go.RowKit
set_option linter.unusedVariables false
set_option linter.unusedSectionVars false

/-! numbers of classes -/
/-- an equivalence, as a function -/
structure EqvB (p : Nat → Nat → Bool) : Prop where
  refl : ∀ i, p i i = true
  same : ∀ i k, p i k = true → p i = p k
theorem eqv_rel (m : Nat) (ln : List Nat) (kind : Int) : EqvB (relK m ln kind) := ⟨relK_refl m ln kind, fun _ _ h => relK_fun h⟩
theorem num_full {p : Nat → Nat → Bool} (h : EqvB p) {c i : Nat} (hi : i < c) : numI p (numF p c) i = numV p (numF p i) i := numI_full (m := c) (fun i _ => h.refl i) hi
theorem num_first {p : Nat → Nat → Bool} (h : EqvB p) {c i : Nat} (hi : i < c) : ∃ f, f ∈ numF p c ∧ p i f = true := by
  have h1 : ¬ numI p (numF p c) i < 0 := by
    rw [num_full h hi]
    have := numV_nn p (numF p i) i
    omega
  rw [numI_neg] at h1
  have h2 : (numF p c).any (p i) = true := by cases hh : (numF p c).any (p i) <;> simp_all
  obtain ⟨f, hf, hp⟩ := List.any_eq_true.1 h2
  exact ⟨f, hf, hp⟩
theorem num_same {p : Nat → Nat → Bool} (h : EqvB p) {c i k : Nat} (hi : i < c) (hk : k < c) : nthZ (numO p c) i = nthZ (numO p c) k ↔ p i k = true := by
  rw [numO_nth hi, numO_nth hk, ← num_full h hi, ← num_full h hk]
  constructor
  · intro he
    have h1 : 0 ≤ numI p (numF p c) i := by rw [num_full h hi]; exact numV_nn _ _ _
    unfold numI at he h1
    cases h2 : (numF p c).findIdx? (p i)
    · rw [h2] at h1; simp at h1
    · rename_i a
      rw [h2] at he
      cases h3 : (numF p c).findIdx? (p k)
      · rw [h3] at he; simp at he
      · rename_i b
        rw [h3] at he
        obtain rfl : a = b := by simp at he; omega
        obtain ⟨ha, hpa, _⟩ := List.findIdx?_eq_some_iff_getElem.1 h2
        obtain ⟨_, hpb, _⟩ := List.findIdx?_eq_some_iff_getElem.1 h3
        rw [h.same _ _ hpa, ← h.same _ _ hpb]
        exact h.refl k
  · intro he
    unfold numI
    rw [h.same i k he]
theorem num_new {p : Nat → Nat → Bool} (h : EqvB p) (c : Nat) : (numF p c).any (p c) = false ↔ ∀ j, j < c → p c j = false := by
  constructor
  · intro ha j hj
    rw [Bool.eq_false_iff]
    intro hp
    obtain ⟨f, hf, h1⟩ := num_first h hj
    rw [List.any_eq_false] at ha
    refine ha f hf ?_
    rw [h.same c j hp]; exact h1
  · intro ha
    rw [List.any_eq_false]
    intro f hf
    rw [ha f (numF_lt p c f hf)]
    exact Bool.false_ne_true
theorem num_finer {p q : Nat → Nat → Bool} (hp : EqvB p) (hq : EqvB q) (h : ∀ i k, p i k = true → q i k = true) : ∀ c, (numF q c).length ≤ (numF p c).length
  | 0 => Nat.le_refl _
  | c + 1 => by
    have ih := num_finer hp hq h c
    rw [numF_succ, numF_succ]
    cases h1 : (numF q c).any (q c)
    · have h2 : (numF p c).any (p c) = false := (num_new hp c).2 fun j hj => by
        rw [Bool.eq_false_iff]
        intro h3
        have := (num_new hq c).1 h1 j hj
        rw [h c j h3] at this
        cases this
      rw [h2]
      simp
      exact ih
    · cases h2 : (numF p c).any (p c)
      · simp; omega
      · simp; exact ih
theorem num_count (p : Nat → Nat → Bool) : ∀ c, cntF (numO p c) = ((numF p c).length : Int)
  | 0 => rfl
  | c + 1 => by
    rw [numO_succ, cntF_step, num_count p c, numF_count]
    have h1 := numV_le (p := p) (F := numF p c) (j := c)
    split
    · rename_i h2; rw [h2]; omega
    · rename_i h2; omega
theorem cnt_one {l : List Int} (h : l.length ≠ 0) (hn : ∀ x ∈ l, 0 ≤ x) : 1 ≤ cntF l := by
  cases l with
  | nil => exact absurd rfl h
  | cons x l =>
    have a := (cntF_ge (x :: l) 0).2 x List.mem_cons_self
    have b := hn x List.mem_cons_self
    unfold cntF
    omega

/-! ideals -/
section
variable {m : Nat} {ln : List Nat}
theorem idB_iff {i x c : Nat} : idB m ln i c x = true ↔ ∃ y, y < c ∧ ∃ z, z < m ∧ tm m ln (tm m ln y i) z = x := by
  unfold idB idI
  simp
theorem mem1 {i x : Nat} : ((x : Nat) : Int) ∈ idLs m ln 1 i ↔ x < m ∧ idR m ln i m x = true := by unfold idLs; rw [listTo_at, inId_1]
theorem mem2 {i x : Nat} : ((x : Nat) : Int) ∈ idLs m ln 2 i ↔ x < m ∧ idL m ln i m x = true := by unfold idLs; rw [listTo_at, inId_2]
theorem mem3 {i x : Nat} : ((x : Nat) : Int) ∈ idLs m ln 3 i ↔ x < m ∧ idB m ln i m x = true := by unfold idLs; rw [listTo_at, inId_3 (by decide) (by decide)]
variable (h : TabOk m ln)
include h
theorem self1 {i : Nat} (hi : i < m) : ((i : Nat) : Int) ∈ idLs m ln 1 i := mem1.2 ⟨hi, idR_iff.2 ⟨0, h.lo, h.right i hi⟩⟩
theorem self2 {i : Nat} (hi : i < m) : ((i : Nat) : Int) ∈ idLs m ln 2 i := mem2.2 ⟨hi, idL_iff.2 ⟨0, h.lo, h.left i hi⟩⟩
theorem self3 {i : Nat} (hi : i < m) : ((i : Nat) : Int) ∈ idLs m ln 3 i := mem3.2 ⟨hi, idB_iff.2 ⟨0, h.lo, 0, h.lo, by rw [h.left i hi, h.right i hi]⟩⟩
theorem sub13 {i x : Nat} (hi : i < m) (hx : ((x : Nat) : Int) ∈ idLs m ln 1 i) : ((x : Nat) : Int) ∈ idLs m ln 3 i := by
  obtain ⟨h1, h2⟩ := mem1.1 hx
  obtain ⟨y, hy, e⟩ := idR_iff.1 h2
  exact mem3.2 ⟨h1, idB_iff.2 ⟨0, h.lo, y, hy, by rw [h.left i hi]; exact e⟩⟩
theorem sub23 {i x : Nat} (hi : i < m) (hx : ((x : Nat) : Int) ∈ idLs m ln 2 i) : ((x : Nat) : Int) ∈ idLs m ln 3 i := by
  obtain ⟨h1, h2⟩ := mem2.1 hx
  obtain ⟨y, hy, e⟩ := idL_iff.1 h2
  exact mem3.2 ⟨h1, idB_iff.2 ⟨y, hy, 0, h.lo, by rw [e, h.right x h1]⟩⟩
theorem idB_le {i k : Nat} (hi : i < m) (hk : k < m) (hr : ∃ a b, a < m ∧ b < m ∧ tm m ln (tm m ln a k) b = i) {x : Nat} (hx : idB m ln i m x = true) : idB m ln k m x = true := by
  obtain ⟨a, b, ha, hb, rfl⟩ := hr
  obtain ⟨y, hy, z, hz, rfl⟩ := idB_iff.1 hx
  have hak := h.tm_lt ha hk
  have hya := h.tm_lt hy ha
  refine idB_iff.2 ⟨tm m ln y a, hya, tm m ln b z, h.tm_lt hb hz, ?_⟩
  rw [← h.assoc y _ b hy hak hb, h.assoc _ b z (h.tm_lt hy hak) hb hz, ← h.assoc y a k hy ha hk]
theorem rel_43 {i k : Nat} (hi : i < m) (hk : k < m) (hr : relK m ln 4 i k = true) : relK m ln 3 i k = true := by
  obtain ⟨⟨⟨a, ha, h1⟩, b, hb, h2⟩, _⟩ := (rel4_iff h hi hk).1 hr
  rw [relK_not4 (by decide), decide_eq_true_eq]
  refine listTo_congr fun x hx => ?_
  rw [inId_3 (by decide) (by decide), inId_3 (by decide) (by decide), Bool.eq_iff_iff]
  exact ⟨idB_le h hi hk ⟨0, a, h.lo, ha, by rw [h.left k hk]; exact h1⟩, idB_le h hk hi ⟨0, b, h.lo, hb, by rw [h.left i hi]; exact h2⟩⟩
end
/-- the best of two ideals: the later one if it is shorter -/
def bestI (m : Nat) (ln : List Nat) (b : Nat) (i : Nat) : Nat := if (idLs m ln 3 i).length < (idLs m ln 3 b).length then i else b
/-- the element whose ideal is the least, among 0 and those below c -/
def leastTo (m : Nat) (ln : List Nat) : Nat → Nat
  | 0 => 0
  | c + 1 => bestI m ln (leastTo m ln c) c
theorem leastTo_lt {m : Nat} {ln : List Nat} (hm : 1 ≤ m) : ∀ c, c ≤ m → leastTo m ln c < m
  | 0, _ => hm
  | c + 1, hc => by
    have := leastTo_lt (ln := ln) hm c (by omega)
    unfold leastTo bestI
    split <;> omega
theorem leastTo_le {m : Nat} {ln : List Nat} : ∀ c i, i < c → (idLs m ln 3 (leastTo m ln c)).length ≤ (idLs m ln 3 i).length
  | 0, i, h => by omega
  | c + 1, i, h => by
    unfold leastTo bestI
    split
    · rename_i h1
      rcases Nat.lt_succ_iff_lt_or_eq.1 h with h2 | rfl
      · have := leastTo_le (m := m) (ln := ln) c i h2; omega
      · exact Nat.le_refl _
    · rename_i h1
      rcases Nat.lt_succ_iff_lt_or_eq.1 h with h2 | rfl
      · exact leastTo_le c i h2
      · omega
theorem listTo_full {f g : Nat → Bool} {m : Nat} (h : ∀ x, x < m → f x = true → g x = true) (hl : (listTo g m).length ≤ (listTo f m).length) : ∀ x, x < m → g x = true → f x = true := by
  intro x hx hg
  cases hf : f x
  · exfalso
    have h1 : (listTo f m).length ≤ (listTo (fun y => g y && !decide (y = x)) m).length := listTo_mono fun y hy hfy => by
      rw [h y hy hfy]
      have : y ≠ x := by rintro rfl; rw [hf] at hfy; cases hfy
      simp [this]
    have h2 : (listTo (fun y => g y && !decide (y = x)) m).length + 1 ≤ (listTo g m).length := by
      have key : ∀ n, x < n → (listTo (fun y => g y && !decide (y = x)) n).length + 1 ≤ (listTo g n).length := by
        intro n
        induction n with
        | zero => intro h; omega
        | succ n ih =>
          intro hn
          by_cases he : n = x
          · subst he
            rw [listTo_no (f := fun y => g y && !decide (y = n)) (by simp), listTo_yes hg, List.length_append]
            have : (listTo (fun y => g y && !decide (y = n)) n).length ≤ (listTo g n).length := listTo_mono fun y _ hy => by
              rw [Bool.and_eq_true] at hy; exact hy.1
            simp
            exact this
          · have h3 := ih (by omega)
            cases hgn : g n
            · rw [listTo_no (f := fun y => g y && !decide (y = x)) (by simp [hgn]), listTo_no hgn]; exact h3
            · rw [listTo_yes (f := fun y => g y && !decide (y = x)) (by simp [hgn, he]), listTo_yes hgn, List.length_append, List.length_append]
              simp
              exact h3
      exact key m hx
    omega
  · rfl
section
variable {m : Nat} {ln : List Nat} (h : TabOk m ln)
include h
/-- the least ideal lies in each -/
theorem least_in {i x : Nat} (hi : i < m) (hx : ((x : Nat) : Int) ∈ idLs m ln 3 (leastTo m ln m)) : ((x : Nat) : Int) ∈ idLs m ln 3 i := by
  have hj := leastTo_lt (ln := ln) h.lo m (Nat.le_refl _)
  have hp := h.tm_lt hi hj
  have hl := leastTo_le (m := m) (ln := ln) m _ hp
  obtain ⟨h1, h2⟩ := mem3.1 hx
  have key := listTo_full (f := inId m ln 3 (tm m ln i (leastTo m ln m))) (g := inId m ln 3 (leastTo m ln m)) (m := m) (fun y hy hf => by
    rw [inId_3 (by decide) (by decide)] at hf ⊢
    exact idB_le h hp hj ⟨i, 0, hi, h.lo, h.right _ hp⟩ hf) hl x h1 (by rw [inId_3 (by decide) (by decide)]; exact h2)
  rw [inId_3 (by decide) (by decide)] at key
  exact mem3.2 ⟨h1, idB_le h hp hi ⟨0, leastTo m ln m, h.lo, hj, by rw [h.left i hi]⟩ key⟩
end
theorem listTo_len_one {f : Nat → Bool} {m j : Nat} (hj : j < m) (hf : f j = true) : (listTo f m).length = 1 ↔ ∀ x, x < m → f x = true → x = j := by
  have e1 : (listTo (fun x => decide (x = j)) m).length = 1 := by
    have key : ∀ n, j < n → (listTo (fun x => decide (x = j)) n).length = 1 := by
      intro n
      induction n with
      | zero => intro h; omega
      | succ n ih =>
        intro hn
        by_cases he : n = j
        · subst he
          rw [listTo_yes (f := fun x => decide (x = n)) (by simp), List.length_append]
          have : listTo (fun x => decide (x = n)) n = [] := by
            refine List.eq_nil_iff_forall_not_mem.2 fun y hy => ?_
            obtain ⟨k, _, hk, h2⟩ := (listTo_mem _ _ _).1 hy
            have := of_decide_eq_true h2
            omega
          rw [this]; rfl
        · rw [listTo_no (f := fun x => decide (x = j)) (by simpa using he)]
          exact ih (by omega)
    exact key m hj
  constructor
  · intro hl x hx hfx
    have := listTo_full (f := fun x => decide (x = j)) (g := f) (m := m) (fun y _ hy => by rw [of_decide_eq_true hy]; exact hf) (by omega) x hx hfx
    exact of_decide_eq_true this
  · intro h
    rw [show listTo f m = listTo (fun x => decide (x = j)) m from listTo_congr fun x hx => by
      rw [Bool.eq_iff_iff, decide_eq_true_eq]
      exact ⟨h x hx, fun e => by rw [e]; exact hf⟩]
    exact e1
theorem zero_iff {m : Nat} {l : List Int} (h : TabG m l) : (0 ≤ zeroF (m : Nat) l) ↔ ∃ z, z < m ∧ zeroB m (l.map Int.toNat) z = true := by
  unfold zeroF
  rw [thoseL_yes h.tab, Int.toNat_natCast]
  unfold firstZ
  cases hl : listTo (zeroB m (l.map Int.toNat)) m with
  | nil =>
    constructor
    · intro h1; exact absurd h1 (by decide)
    · rintro ⟨z, hz, h1⟩
      have : ((z : Nat) : Int) ∈ listTo (zeroB m (l.map Int.toNat)) m := listTo_at.2 ⟨hz, h1⟩
      rw [hl] at this; cases this
  | cons x t =>
    have h1 : x ∈ listTo (zeroB m (l.map Int.toNat)) m := by rw [hl]; exact List.mem_cons_self
    obtain ⟨j, rfl, hj, h2⟩ := (listTo_mem _ _ _).1 h1
    exact ⟨fun _ => ⟨j, hj, h2⟩, fun _ => Int.natCast_nonneg j⟩
section
variable {m : Nat} {ln : List Nat} (h : TabOk m ln)
include h
theorem zeroB_iff {z : Nat} : zeroB m ln z = true ↔ ∀ i, i < m → tm m ln z i = z ∧ tm m ln i z = z := by
  unfold zeroB
  rw [all_range]
  constructor
  · intro h1 i hi
    have := h1 i hi
    unfold zerB at this
    simpa using this
  · intro h1 i hi
    unfold zerB
    simpa using h1 i hi
theorem zero_least : (∃ z, z < m ∧ zeroB m ln z = true) ↔ (idLs m ln 3 (leastTo m ln m)).length = 1 := by
  have hj := leastTo_lt (ln := ln) h.lo m (Nat.le_refl _)
  have hself := (mem3.1 (self3 h hj)).2
  have e1 : (idLs m ln 3 (leastTo m ln m)).length = 1 ↔ ∀ x, x < m → inId m ln 3 (leastTo m ln m) x = true → x = leastTo m ln m := listTo_len_one hj (by rw [inId_3 (by decide) (by decide)]; exact hself)
  constructor
  · rintro ⟨z, hz, h1⟩
    have h2 := (zeroB_iff h).1 h1
    have h3 : (idLs m ln 3 z).length = 1 := (listTo_len_one hz (by rw [inId_3 (by decide) (by decide)]; exact (mem3.1 (self3 h hz)).2)).2 fun x hx hf => by
      rw [inId_3 (by decide) (by decide)] at hf
      obtain ⟨y, hy, w, hw, e⟩ := idB_iff.1 hf
      rw [(h2 y hy).2, (h2 w hw).1] at e
      exact e.symm
    have h4 := leastTo_le (m := m) (ln := ln) m z hz
    have h5 : (idLs m ln 3 (leastTo m ln m)).length ≠ 0 := fun h0 => by
      have := self3 h hj
      rw [List.eq_nil_of_length_eq_zero h0] at this
      cases this
    omega
  · intro hl
    have h1 := e1.1 hl
    refine ⟨_, hj, (zeroB_iff h).2 fun i hi => ⟨?_, ?_⟩⟩
    · refine h1 _ (h.tm_lt hj hi) ?_
      rw [inId_3 (by decide) (by decide)]
      exact idB_iff.2 ⟨0, h.lo, i, hi, by rw [h.left _ hj]⟩
    · refine h1 _ (h.tm_lt hi hj) ?_
      rw [inId_3 (by decide) (by decide)]
      exact idB_iff.2 ⟨i, hi, 0, h.lo, h.right _ (h.tm_lt hi hj)⟩
end
end Go.Proofs.YtdhaebbfiaddnaaGreatDoor
namespace Go.Proofs.YtdhaebbfiaddnaaGreatDoor
open Go.RowKit
set_option linter.unusedVariables false
/-- more pigeons than holes -/
theorem php : ∀ (m : Nat) (f : Nat → Nat), (∀ i, i ≤ m → f i < m) → ∃ i j, i < j ∧ j ≤ m ∧ f i = f j
  | 0, f, h => absurd (h 0 (Nat.le_refl _)) (Nat.not_lt_zero _)
  | m + 1, f, h => by
    by_cases he : ∃ i, i ≤ m ∧ f i = f (m + 1)
    · obtain ⟨i, hi, e⟩ := he
      exact ⟨i, m + 1, by omega, Nat.le_refl _, e⟩
    · have hne : ∀ i, i ≤ m → f i ≠ f (m + 1) := fun i hi e => he ⟨i, hi, e⟩
      obtain ⟨i, j, hij, hj, e⟩ := php m (fun i => if f i = m then f (m + 1) else f i) (fun i hi => by
        have h1 := h i (by omega)
        have h2 := h (m + 1) (Nat.le_refl _)
        have h3 := hne i hi
        by_cases e : f i = m
        · simp only [e, if_true]; omega
        · simp only [e, if_false]; omega)
      have h1 := hne i (by omega)
      have h2 := hne j hj
      refine ⟨i, j, hij, by omega, ?_⟩
      by_cases e1 : f i = m <;> by_cases e2 : f j = m <;> simp [e1, e2] at e <;> omega
/-- the powers of an element -/
def pw (m : Nat) (ln : List Nat) (i : Nat) : Nat → Nat
  | 0 => 0
  | n + 1 => tm m ln (pw m ln i n) i
theorem pw_zero (m : Nat) (ln : List Nat) (i : Nat) : pw m ln i 0 = 0 := rfl
theorem pw_succ (m : Nat) (ln : List Nat) (i n : Nat) : pw m ln i (n + 1) = tm m ln (pw m ln i n) i := rfl
theorem Tb.pw_lt {m : Nat} {ln : List Nat} (h : Tb m ln) {i : Nat} (hi : i < m) : ∀ n, pw m ln i n < m
  | 0 => h.lo
  | n + 1 => h.tm_lt (h.pw_lt hi n) hi
theorem TabOk.pw_add {m : Nat} {ln : List Nat} (h : TabOk m ln) {i : Nat} (hi : i < m) (a : Nat) : ∀ b, pw m ln i (a + b) = tm m ln (pw m ln i a) (pw m ln i b)
  | 0 => by rw [Nat.add_zero, pw_zero, h.right _ (h.pw_lt hi a)]
  | b + 1 => by
    rw [← Nat.add_assoc, pw_succ, h.pw_add hi a b, pw_succ, h.assoc _ _ _ (h.pw_lt hi a) (h.pw_lt hi b) hi]
/-- the power n was there before -/
def repB (m : Nat) (ln : List Nat) (i n : Nat) : Bool := (List.range n).any fun k => decide (pw m ln i k = pw m ln i n)
theorem repB_iff {m : Nat} {ln : List Nat} {i n : Nat} : repB m ln i n = true ↔ ∃ k, k < n ∧ pw m ln i k = pw m ln i n := by simp [repB]
theorem Tb.rep {m : Nat} {ln : List Nat} (h : Tb m ln) {i : Nat} (hi : i < m) : ∃ n, n ≤ m ∧ repB m ln i n = true := by
  obtain ⟨k, n, hk, hn, e⟩ := php m (pw m ln i) (fun n _ => h.pw_lt hi n)
  exact ⟨n, hn, repB_iff.2 ⟨k, hk, e⟩⟩
/-- the first number that has a property, of those up to m -/
def firstN (p : Nat → Bool) (m : Nat) : Nat := ((List.range (m + 1)).find? p).getD 0
theorem firstN_spec {p : Nat → Bool} {m n : Nat} (hn : n ≤ m) (hp : p n = true) : p (firstN p m) = true ∧ firstN p m ≤ n ∧ ∀ z, z < firstN p m → p z = false := by
  unfold firstN
  cases h : (List.range (m + 1)).find? p
  · rw [List.find?_eq_none] at h
    have := h n (by simp; omega)
    simp [hp] at this
  · rename_i k
    rw [List.find?_eq_some_iff_getElem] at h
    obtain ⟨h1, j, hj, h2, h3⟩ := h
    simp only [List.getElem_range] at h2 h3
    subst h2
    simp only [Option.getD_some]
    refine ⟨h1, ?_, fun z hz => by simpa using h3 z hz⟩
    rcases Nat.lt_or_ge n j with hlt | hge
    · have := h3 n hlt
      simp [hp] at this
    · exact hge
def repN (m : Nat) (ln : List Nat) (i : Nat) : Nat := firstN (repB m ln i) m
def repK (m : Nat) (ln : List Nat) (i : Nat) : Nat := firstN (fun k => decide (pw m ln i k = pw m ln i (repN m ln i))) m
theorem Tb.repN_le {m : Nat} {ln : List Nat} (h : Tb m ln) {i : Nat} (hi : i < m) : repN m ln i ≤ m := by
  obtain ⟨n, hn, hp⟩ := h.rep hi
  exact Nat.le_trans (firstN_spec hn hp).2.1 hn
theorem Tb.repN_rep {m : Nat} {ln : List Nat} (h : Tb m ln) {i : Nat} (hi : i < m) : repB m ln i (repN m ln i) = true := by
  obtain ⟨n, hn, hp⟩ := h.rep hi
  exact (firstN_spec hn hp).1
theorem Tb.repN_min {m : Nat} {ln : List Nat} (h : Tb m ln) {i : Nat} (hi : i < m) {z : Nat} (hz : z < repN m ln i) : repB m ln i z = false := by
  obtain ⟨n, hn, hp⟩ := h.rep hi
  exact (firstN_spec hn hp).2.2 z hz
theorem Tb.repK_spec {m : Nat} {ln : List Nat} (h : Tb m ln) {i : Nat} (hi : i < m) : repK m ln i < repN m ln i ∧ pw m ln i (repK m ln i) = pw m ln i (repN m ln i) ∧ ∀ z, z < repK m ln i → pw m ln i z ≠ pw m ln i (repN m ln i) := by
  obtain ⟨k, hk, e⟩ := repB_iff.1 (h.repN_rep hi)
  have h1 := firstN_spec (p := fun k => decide (pw m ln i k = pw m ln i (repN m ln i))) (m := m) (n := k) (by have := h.repN_le hi; omega) (by simpa using e)
  refine ⟨?_, by simpa [repK] using h1.1, fun z hz => by simpa using h1.2.2 z hz⟩
  have : repK m ln i ≤ k := h1.2.1
  omega
/-- a group -/
structure Grp (m : Nat) (ln : List Nat) : Prop extends TabOk m ln where
  unit : ∀ i, i < m → isUnit m ln i = true
theorem Grp.inv {m : Nat} {ln : List Nat} (h : Grp m ln) {i : Nat} (hi : i < m) : ∃ k, k < m ∧ tm m ln i k = 0 ∧ tm m ln k i = 0 ∧ invF m ln i = (k : Nat) := by
  have h1 := h.unit i hi
  rw [← invF_unit] at h1
  rcases invF_lt (m := m) (ln := ln) (i := i) with h2 | ⟨k, h2, h3, h4⟩
  · rw [h2] at h1; simp at h1
  · simp [invB] at h4
    exact ⟨k, h3, h4.1, h4.2, h2⟩
theorem Grp.right_inv {m : Nat} {ln : List Nat} (h : Grp m ln) {i k : Nat} (hi : i < m) (hk : k < m) (e : tm m ln i k = 0) : tm m ln k i = 0 ∧ invF m ln i = (k : Nat) := by
  obtain ⟨k', hk', e1, e2, e3⟩ := h.inv hi
  have : k = k' := by
    have h1 := h.assoc k' i k hk' hi hk
    rw [e2, e, h.left k hk, h.right k' hk'] at h1
    exact h1
  subst this
  exact ⟨e2, e3⟩
theorem Grp.cancel {m : Nat} {ln : List Nat} (h : Grp m ln) {x a b : Nat} (hx : x < m) (ha : a < m) (hb : b < m) (e : tm m ln x a = tm m ln x b) : a = b := by
  obtain ⟨k, hk, _, e2, _⟩ := h.inv hx
  have h1 := h.assoc k x a hk hx ha
  have h2 := h.assoc k x b hk hx hb
  rw [e2, h.left a ha] at h1
  rw [e2, h.left b hb] at h2
  rw [h1, h2, e]
theorem Grp.repK_zero {m : Nat} {ln : List Nat} (h : Grp m ln) {i : Nat} (hi : i < m) : repK m ln i = 0 := by
  obtain ⟨h1, h2, h3⟩ := h.repK_spec hi
  have e : pw m ln i (repN m ln i) = tm m ln (pw m ln i (repK m ln i)) (pw m ln i (repN m ln i - repK m ln i)) := by
    rw [← h.pw_add hi]; congr 1; omega
  have h4 : pw m ln i (repN m ln i - repK m ln i) = 0 := by
    refine h.cancel (h.pw_lt hi (repK m ln i)) (h.pw_lt hi _) h.lo ?_
    rw [← e, ← h2, h.right _ (h.pw_lt hi _)]
  rcases Nat.eq_zero_or_pos (repK m ln i) with h5 | h5
  · exact h5
  · have h6 := h.repN_min hi (z := repN m ln i - repK m ln i) (by omega)
    have h7 : repB m ln i (repN m ln i - repK m ln i) = true := repB_iff.2 ⟨0, by omega, by rw [h4]; rfl⟩
    rw [h7] at h6
    cases h6
/-- the order of an element of a group: the first power that is the identity -/
theorem Grp.order {m : Nat} {ln : List Nat} (h : Grp m ln) {i : Nat} (hi : i < m) : 1 ≤ repN m ln i ∧ pw m ln i (repN m ln i) = 0 ∧ ∀ n, 1 ≤ n → n < repN m ln i → pw m ln i n ≠ 0 := by
  have h0 := h.repK_zero hi
  obtain ⟨h1, h2, _⟩ := h.repK_spec hi
  rw [h0] at h1 h2
  refine ⟨by omega, h2.symm, fun n hn hlt e => ?_⟩
  have h6 := h.repN_min hi (z := n) hlt
  have h7 : repB m ln i n = true := repB_iff.2 ⟨0, by omega, by rw [e]; rfl⟩
  rw [h7] at h6
  cases h6
theorem groupB_tab {n : Int} {l : List Int} (h : groupB n l = true) : tabB n l = true := by
  simp only [groupB, Bool.and_eq_true] at h
  exact h.1
theorem groupB_out {n : Int} {l : List Int} (h : groupB n l = true) : ∃ m ln, n = (m : Nat) ∧ l = ln.map Int.ofNat ∧ Grp m ln := by
  have ht := groupB_tab h
  obtain ⟨m, ln, rfl, rfl, hT⟩ := tabOk_out ht
  refine ⟨m, ln, rfl, rfl, hT, ?_⟩
  simp only [groupB, Bool.and_eq_true, decide_eq_true_eq] at h
  have h2 := h.2
  unfold unitsOfF at h2
  rw [thoseL_yes ht, map_toNat] at h2
  simp only [Int.toNat_natCast, listTo, List.length_map] at h2
  have h3 : ((List.range m).filter (isUnit m ln)).length = (List.range m).length := by simp; omega
  have h4 := List.length_filter_eq_length_iff.1 h3
  exact fun i hi => h4 i (List.mem_range.2 hi)
end Go.Proofs.YtdhaebbfiaddnaaGreatDoor
namespace Go.Proofs.YtdhaebbfiaddnaaGreatDoor
open Go.RowKit
set_option linter.unusedVariables false
theorem owns_capZ {w : World} {base : Nat} {T : TypeId} {size : Nat} {a : Option Addr} {n m cap : Nat} {xs : List Value} (h : w.ownsRow base T size (.slice a n cap) m xs) : n ≤ cap ∧ cap ≤ maxLen := by
  rcases h.2 with ⟨hv, h0⟩ | ⟨g, cap', cur, hv, hb, hg, hn, hc, r⟩
  · simp only [Value.slice.injEq] at hv
    obtain ⟨_, rfl, rfl⟩ := hv
    exact ⟨Nat.le_refl _, Nat.zero_le _⟩
  · simp only [Value.slice.injEq] at hv
    obtain ⟨_, rfl, rfl⟩ := hv
    exact ⟨hn, hc⟩
def eqZ (x : Int) : Int → Bool := fun y => x == y
theorem eqZ_def (x y : Int) : (x == y) = eqZ x y := rfl
set_option maxHeartbeats 400000 in
theorem indexInts_any (x : Int) (l : List Int) (a : Option Addr) (cap : Nat) (w : World) (hl : IntsIn w a l) (hlen : l.length ≤ 2 ^ 47) :
    Calls Tryz.prog 124 #[.slice a l.length cap, .int .i64 x] w fun e w' => e = .returned (.int .i64 (idxZ (eqZ x) l)) ∧ Below w.heap.size w w' := by
  go_enter Tryz.func124, Tryz.ntmps124
  go_wp2
  go_loopw [8] (fun i wr => ∃ j : Nat, j ≤ l.length ∧ i = .int .i64 j ∧ noneTo (eqZ x) l j ∧ wr = w) (fun i _ => l.length - (intOf i).toNat)
  case atStart => exact ⟨0, Nat.zero_le _, rfl, noneTo_zero _ _, rfl⟩
  case round =>
    obtain ⟨j, hj, rfl, hall, rfl⟩ := hrel
    have H := Lib.hid hall
    clear hall
    by_cases hlt : j < l.length
    · obtain ⟨b, off, rfl, hb, hc⟩ := hl.cell hlt
      have h1 : wr.cell? ⟨b, off + j, none⟩ = some (.int .i64 (nthZ l j)) := hc j hlt
      clear hc
      cases hp : (x == nthZ l j)
      · have F := Lib.hid (noneTo_succ H.out (by rw [← eqZ_def]; exact hp))
        go_wp2_with fail
        go_roundw
        case rel => exact ⟨j + 1, by omega, by go_num, F.out, trivial⟩
        case measure => simp [intOf]; omega
      · have F := Lib.hid (idxZ_at H.out hlt (by rw [← eqZ_def]; exact hp))
        go_wp2_with fail
        go_ret
        exact ⟨ret_int F.out.symm, Below.refl _ _⟩
    · have F := Lib.hid (idxZ_none H.out hlt)
      go_wp2_with fail
      go_ret
      exact ⟨ret_int F.out.symm, Below.refl _ _⟩
/-- a row of a table -/
def rowZ (m : Nat) (ln : List Nat) (i : Nat) : List Int := (List.range m).map fun k => ((tm m ln i k : Nat) : Int)
theorem rowZ_len (m : Nat) (ln : List Nat) (i : Nat) : (rowZ m ln i).length = m := by simp [rowZ]
theorem rowZ_at {m : Nat} {ln : List Nat} {i k : Nat} (h : k < m) : nthZ (rowZ m ln i) k = ((tm m ln i k : Nat) : Int) := by
  rw [nthZ_lt (by rw [rowZ_len]; exact h)]; simp [rowZ]
theorem row_in {m : Nat} {ln : List Nat} {i : Nat} (hT : Tb m ln) (hi : i < m) {w : World} {b off : Nat} (hc : ∀ i k, i < m → k < m → w.cell? ⟨b, off + (i * m + k), none⟩ = some (.int .i64 (tm m ln i k : Nat))) : IntsIn w (some ⟨b, off + i * m, none⟩) (rowZ m ln i) := by
  right
  refine ⟨b, off + i * m, rfl, fun k hk => ?_⟩
  have hk' : k < m := by simpa [rowZ] using hk
  have := hc i k hi hk'
  rw [← Nat.add_assoc] at this
  rw [this]
  simp [rowZ]
theorem idx_inv {m : Nat} {ln : List Nat} (h : Grp m ln) {i : Nat} (hi : i < m) : idxZ (eqZ 0) (rowZ m ln i) = invF m ln i := by
  obtain ⟨k, hk, e1, e2, e3⟩ := h.inv hi
  rw [e3]
  refine idxZ_at (j := k) (fun z hz => ?_) (by rw [rowZ_len]; exact hk) ?_
  · rw [rowZ_at (by omega)]
    cases hb : eqZ 0 ((tm m ln i z : Nat) : Int)
    · rfl
    · have e : tm m ln i z = 0 := by simp [eqZ] at hb; omega
      have := (h.right_inv hi (by omega) e).2
      rw [e3] at this
      omega
  · rw [rowZ_at hk, e1]; rfl
end Go.Proofs.YtdhaebbfiaddnaaGreatDoor
namespace Go.Proofs.YtdhaebbfiaddnaaGreatDoor
open Go.RowKit
set_option linter.unusedVariables false
/-- how often a number is in a list -/
def cntZ (l : List Int) (x : Int) : Nat := (l.filter fun y => decide (y = x)).length
def cntZTo (l : List Int) (x : Int) (j : Nat) : Nat := cntZ (l.take j) x
theorem cntZTo_le (l : List Int) (x : Int) (j : Nat) : cntZTo l x j ≤ l.length := Nat.le_trans (List.length_filter_le _ _) (by rw [List.length_take]; omega)
theorem cntZTo_succ {l : List Int} {x : Int} {j : Nat} (hj : j < l.length) : cntZTo l x (j + 1) = if nthZ l j = x then cntZTo l x j + 1 else cntZTo l x j := by
  unfold cntZTo cntZ
  rw [List.take_add_one, List.getElem?_eq_getElem hj, List.filter_append, List.length_append]
  have e : nthZ l j = l[j] := by unfold nthZ; rw [List.getD_eq_getElem?_getD, List.getElem?_eq_getElem hj]; rfl
  rw [e]
  by_cases h : l[j] = x
  · simp [h]
  · simp [h]
theorem cntZTo_all {l : List Int} {x : Int} {j : Nat} (hj : ¬ j < l.length) : cntZTo l x j = cntZ l x := by
  unfold cntZTo; rw [List.take_of_length_le (by omega)]
theorem cntZ_pos (l : List Int) (x : Int) : decide (0 < cntZ l x) = decide (x ∈ l) := by
  rw [decide_eq_decide]
  unfold cntZ
  rw [List.length_pos_iff_exists_mem]
  constructor
  · rintro ⟨y, hy⟩
    obtain ⟨h1, h2⟩ := List.mem_filter.1 hy
    rw [← of_decide_eq_true h2]; exact h1
  · intro h
    exact ⟨x, List.mem_filter.2 ⟨h, by simp⟩⟩
set_option maxHeartbeats 1000000 in
theorem lawSame_any (xs ys : List Int) (ax ay : Option Addr) (cx cy : Nat) (w : World) (hx : IntsIn w ax xs) (hy : IntsIn w ay ys) (hxl : xs.length ≤ 2 ^ 47) (hyl : ys.length ≤ 2 ^ 47) :
    Calls Tryz.prog 31 #[.slice ax xs.length cx, .slice ay ys.length cy] w fun e w' => e = .returned (.bool (decide (xs = ys))) ∧ w' = w := by
  have HX := Lib.hid hx
  have HY := Lib.hid hy
  clear hx hy
  cases hn : (((xs.length : Nat) : Int) != ((ys.length : Nat) : Int))
  rotate_left
  · have F : Hid (decide (xs = ys) = false) := Lib.hid (decide_eq_false (by rintro rfl; simp at hn))
    go_enter Tryz.func31, Tryz.ntmps31
    go_wp2_with fail
    go_ret
    exact ⟨ret_bool F.out.symm, rfl⟩
  have hxy : xs.length = ys.length := by simp at hn; omega
  have HE := Lib.hid hxy
  clear hxy
  go_enter Tryz.func31, Tryz.ntmps31
  go_wp2_with fail
  go_loop [14] (fun i => ∃ j : Nat, j ≤ xs.length ∧ i = .int .i64 (j : Nat) ∧ Hid (xs.take j = ys.take j)) (fun i => xs.length - (intOf i).toNat)
  case atStart => exact ⟨0, Nat.zero_le _, rfl, Lib.hid rfl⟩
  case round =>
    obtain ⟨j, hj, rfl, ht⟩ := hrel
    by_cases hlt : j < xs.length
    · have hlt2 : j < ys.length := by rw [← HE.out]; exact hlt
      obtain ⟨b, off, rfl, hb, hcell⟩ := HX.out.cell hlt
      obtain ⟨b2, off2, rfl, hb2, hcell2⟩ := HY.out.cell hlt2
      have h1 := hcell j hlt
      have h2 := hcell2 j hlt2
      have e1 : Hid (nthZ xs j = xs[j] ∧ nthZ ys j = ys[j]) := Lib.hid (by unfold nthZ; rw [List.getD_eq_getElem?_getD, List.getElem?_eq_getElem hlt, List.getD_eq_getElem?_getD, List.getElem?_eq_getElem hlt2]; exact ⟨rfl, rfl⟩)
      clear hcell hcell2
      cases hq : (nthZ xs j != nthZ ys j)
      · have F : Hid (xs.take (j + 1) = ys.take (j + 1)) := Lib.hid (by
          rw [List.take_add_one, List.take_add_one, ht.out, List.getElem?_eq_getElem hlt, List.getElem?_eq_getElem hlt2, ← e1.out.1, ← e1.out.2]
          have : nthZ xs j = nthZ ys j := by simpa using hq
          rw [this])
        go_wp2_with fail
        go_round
        case rel => exact ⟨j + 1, by omega, by go_num, F⟩
        case measure => simp [intOf]; omega
      · have F : Hid (decide (xs = ys) = false) := Lib.hid (decide_eq_false (by rintro rfl; simp at hq))
        go_wp2_with fail
        go_ret
        exact ⟨ret_bool F.out.symm, rfl⟩
    · have F : Hid (decide (xs = ys) = true) := Lib.hid (decide_eq_true (by
        have := ht.out
        rw [List.take_of_length_le (by omega), List.take_of_length_le (by rw [← HE.out]; omega)] at this
        exact this))
      go_wp2_with fail
      go_ret
      exact ⟨ret_bool F.out.symm, rfl⟩
end Go.Proofs.YtdhaebbfiaddnaaGreatDoor
namespace Go.Proofs.YtdhaebbfiaddnaaGreatDoor
open Go.RowKit
set_option linter.unusedVariables false
set_option linter.unusedSectionVars false
theorem nodup_leN : ∀ {l l' : List Nat}, l.Nodup → (∀ x ∈ l, x ∈ l') → l.length ≤ l'.length
  | [], _, _, _ => Nat.zero_le _
  | a :: l, l', h, hs => by
    rw [List.nodup_cons] at h
    have h1 : a ∈ l' := hs a List.mem_cons_self
    have h2 := nodup_leN (l := l) (l' := l'.erase a) h.2 (fun x hx => by
      have hne : x ≠ a := by rintro rfl; exact h.1 hx
      exact (List.mem_erase_of_ne hne).2 (hs x (List.mem_cons_of_mem _ hx)))
    have h3 := List.length_erase_of_mem h1
    have h4 := List.length_pos_of_mem h1
    simp only [List.length_cons]
    omega
theorem listTo_inj_le {f g : Nat → Bool} {m k : Nat} (φ : Nat → Nat) (h1 : ∀ x, x < m → f x = true → φ x < k ∧ g (φ x) = true) (h2 : ∀ x y, x < m → y < m → f x = true → f y = true → φ x = φ y → x = y) : (listTo f m).length ≤ (listTo g k).length := by
  unfold listTo
  rw [List.length_map, List.length_map]
  have e : ((List.range m).filter f).length = (((List.range m).filter f).map φ).length := by rw [List.length_map]
  rw [e]
  refine nodup_leN ?_ ?_
  · refine List.pairwise_map.2 ?_
    have hn : ((List.range m).filter f).Nodup := List.Pairwise.filter _ List.nodup_range
    refine List.Pairwise.imp_of_mem (fun {a b} ha hb hab he => hab ?_) hn
    have ha' := List.mem_filter.1 ha
    have hb' := List.mem_filter.1 hb
    exact h2 a b (List.mem_range.1 ha'.1) (List.mem_range.1 hb'.1) ha'.2 hb'.2 he
  · intro y hy
    obtain ⟨x, hx, rfl⟩ := List.mem_map.1 hy
    have hx' := List.mem_filter.1 hx
    have := h1 x (List.mem_range.1 hx'.1) hx'.2
    exact List.mem_filter.2 ⟨List.mem_range.2 this.1, this.2⟩
theorem listTo_true (m : Nat) : (listTo (fun _ => true) m).length = m := by
  unfold listTo
  rw [List.length_map, List.filter_eq_self.2 (fun _ _ => rfl), List.length_range]
/-- how many below m have the value y -/
def fibN (φ : Nat → Nat) (m y : Nat) : Nat := (listTo (fun x => decide (φ x = y)) m).length
theorem fib_succ (φ : Nat → Nat) (m y : Nat) : fibN φ (m + 1) y = fibN φ m y + if φ m = y then 1 else 0 := by
  unfold fibN
  by_cases h : φ m = y
  · rw [listTo_yes (by simpa using h), if_pos h]; simp
  · rw [listTo_no (by simpa using h), if_neg h]; rfl
theorem sum_one {v : Nat} : ∀ {q : Nat}, ((List.range q).map fun y => if v = y then 1 else 0).sum = if v < q then 1 else 0
  | 0 => by simp
  | q + 1 => by
    rw [List.range_succ, List.map_append, List.sum_append, sum_one (q := q)]
    simp only [List.map_cons, List.map_nil, List.sum_cons, List.sum_nil]
    split <;> split <;> split <;> omega
theorem sum_addN (f g : Nat → Nat) : ∀ l : List Nat, (l.map fun y => f y + g y).sum = (l.map f).sum + (l.map g).sum
  | [] => rfl
  | a :: l => by
    simp only [List.map_cons, List.sum_cons, sum_addN f g l]
    omega
theorem sum_none : ∀ l : List Nat, (l.map fun _ => 0).sum = 0
  | [] => rfl
  | a :: l => by simp only [List.map_cons, List.sum_cons, sum_none l]
theorem fib_sum {φ : Nat → Nat} {q : Nat} : ∀ {m : Nat}, (∀ x, x < m → φ x < q) → ((List.range q).map (fibN φ m)).sum = m
  | 0, _ => by
    have e : fibN φ 0 = fun _ => 0 := by funext y; simp [fibN, listTo]
    rw [e, sum_none]
  | m + 1, h => by
    have e : fibN φ (m + 1) = fun y => fibN φ m y + (fun y => if φ m = y then 1 else 0) y := by funext y; exact fib_succ φ m y
    rw [e, sum_addN, fib_sum (m := m) (fun x hx => h x (by omega)), sum_one, if_pos (h m (Nat.lt_succ_self m))]
theorem sum_even {img : Nat → Bool} {s : Nat} {f : Nat → Nat} : ∀ {q : Nat}, (∀ y, y < q → img y = true → f y = s) → (∀ y, y < q → img y = false → f y = 0) → ((List.range q).map f).sum = (listTo img q).length * s
  | 0, _, _ => by simp [listTo]
  | q + 1, h1, h0 => by
    rw [List.range_succ, List.map_append, List.sum_append, sum_even (fun y hy => h1 y (by omega)) (fun y hy => h0 y (by omega))]
    simp only [List.map_cons, List.map_nil, List.sum_cons, List.sum_nil]
    cases hi : img q
    · rw [listTo_no hi, h0 q (by omega) hi]; omega
    · rw [listTo_yes hi, h1 q (by omega) hi, List.length_append, List.length_singleton, Nat.add_mul]; omega
theorem fib_even {φ : Nat → Nat} {img : Nat → Bool} {s q m : Nat} (h : ∀ x, x < m → φ x < q) (h1 : ∀ y, y < q → img y = true → fibN φ m y = s) (h0 : ∀ y, y < q → img y = false → fibN φ m y = 0) : m = (listTo img q).length * s := by
  rw [← sum_even h1 h0, fib_sum h]
theorem fib_zero {φ : Nat → Nat} {m y : Nat} (h : ∀ x, x < m → φ x ≠ y) : fibN φ m y = 0 := by
  unfold fibN listTo
  rw [List.length_map, List.length_eq_zero_iff, List.filter_eq_nil_iff]
  intro x hx
  simpa using h x (List.mem_range.1 hx)
theorem mul_mod {a b c : Nat} (h : a = b * c) : a % c = 0 ∧ a % b = 0 := by subst h; simp
/-- the classes' numbers are all met -/
theorem num_onto (p : Nat → Nat → Bool) : ∀ c n, n < (numF p c).length → ∃ i, i < c ∧ numV p (numF p i) i = ((n : Nat) : Int)
  | 0, n, h => by simp [numF] at h
  | c + 1, n, h => by
    by_cases hq : numI p (numF p c) c < 0
    · rw [numF_no hq, List.length_append, List.length_singleton] at h
      by_cases hn : n < (numF p c).length
      · obtain ⟨i, hi, e⟩ := num_onto p c n hn
        exact ⟨i, by omega, e⟩
      · refine ⟨c, by omega, ?_⟩
        rw [numV_no hq]
        congr 1
        omega
    · rw [numF_yes hq] at h
      obtain ⟨i, hi, e⟩ := num_onto p c n h
      exact ⟨i, by omega, e⟩
theorem numF_mono (p : Nat → Nat → Bool) {a b : Nat} (h : a ≤ b) : (numF p a).length ≤ (numF p b).length := (numF_pre h).length_le
theorem numV_lt (p : Nat → Nat → Bool) {c i : Nat} (h : i < c) : 0 ≤ numV p (numF p i) i ∧ numV p (numF p i) i < ((numF p c).length : Nat) := by
  have h1 := numF_mono p (show i + 1 ≤ c from h)
  have h2 := numV_le (p := p) (F := numF p i) (j := i)
  refine ⟨numV_nn _ _ _, ?_⟩
  by_cases hq : numI p (numF p i) i < 0
  · rw [numF_no hq, List.length_append, List.length_singleton] at h1
    rw [numV_no hq]
    omega
  · rw [numV_yes hq]
    have h3 : (numI p (numF p i) i) < (((numF p i).length : Nat) : Int) := by
      unfold numI at hq ⊢
      cases hf : (numF p i).findIdx? (p i) with
      | none => simp only [hf] at hq; omega
      | some k =>
        have := (List.findIdx?_eq_some_iff_findIdx_eq.1 hf).1
        simp only
        omega
    have h4 := numF_mono p (show i ≤ c by omega)
    omega
theorem numF_congr {p q : Nat → Nat → Bool} {m : Nat} (h : ∀ i k, i < m → k < m → p i k = q i k) : ∀ c, c ≤ m → numF p c = numF q c
  | 0, _ => rfl
  | c + 1, hc => by
    have ih := numF_congr h c (by omega)
    rw [numF_succ, numF_succ, ih]
    have e : (numF q c).any (p c) = (numF q c).any (q c) := by
      rw [Bool.eq_iff_iff, List.any_eq_true, List.any_eq_true]
      constructor
      · rintro ⟨x, hx, h1⟩; have := numF_lt q c x hx; exact ⟨x, hx, by rw [← h c x (by omega) (by omega)]; exact h1⟩
      · rintro ⟨x, hx, h1⟩; have := numF_lt q c x hx; exact ⟨x, hx, by rw [h c x (by omega) (by omega)]; exact h1⟩
    rw [e]
theorem findIdx_congr {α : Type} {p q : α → Bool} : ∀ {l : List α}, (∀ x ∈ l, p x = q x) → l.findIdx? p = l.findIdx? q
  | [], _ => rfl
  | a :: l, h => by
    rw [List.findIdx?_cons, List.findIdx?_cons, h a List.mem_cons_self, findIdx_congr (l := l) fun x hx => h x (List.mem_cons_of_mem _ hx)]
theorem numO_congr {p q : Nat → Nat → Bool} {m : Nat} (h : ∀ i k, i < m → k < m → p i k = q i k) : numO p m = numO q m := by
  unfold numO
  refine List.map_congr_left fun j hj => ?_
  have hj := List.mem_range.1 hj
  have hF := numF_congr h j (by omega)
  have e : numI p (numF p j) j = numI q (numF q j) j := by
    unfold numI
    rw [hF, findIdx_congr (p := p j) (q := q j) (fun x hx => h j x hj (by have := numF_lt q j x hx; omega))]
  unfold numV
  rw [e, hF]
/-- a relation below m, made an equivalence -/
def clampR (m : Nat) (p : Nat → Nat → Bool) (i k : Nat) : Bool := if i < m ∧ k < m then p i k else decide (i = k)
theorem clampR_in {m : Nat} {p : Nat → Nat → Bool} {i k : Nat} (hi : i < m) (hk : k < m) : clampR m p i k = p i k := if_pos ⟨hi, hk⟩
theorem clampR_eqv {m : Nat} {p : Nat → Nat → Bool} (hr : ∀ i, i < m → p i i = true) (hs : ∀ i k, i < m → k < m → p i k = true → p k i = true) (ht : ∀ i j k, i < m → j < m → k < m → p i j = true → p j k = true → p i k = true) : EqvB (clampR m p) := by
  refine ⟨fun i => ?_, fun i k h => ?_⟩
  · unfold clampR
    split
    · rename_i h; exact hr i h.1
    · simp
  · by_cases hi : i < m
    · by_cases hk : k < m
      · rw [clampR_in hi hk] at h
        funext j
        by_cases hj : j < m
        · rw [clampR_in hi hj, clampR_in hk hj, Bool.eq_iff_iff]
          exact ⟨fun h1 => ht k i j hk hi hj (hs i k hi hk h) h1, fun h1 => ht i k j hi hk hj h h1⟩
        · unfold clampR
          rw [if_neg (fun h => hj h.2), if_neg (fun h => hj h.2), Bool.eq_iff_iff]
          simp only [decide_eq_true_eq]
          omega
      · unfold clampR at h
        rw [if_neg (fun h => hk h.2)] at h
        have := of_decide_eq_true h
        omega
    · unfold clampR at h
      rw [if_neg (fun h => hi h.1)] at h
      have := of_decide_eq_true h
      rw [this]
/-- classes of one size -/
theorem num_even {p : Nat → Nat → Bool} {m s : Nat} (hr : ∀ i, i < m → p i i = true) (hs : ∀ i k, i < m → k < m → p i k = true → p k i = true) (ht : ∀ i j k, i < m → j < m → k < m → p i j = true → p j k = true → p i k = true)
    (hsz : ∀ i, i < m → (listTo (fun x => p x i) m).length = s) :
    m = (numF p m).length * s ∧ ∀ n : Nat, n < (numF p m).length → cntZ (numO p m) (n : Nat) = s := by
  have he := clampR_eqv hr hs ht
  have hc : ∀ i k, i < m → k < m → p i k = clampR m p i k := fun i k hi hk => (clampR_in hi hk).symm
  have e1 := numO_congr hc
  have e2 := numF_congr hc m (Nat.le_refl _)
  rw [e1, e2]
  have hval : ∀ x, x < m → ∃ v : Nat, nthZ (numO (clampR m p) m) x = (v : Int) ∧ v < (numF (clampR m p) m).length := fun x hx => by
    have := numV_lt (clampR m p) hx
    rw [numO_nth hx]
    exact ⟨(numV (clampR m p) (numF (clampR m p) x) x).toNat, by omega, by omega⟩
  have hfib : ∀ y, y < (numF (clampR m p) m).length → fibN (fun x => (nthZ (numO (clampR m p) m) x).toNat) m y = s := by
    intro y hy
    obtain ⟨i, hi, e⟩ := num_onto (clampR m p) m y hy
    rw [← hsz i hi]
    unfold fibN
    congr 1
    refine listTo_congr fun x hx => ?_
    rw [hc x i hx hi, Bool.eq_iff_iff, decide_eq_true_eq, ← num_same he hx hi, numO_nth hi, e]
    obtain ⟨v, hv, _⟩ := hval x hx
    show ((nthZ (numO (clampR m p) m) x).toNat = y) ↔ _
    rw [hv]
    omega
  refine ⟨?_, fun n hn => ?_⟩
  · have := fib_even (φ := fun x => (nthZ (numO (clampR m p) m) x).toNat) (img := fun _ => true) (s := s) (q := (numF (clampR m p) m).length) (m := m) (fun x hx => by
      obtain ⟨v, hv, h2⟩ := hval x hx
      simp only [hv]; omega) (fun y hy _ => hfib y hy) (fun y hy h => by cases h)
    rw [listTo_true] at this
    exact this
  · rw [← hfib n hn]
    unfold fibN cntZ numO listTo
    rw [List.filter_map, List.length_map, List.length_map]
    congr 1
    refine List.filter_congr fun x hx => ?_
    have hx := List.mem_range.1 hx
    obtain ⟨v, hv, _⟩ := hval x hx
    have h2 := numO_nth (p := clampR m p) hx
    rw [hv] at h2
    have h4 : decide (numV (clampR m p) (numF (clampR m p) x) x = (n : Int)) = decide ((nthZ (numO (clampR m p) m) x).toNat = n) := by
      rw [hv, ← h2, Bool.eq_iff_iff, decide_eq_true_eq, decide_eq_true_eq]
      omega
    exact h4
end Go.Proofs.YtdhaebbfiaddnaaGreatDoor
