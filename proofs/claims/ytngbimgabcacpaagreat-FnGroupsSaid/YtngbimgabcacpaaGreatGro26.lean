/-
  The laws' own functions over rows of numbers: count, has, same; and ProductOf at a valid table.
-/
import Derived.Test.YtngbimgabcacpaaGreatGro25
import Derived.Test.YtngbimgabcacpaaGreatGro22
import Derived.Test.YtngbimgabcacpaaGreatGro23
import Derived.Test.YtngbimgabcacpaaGreatGro24
import Derived.Test.YtngbimgabcacpaaGreatGro21
namespace Go.Proofs.YtngbimgabcacpaaGreat
open Go.RowKit
set_option linter.unusedVariables false
set_option linter.unusedSectionVars false

/-! numbers of classes -/
/-- an equivalence, as a function -/
structure EqvB (p : Nat → Nat → Bool) : Prop where
  refl : ∀ i, p i i = true
  same : ∀ i k, p i k = true → p i = p k
theorem eqv_rel (m : Nat) (ln : List Nat) (kind : Int) : EqvB (relK m ln kind) := ⟨relK_refl m ln kind, fun _ _ h => relK_fun h⟩
theorem num_full {p : Nat → Nat → Bool} (h : EqvB p) {c i : Nat} (hi : i < c) : numI p (numF p c) i = numV p (numF p i) i := numI_full (m := c) (fun i _ => h.refl i) hi
theorem num_first {p : Nat → Nat → Bool} (h : EqvB p) {c i : Nat} (hi : i < c) : ∃ f, f ∈ numF p c ∧ p i f = true := by
  have h1 : ¬ numI p (numF p c) i < 0 := by
    rw [num_full h hi]
    have := numV_nn p (numF p i) i
    omega
  rw [numI_neg] at h1
  have h2 : (numF p c).any (p i) = true := by cases hh : (numF p c).any (p i) <;> simp_all
  obtain ⟨f, hf, hp⟩ := List.any_eq_true.1 h2
  exact ⟨f, hf, hp⟩
theorem num_same {p : Nat → Nat → Bool} (h : EqvB p) {c i k : Nat} (hi : i < c) (hk : k < c) : nthZ (numO p c) i = nthZ (numO p c) k ↔ p i k = true := by
  rw [numO_nth hi, numO_nth hk, ← num_full h hi, ← num_full h hk]
  constructor
  · intro he
    have h1 : 0 ≤ numI p (numF p c) i := by rw [num_full h hi]; exact numV_nn _ _ _
    unfold numI at he h1
    cases h2 : (numF p c).findIdx? (p i)
    · rw [h2] at h1; simp at h1
    · rename_i a
      rw [h2] at he
      cases h3 : (numF p c).findIdx? (p k)
      · rw [h3] at he; simp at he
      · rename_i b
        rw [h3] at he
        obtain rfl : a = b := by simp at he; omega
        obtain ⟨ha, hpa, _⟩ := List.findIdx?_eq_some_iff_getElem.1 h2
        obtain ⟨_, hpb, _⟩ := List.findIdx?_eq_some_iff_getElem.1 h3
        rw [h.same _ _ hpa, ← h.same _ _ hpb]
        exact h.refl k
  · intro he
    unfold numI
    rw [h.same i k he]
theorem num_new {p : Nat → Nat → Bool} (h : EqvB p) (c : Nat) : (numF p c).any (p c) = false ↔ ∀ j, j < c → p c j = false := by
  constructor
  · intro ha j hj
    rw [Bool.eq_false_iff]
    intro hp
    obtain ⟨f, hf, h1⟩ := num_first h hj
    rw [List.any_eq_false] at ha
    refine ha f hf ?_
    rw [h.same c j hp]; exact h1
  · intro ha
    rw [List.any_eq_false]
    intro f hf
    rw [ha f (numF_lt p c f hf)]
    exact Bool.false_ne_true
theorem num_finer {p q : Nat → Nat → Bool} (hp : EqvB p) (hq : EqvB q) (h : ∀ i k, p i k = true → q i k = true) : ∀ c, (numF q c).length ≤ (numF p c).length
  | 0 => Nat.le_refl _
  | c + 1 => by
    have ih := num_finer hp hq h c
    rw [numF_succ, numF_succ]
    cases h1 : (numF q c).any (q c)
    · have h2 : (numF p c).any (p c) = false := (num_new hp c).2 fun j hj => by
        rw [Bool.eq_false_iff]
        intro h3
        have := (num_new hq c).1 h1 j hj
        rw [h c j h3] at this
        cases this
      rw [h2]
      simp
      exact ih
    · cases h2 : (numF p c).any (p c)
      · simp; omega
      · simp; exact ih
theorem num_count (p : Nat → Nat → Bool) : ∀ c, cntF (numO p c) = ((numF p c).length : Int)
  | 0 => rfl
  | c + 1 => by
    rw [numO_succ, cntF_step, num_count p c, numF_count]
    have h1 := numV_le (p := p) (F := numF p c) (j := c)
    split
    · rename_i h2; rw [h2]; omega
    · rename_i h2; omega
theorem cnt_one {l : List Int} (h : l.length ≠ 0) (hn : ∀ x ∈ l, 0 ≤ x) : 1 ≤ cntF l := by
  cases l with
  | nil => exact absurd rfl h
  | cons x l =>
    have a := (cntF_ge (x :: l) 0).2 x List.mem_cons_self
    have b := hn x List.mem_cons_self
    unfold cntF
    omega

/-! ideals -/
section
variable {m : Nat} {ln : List Nat}
theorem idB_iff {i x c : Nat} : idB m ln i c x = true ↔ ∃ y, y < c ∧ ∃ z, z < m ∧ tm m ln (tm m ln y i) z = x := by
  unfold idB idI
  simp
theorem mem1 {i x : Nat} : ((x : Nat) : Int) ∈ idLs m ln 1 i ↔ x < m ∧ idR m ln i m x = true := by unfold idLs; rw [listTo_at, inId_1]
theorem mem2 {i x : Nat} : ((x : Nat) : Int) ∈ idLs m ln 2 i ↔ x < m ∧ idL m ln i m x = true := by unfold idLs; rw [listTo_at, inId_2]
theorem mem3 {i x : Nat} : ((x : Nat) : Int) ∈ idLs m ln 3 i ↔ x < m ∧ idB m ln i m x = true := by unfold idLs; rw [listTo_at, inId_3 (by decide) (by decide)]
variable (h : TabOk m ln)
include h
theorem self1 {i : Nat} (hi : i < m) : ((i : Nat) : Int) ∈ idLs m ln 1 i := mem1.2 ⟨hi, idR_iff.2 ⟨0, h.lo, h.right i hi⟩⟩
theorem self2 {i : Nat} (hi : i < m) : ((i : Nat) : Int) ∈ idLs m ln 2 i := mem2.2 ⟨hi, idL_iff.2 ⟨0, h.lo, h.left i hi⟩⟩
theorem self3 {i : Nat} (hi : i < m) : ((i : Nat) : Int) ∈ idLs m ln 3 i := mem3.2 ⟨hi, idB_iff.2 ⟨0, h.lo, 0, h.lo, by rw [h.left i hi, h.right i hi]⟩⟩
theorem sub13 {i x : Nat} (hi : i < m) (hx : ((x : Nat) : Int) ∈ idLs m ln 1 i) : ((x : Nat) : Int) ∈ idLs m ln 3 i := by
  obtain ⟨h1, h2⟩ := mem1.1 hx
  obtain ⟨y, hy, e⟩ := idR_iff.1 h2
  exact mem3.2 ⟨h1, idB_iff.2 ⟨0, h.lo, y, hy, by rw [h.left i hi]; exact e⟩⟩
theorem sub23 {i x : Nat} (hi : i < m) (hx : ((x : Nat) : Int) ∈ idLs m ln 2 i) : ((x : Nat) : Int) ∈ idLs m ln 3 i := by
  obtain ⟨h1, h2⟩ := mem2.1 hx
  obtain ⟨y, hy, e⟩ := idL_iff.1 h2
  exact mem3.2 ⟨h1, idB_iff.2 ⟨y, hy, 0, h.lo, by rw [e, h.right x h1]⟩⟩
theorem idB_le {i k : Nat} (hi : i < m) (hk : k < m) (hr : ∃ a b, a < m ∧ b < m ∧ tm m ln (tm m ln a k) b = i) {x : Nat} (hx : idB m ln i m x = true) : idB m ln k m x = true := by
  obtain ⟨a, b, ha, hb, rfl⟩ := hr
  obtain ⟨y, hy, z, hz, rfl⟩ := idB_iff.1 hx
  have hak := h.tm_lt ha hk
  have hya := h.tm_lt hy ha
  refine idB_iff.2 ⟨tm m ln y a, hya, tm m ln b z, h.tm_lt hb hz, ?_⟩
  rw [← h.assoc y _ b hy hak hb, h.assoc _ b z (h.tm_lt hy hak) hb hz, ← h.assoc y a k hy ha hk]
theorem rel_43 {i k : Nat} (hi : i < m) (hk : k < m) (hr : relK m ln 4 i k = true) : relK m ln 3 i k = true := by
  obtain ⟨⟨⟨a, ha, h1⟩, b, hb, h2⟩, _⟩ := (rel4_iff h hi hk).1 hr
  rw [relK_not4 (by decide), decide_eq_true_eq]
  refine listTo_congr fun x hx => ?_
  rw [inId_3 (by decide) (by decide), inId_3 (by decide) (by decide), Bool.eq_iff_iff]
  exact ⟨idB_le h hi hk ⟨0, a, h.lo, ha, by rw [h.left k hk]; exact h1⟩, idB_le h hk hi ⟨0, b, h.lo, hb, by rw [h.left i hi]; exact h2⟩⟩
end
/-- the best of two ideals: the later one if it is shorter -/
def bestI (m : Nat) (ln : List Nat) (b : Nat) (i : Nat) : Nat := if (idLs m ln 3 i).length < (idLs m ln 3 b).length then i else b
/-- the element whose ideal is the least, among 0 and those below c -/
def leastTo (m : Nat) (ln : List Nat) : Nat → Nat
  | 0 => 0
  | c + 1 => bestI m ln (leastTo m ln c) c
theorem leastTo_lt {m : Nat} {ln : List Nat} (hm : 1 ≤ m) : ∀ c, c ≤ m → leastTo m ln c < m
  | 0, _ => hm
  | c + 1, hc => by
    have := leastTo_lt (ln := ln) hm c (by omega)
    unfold leastTo bestI
    split <;> omega
theorem leastTo_le {m : Nat} {ln : List Nat} : ∀ c i, i < c → (idLs m ln 3 (leastTo m ln c)).length ≤ (idLs m ln 3 i).length
  | 0, i, h => by omega
  | c + 1, i, h => by
    unfold leastTo bestI
    split
    · rename_i h1
      rcases Nat.lt_succ_iff_lt_or_eq.1 h with h2 | rfl
      · have := leastTo_le (m := m) (ln := ln) c i h2; omega
      · exact Nat.le_refl _
    · rename_i h1
      rcases Nat.lt_succ_iff_lt_or_eq.1 h with h2 | rfl
      · exact leastTo_le c i h2
      · omega
theorem listTo_full {f g : Nat → Bool} {m : Nat} (h : ∀ x, x < m → f x = true → g x = true) (hl : (listTo g m).length ≤ (listTo f m).length) : ∀ x, x < m → g x = true → f x = true := by
  intro x hx hg
  cases hf : f x
  · exfalso
    have h1 : (listTo f m).length ≤ (listTo (fun y => g y && !decide (y = x)) m).length := listTo_mono fun y hy hfy => by
      rw [h y hy hfy]
      have : y ≠ x := by rintro rfl; rw [hf] at hfy; cases hfy
      simp [this]
    have h2 : (listTo (fun y => g y && !decide (y = x)) m).length + 1 ≤ (listTo g m).length := by
      have key : ∀ n, x < n → (listTo (fun y => g y && !decide (y = x)) n).length + 1 ≤ (listTo g n).length := by
        intro n
        induction n with
        | zero => intro h; omega
        | succ n ih =>
          intro hn
          by_cases he : n = x
          · subst he
            rw [listTo_no (f := fun y => g y && !decide (y = n)) (by simp), listTo_yes hg, List.length_append]
            have : (listTo (fun y => g y && !decide (y = n)) n).length ≤ (listTo g n).length := listTo_mono fun y _ hy => by
              rw [Bool.and_eq_true] at hy; exact hy.1
            simp
            exact this
          · have h3 := ih (by omega)
            cases hgn : g n
            · rw [listTo_no (f := fun y => g y && !decide (y = x)) (by simp [hgn]), listTo_no hgn]; exact h3
            · rw [listTo_yes (f := fun y => g y && !decide (y = x)) (by simp [hgn, he]), listTo_yes hgn, List.length_append, List.length_append]
              simp
              exact h3
      exact key m hx
    omega
  · rfl
section
variable {m : Nat} {ln : List Nat} (h : TabOk m ln)
include h
/-- the least ideal lies in each -/
theorem least_in {i x : Nat} (hi : i < m) (hx : ((x : Nat) : Int) ∈ idLs m ln 3 (leastTo m ln m)) : ((x : Nat) : Int) ∈ idLs m ln 3 i := by
  have hj := leastTo_lt (ln := ln) h.lo m (Nat.le_refl _)
  have hp := h.tm_lt hi hj
  have hl := leastTo_le (m := m) (ln := ln) m _ hp
  obtain ⟨h1, h2⟩ := mem3.1 hx
  have key := listTo_full (f := inId m ln 3 (tm m ln i (leastTo m ln m))) (g := inId m ln 3 (leastTo m ln m)) (m := m) (fun y hy hf => by
    rw [inId_3 (by decide) (by decide)] at hf ⊢
    exact idB_le h hp hj ⟨i, 0, hi, h.lo, h.right _ hp⟩ hf) hl x h1 (by rw [inId_3 (by decide) (by decide)]; exact h2)
  rw [inId_3 (by decide) (by decide)] at key
  exact mem3.2 ⟨h1, idB_le h hp hi ⟨0, leastTo m ln m, h.lo, hj, by rw [h.left i hi]⟩ key⟩
end
theorem listTo_len_one {f : Nat → Bool} {m j : Nat} (hj : j < m) (hf : f j = true) : (listTo f m).length = 1 ↔ ∀ x, x < m → f x = true → x = j := by
  have e1 : (listTo (fun x => decide (x = j)) m).length = 1 := by
    have key : ∀ n, j < n → (listTo (fun x => decide (x = j)) n).length = 1 := by
      intro n
      induction n with
      | zero => intro h; omega
      | succ n ih =>
        intro hn
        by_cases he : n = j
        · subst he
          rw [listTo_yes (f := fun x => decide (x = n)) (by simp), List.length_append]
          have : listTo (fun x => decide (x = n)) n = [] := by
            refine List.eq_nil_iff_forall_not_mem.2 fun y hy => ?_
            obtain ⟨k, _, hk, h2⟩ := (listTo_mem _ _ _).1 hy
            have := of_decide_eq_true h2
            omega
          rw [this]; rfl
        · rw [listTo_no (f := fun x => decide (x = j)) (by simpa using he)]
          exact ih (by omega)
    exact key m hj
  constructor
  · intro hl x hx hfx
    have := listTo_full (f := fun x => decide (x = j)) (g := f) (m := m) (fun y _ hy => by rw [of_decide_eq_true hy]; exact hf) (by omega) x hx hfx
    exact of_decide_eq_true this
  · intro h
    rw [show listTo f m = listTo (fun x => decide (x = j)) m from listTo_congr fun x hx => by
      rw [Bool.eq_iff_iff, decide_eq_true_eq]
      exact ⟨h x hx, fun e => by rw [e]; exact hf⟩]
    exact e1
theorem zero_iff {m : Nat} {l : List Int} (h : TabG m l) : (0 ≤ zeroF (m : Nat) l) ↔ ∃ z, z < m ∧ zeroB m (l.map Int.toNat) z = true := by
  unfold zeroF
  rw [thoseL_yes h.tab, Int.toNat_natCast]
  unfold firstZ
  cases hl : listTo (zeroB m (l.map Int.toNat)) m with
  | nil =>
    constructor
    · intro h1; exact absurd h1 (by decide)
    · rintro ⟨z, hz, h1⟩
      have : ((z : Nat) : Int) ∈ listTo (zeroB m (l.map Int.toNat)) m := listTo_at.2 ⟨hz, h1⟩
      rw [hl] at this; cases this
  | cons x t =>
    have h1 : x ∈ listTo (zeroB m (l.map Int.toNat)) m := by rw [hl]; exact List.mem_cons_self
    obtain ⟨j, rfl, hj, h2⟩ := (listTo_mem _ _ _).1 h1
    exact ⟨fun _ => ⟨j, hj, h2⟩, fun _ => Int.natCast_nonneg j⟩
section
variable {m : Nat} {ln : List Nat} (h : TabOk m ln)
include h
theorem zeroB_iff {z : Nat} : zeroB m ln z = true ↔ ∀ i, i < m → tm m ln z i = z ∧ tm m ln i z = z := by
  unfold zeroB
  rw [all_range]
  constructor
  · intro h1 i hi
    have := h1 i hi
    unfold zerB at this
    simpa using this
  · intro h1 i hi
    unfold zerB
    simpa using h1 i hi
theorem zero_least : (∃ z, z < m ∧ zeroB m ln z = true) ↔ (idLs m ln 3 (leastTo m ln m)).length = 1 := by
  have hj := leastTo_lt (ln := ln) h.lo m (Nat.le_refl _)
  have hself := (mem3.1 (self3 h hj)).2
  have e1 : (idLs m ln 3 (leastTo m ln m)).length = 1 ↔ ∀ x, x < m → inId m ln 3 (leastTo m ln m) x = true → x = leastTo m ln m := listTo_len_one hj (by rw [inId_3 (by decide) (by decide)]; exact hself)
  constructor
  · rintro ⟨z, hz, h1⟩
    have h2 := (zeroB_iff h).1 h1
    have h3 : (idLs m ln 3 z).length = 1 := (listTo_len_one hz (by rw [inId_3 (by decide) (by decide)]; exact (mem3.1 (self3 h hz)).2)).2 fun x hx hf => by
      rw [inId_3 (by decide) (by decide)] at hf
      obtain ⟨y, hy, w, hw, e⟩ := idB_iff.1 hf
      rw [(h2 y hy).2, (h2 w hw).1] at e
      exact e.symm
    have h4 := leastTo_le (m := m) (ln := ln) m z hz
    have h5 : (idLs m ln 3 (leastTo m ln m)).length ≠ 0 := fun h0 => by
      have := self3 h hj
      rw [List.eq_nil_of_length_eq_zero h0] at this
      cases this
    omega
  · intro hl
    have h1 := e1.1 hl
    refine ⟨_, hj, (zeroB_iff h).2 fun i hi => ⟨?_, ?_⟩⟩
    · refine h1 _ (h.tm_lt hj hi) ?_
      rw [inId_3 (by decide) (by decide)]
      exact idB_iff.2 ⟨0, h.lo, i, hi, by rw [h.left _ hj]⟩
    · refine h1 _ (h.tm_lt hi hj) ?_
      rw [inId_3 (by decide) (by decide)]
      exact idB_iff.2 ⟨i, hi, 0, h.lo, h.right _ (h.tm_lt hi hj)⟩
end
end Go.Proofs.YtngbimgabcacpaaGreat
namespace Go.Proofs.YtngbimgabcacpaaGreat
open Go.RowKit
set_option linter.unusedVariables false
/-- more pigeons than holes -/
theorem php : ∀ (m : Nat) (f : Nat → Nat), (∀ i, i ≤ m → f i < m) → ∃ i j, i < j ∧ j ≤ m ∧ f i = f j
  | 0, f, h => absurd (h 0 (Nat.le_refl _)) (Nat.not_lt_zero _)
  | m + 1, f, h => by
    by_cases he : ∃ i, i ≤ m ∧ f i = f (m + 1)
    · obtain ⟨i, hi, e⟩ := he
      exact ⟨i, m + 1, by omega, Nat.le_refl _, e⟩
    · have hne : ∀ i, i ≤ m → f i ≠ f (m + 1) := fun i hi e => he ⟨i, hi, e⟩
      obtain ⟨i, j, hij, hj, e⟩ := php m (fun i => if f i = m then f (m + 1) else f i) (fun i hi => by
        have h1 := h i (by omega)
        have h2 := h (m + 1) (Nat.le_refl _)
        have h3 := hne i hi
        by_cases e : f i = m
        · simp only [e, if_true]; omega
        · simp only [e, if_false]; omega)
      have h1 := hne i (by omega)
      have h2 := hne j hj
      refine ⟨i, j, hij, by omega, ?_⟩
      by_cases e1 : f i = m <;> by_cases e2 : f j = m <;> simp [e1, e2] at e <;> omega
/-- the powers of an element -/
def pw (m : Nat) (ln : List Nat) (i : Nat) : Nat → Nat
  | 0 => 0
  | n + 1 => tm m ln (pw m ln i n) i
theorem pw_zero (m : Nat) (ln : List Nat) (i : Nat) : pw m ln i 0 = 0 := rfl
theorem pw_succ (m : Nat) (ln : List Nat) (i n : Nat) : pw m ln i (n + 1) = tm m ln (pw m ln i n) i := rfl
theorem Tb.pw_lt {m : Nat} {ln : List Nat} (h : Tb m ln) {i : Nat} (hi : i < m) : ∀ n, pw m ln i n < m
  | 0 => h.lo
  | n + 1 => h.tm_lt (h.pw_lt hi n) hi
theorem TabOk.pw_add {m : Nat} {ln : List Nat} (h : TabOk m ln) {i : Nat} (hi : i < m) (a : Nat) : ∀ b, pw m ln i (a + b) = tm m ln (pw m ln i a) (pw m ln i b)
  | 0 => by rw [Nat.add_zero, pw_zero, h.right _ (h.pw_lt hi a)]
  | b + 1 => by
    rw [← Nat.add_assoc, pw_succ, h.pw_add hi a b, pw_succ, h.assoc _ _ _ (h.pw_lt hi a) (h.pw_lt hi b) hi]
/-- the power n was there before -/
def repB (m : Nat) (ln : List Nat) (i n : Nat) : Bool := (List.range n).any fun k => decide (pw m ln i k = pw m ln i n)
theorem repB_iff {m : Nat} {ln : List Nat} {i n : Nat} : repB m ln i n = true ↔ ∃ k, k < n ∧ pw m ln i k = pw m ln i n := by simp [repB]
theorem Tb.rep {m : Nat} {ln : List Nat} (h : Tb m ln) {i : Nat} (hi : i < m) : ∃ n, n ≤ m ∧ repB m ln i n = true := by
  obtain ⟨k, n, hk, hn, e⟩ := php m (pw m ln i) (fun n _ => h.pw_lt hi n)
  exact ⟨n, hn, repB_iff.2 ⟨k, hk, e⟩⟩
/-- the first number that has a property, of those up to m -/
def firstN (p : Nat → Bool) (m : Nat) : Nat := ((List.range (m + 1)).find? p).getD 0
theorem firstN_spec {p : Nat → Bool} {m n : Nat} (hn : n ≤ m) (hp : p n = true) : p (firstN p m) = true ∧ firstN p m ≤ n ∧ ∀ z, z < firstN p m → p z = false := by
  unfold firstN
  cases h : (List.range (m + 1)).find? p
  · rw [List.find?_eq_none] at h
    have := h n (by simp; omega)
    simp [hp] at this
  · rename_i k
    rw [List.find?_eq_some_iff_getElem] at h
    obtain ⟨h1, j, hj, h2, h3⟩ := h
    simp only [List.getElem_range] at h2 h3
    subst h2
    simp only [Option.getD_some]
    refine ⟨h1, ?_, fun z hz => by simpa using h3 z hz⟩
    rcases Nat.lt_or_ge n j with hlt | hge
    · have := h3 n hlt
      simp [hp] at this
    · exact hge
def repN (m : Nat) (ln : List Nat) (i : Nat) : Nat := firstN (repB m ln i) m
def repK (m : Nat) (ln : List Nat) (i : Nat) : Nat := firstN (fun k => decide (pw m ln i k = pw m ln i (repN m ln i))) m
theorem Tb.repN_le {m : Nat} {ln : List Nat} (h : Tb m ln) {i : Nat} (hi : i < m) : repN m ln i ≤ m := by
  obtain ⟨n, hn, hp⟩ := h.rep hi
  exact Nat.le_trans (firstN_spec hn hp).2.1 hn
theorem Tb.repN_rep {m : Nat} {ln : List Nat} (h : Tb m ln) {i : Nat} (hi : i < m) : repB m ln i (repN m ln i) = true := by
  obtain ⟨n, hn, hp⟩ := h.rep hi
  exact (firstN_spec hn hp).1
theorem Tb.repN_min {m : Nat} {ln : List Nat} (h : Tb m ln) {i : Nat} (hi : i < m) {z : Nat} (hz : z < repN m ln i) : repB m ln i z = false := by
  obtain ⟨n, hn, hp⟩ := h.rep hi
  exact (firstN_spec hn hp).2.2 z hz
theorem Tb.repK_spec {m : Nat} {ln : List Nat} (h : Tb m ln) {i : Nat} (hi : i < m) : repK m ln i < repN m ln i ∧ pw m ln i (repK m ln i) = pw m ln i (repN m ln i) ∧ ∀ z, z < repK m ln i → pw m ln i z ≠ pw m ln i (repN m ln i) := by
  obtain ⟨k, hk, e⟩ := repB_iff.1 (h.repN_rep hi)
  have h1 := firstN_spec (p := fun k => decide (pw m ln i k = pw m ln i (repN m ln i))) (m := m) (n := k) (by have := h.repN_le hi; omega) (by simpa using e)
  refine ⟨?_, by simpa [repK] using h1.1, fun z hz => by simpa using h1.2.2 z hz⟩
  have : repK m ln i ≤ k := h1.2.1
  omega
/-- a group -/
structure Grp (m : Nat) (ln : List Nat) : Prop extends TabOk m ln where
  unit : ∀ i, i < m → isUnit m ln i = true
theorem Grp.inv {m : Nat} {ln : List Nat} (h : Grp m ln) {i : Nat} (hi : i < m) : ∃ k, k < m ∧ tm m ln i k = 0 ∧ tm m ln k i = 0 ∧ invF m ln i = (k : Nat) := by
  have h1 := h.unit i hi
  rw [← invF_unit] at h1
  rcases invF_lt (m := m) (ln := ln) (i := i) with h2 | ⟨k, h2, h3, h4⟩
  · rw [h2] at h1; simp at h1
  · simp [invB] at h4
    exact ⟨k, h3, h4.1, h4.2, h2⟩
theorem Grp.right_inv {m : Nat} {ln : List Nat} (h : Grp m ln) {i k : Nat} (hi : i < m) (hk : k < m) (e : tm m ln i k = 0) : tm m ln k i = 0 ∧ invF m ln i = (k : Nat) := by
  obtain ⟨k', hk', e1, e2, e3⟩ := h.inv hi
  have : k = k' := by
    have h1 := h.assoc k' i k hk' hi hk
    rw [e2, e, h.left k hk, h.right k' hk'] at h1
    exact h1
  subst this
  exact ⟨e2, e3⟩
theorem Grp.cancel {m : Nat} {ln : List Nat} (h : Grp m ln) {x a b : Nat} (hx : x < m) (ha : a < m) (hb : b < m) (e : tm m ln x a = tm m ln x b) : a = b := by
  obtain ⟨k, hk, _, e2, _⟩ := h.inv hx
  have h1 := h.assoc k x a hk hx ha
  have h2 := h.assoc k x b hk hx hb
  rw [e2, h.left a ha] at h1
  rw [e2, h.left b hb] at h2
  rw [h1, h2, e]
theorem Grp.repK_zero {m : Nat} {ln : List Nat} (h : Grp m ln) {i : Nat} (hi : i < m) : repK m ln i = 0 := by
  obtain ⟨h1, h2, h3⟩ := h.repK_spec hi
  have e : pw m ln i (repN m ln i) = tm m ln (pw m ln i (repK m ln i)) (pw m ln i (repN m ln i - repK m ln i)) := by
    rw [← h.pw_add hi]; congr 1; omega
  have h4 : pw m ln i (repN m ln i - repK m ln i) = 0 := by
    refine h.cancel (h.pw_lt hi (repK m ln i)) (h.pw_lt hi _) h.lo ?_
    rw [← e, ← h2, h.right _ (h.pw_lt hi _)]
  rcases Nat.eq_zero_or_pos (repK m ln i) with h5 | h5
  · exact h5
  · have h6 := h.repN_min hi (z := repN m ln i - repK m ln i) (by omega)
    have h7 : repB m ln i (repN m ln i - repK m ln i) = true := repB_iff.2 ⟨0, by omega, by rw [h4]; rfl⟩
    rw [h7] at h6
    cases h6
/-- the order of an element of a group: the first power that is the identity -/
theorem Grp.order {m : Nat} {ln : List Nat} (h : Grp m ln) {i : Nat} (hi : i < m) : 1 ≤ repN m ln i ∧ pw m ln i (repN m ln i) = 0 ∧ ∀ n, 1 ≤ n → n < repN m ln i → pw m ln i n ≠ 0 := by
  have h0 := h.repK_zero hi
  obtain ⟨h1, h2, _⟩ := h.repK_spec hi
  rw [h0] at h1 h2
  refine ⟨by omega, h2.symm, fun n hn hlt e => ?_⟩
  have h6 := h.repN_min hi (z := n) hlt
  have h7 : repB m ln i n = true := repB_iff.2 ⟨0, by omega, by rw [e]; rfl⟩
  rw [h7] at h6
  cases h6
theorem groupB_tab {n : Int} {l : List Int} (h : groupB n l = true) : tabB n l = true := by
  simp only [groupB, Bool.and_eq_true] at h
  exact h.1
theorem groupB_out {n : Int} {l : List Int} (h : groupB n l = true) : ∃ m ln, n = (m : Nat) ∧ l = ln.map Int.ofNat ∧ Grp m ln := by
  have ht := groupB_tab h
  obtain ⟨m, ln, rfl, rfl, hT⟩ := tabOk_out ht
  refine ⟨m, ln, rfl, rfl, hT, ?_⟩
  simp only [groupB, Bool.and_eq_true, decide_eq_true_eq] at h
  have h2 := h.2
  unfold unitsOfF at h2
  rw [thoseL_yes ht, map_toNat] at h2
  simp only [Int.toNat_natCast, listTo, List.length_map] at h2
  have h3 : ((List.range m).filter (isUnit m ln)).length = (List.range m).length := by simp; omega
  have h4 := List.length_filter_eq_length_iff.1 h3
  exact fun i hi => h4 i (List.mem_range.2 hi)
end Go.Proofs.YtngbimgabcacpaaGreat
namespace Go.Proofs.YtngbimgabcacpaaGreat
open Go.RowKit
set_option linter.unusedVariables false
set_option maxHeartbeats 400000 in
theorem has_any (m : Nat) (i : Int) (v : Value) (w : World) (hm0 : 1 ≤ m) (hm : m ≤ 40) :
    Calls Tryz.prog 35 #[.agg #[.int .i64 m, v], .int .i64 i] w fun e w' => e = .returned (.bool (inB i 0 ((m : Int) - 1))) ∧ Below w.heap.size w w' := by
  go_enter Tryz.func35, Tryz.ntmps35
  go_wp2_with fail
  refine (within_any _ _ _ _).mono ?_
  rintro e w2 ⟨rfl, rfl⟩
  go_wp2_with fail
  go_ret
  exact ⟨rfl, (Below.refl _ _).alloc (Nat.le_refl _) _⟩
theorem owns_capZ {w : World} {base : Nat} {T : TypeId} {size : Nat} {a : Option Addr} {n m cap : Nat} {xs : List Value} (h : w.ownsRow base T size (.slice a n cap) m xs) : n ≤ cap ∧ cap ≤ maxLen := by
  rcases h.2 with ⟨hv, h0⟩ | ⟨g, cap', cur, hv, hb, hg, hn, hc, r⟩
  · simp only [Value.slice.injEq] at hv
    obtain ⟨_, rfl, rfl⟩ := hv
    exact ⟨Nat.le_refl _, Nat.zero_le _⟩
  · simp only [Value.slice.injEq] at hv
    obtain ⟨_, rfl, rfl⟩ := hv
    exact ⟨hn, hc⟩
def eqZ (x : Int) : Int → Bool := fun y => x == y
theorem eqZ_def (x y : Int) : (x == y) = eqZ x y := rfl
set_option maxHeartbeats 400000 in
theorem indexInts_any (x : Int) (l : List Int) (a : Option Addr) (cap : Nat) (w : World) (hl : IntsIn w a l) (hlen : l.length ≤ 2 ^ 47) :
    Calls Tryz.prog 77 #[.slice a l.length cap, .int .i64 x] w fun e w' => e = .returned (.int .i64 (idxZ (eqZ x) l)) ∧ Below w.heap.size w w' := by
  go_enter Tryz.func77, Tryz.ntmps77
  go_wp2
  go_loopw [8] (fun i wr => ∃ j : Nat, j ≤ l.length ∧ i = .int .i64 j ∧ noneTo (eqZ x) l j ∧ wr = w) (fun i _ => l.length - (intOf i).toNat)
  case atStart => exact ⟨0, Nat.zero_le _, rfl, noneTo_zero _ _, rfl⟩
  case round =>
    obtain ⟨j, hj, rfl, hall, rfl⟩ := hrel
    have H := Lib.hid hall
    clear hall
    by_cases hlt : j < l.length
    · obtain ⟨b, off, rfl, hb, hc⟩ := hl.cell hlt
      have h1 : wr.cell? ⟨b, off + j, none⟩ = some (.int .i64 (nthZ l j)) := hc j hlt
      clear hc
      cases hp : (x == nthZ l j)
      · have F := Lib.hid (noneTo_succ H.out (by rw [← eqZ_def]; exact hp))
        go_wp2_with fail
        go_roundw
        case rel => exact ⟨j + 1, by omega, by go_num, F.out, trivial⟩
        case measure => simp [intOf]; omega
      · have F := Lib.hid (idxZ_at H.out hlt (by rw [← eqZ_def]; exact hp))
        go_wp2_with fail
        go_ret
        exact ⟨ret_int F.out.symm, Below.refl _ _⟩
    · have F := Lib.hid (idxZ_none H.out hlt)
      go_wp2_with fail
      go_ret
      exact ⟨ret_int F.out.symm, Below.refl _ _⟩
/-- a row of a table -/
def rowZ (m : Nat) (ln : List Nat) (i : Nat) : List Int := (List.range m).map fun k => ((tm m ln i k : Nat) : Int)
theorem rowZ_len (m : Nat) (ln : List Nat) (i : Nat) : (rowZ m ln i).length = m := by simp [rowZ]
theorem rowZ_at {m : Nat} {ln : List Nat} {i k : Nat} (h : k < m) : nthZ (rowZ m ln i) k = ((tm m ln i k : Nat) : Int) := by
  rw [nthZ_lt (by rw [rowZ_len]; exact h)]; simp [rowZ]
theorem row_in {m : Nat} {ln : List Nat} {i : Nat} (hT : Tb m ln) (hi : i < m) {w : World} {b off : Nat} (hc : ∀ i k, i < m → k < m → w.cell? ⟨b, off + (i * m + k), none⟩ = some (.int .i64 (tm m ln i k : Nat))) : IntsIn w (some ⟨b, off + i * m, none⟩) (rowZ m ln i) := by
  right
  refine ⟨b, off + i * m, rfl, fun k hk => ?_⟩
  have hk' : k < m := by simpa [rowZ] using hk
  have := hc i k hi hk'
  rw [← Nat.add_assoc] at this
  rw [this]
  simp [rowZ]
theorem idx_inv {m : Nat} {ln : List Nat} (h : Grp m ln) {i : Nat} (hi : i < m) : idxZ (eqZ 0) (rowZ m ln i) = invF m ln i := by
  obtain ⟨k, hk, e1, e2, e3⟩ := h.inv hi
  rw [e3]
  refine idxZ_at (j := k) (fun z hz => ?_) (by rw [rowZ_len]; exact hk) ?_
  · rw [rowZ_at (by omega)]
    cases hb : eqZ 0 ((tm m ln i z : Nat) : Int)
    · rfl
    · have e : tm m ln i z = 0 := by simp [eqZ] at hb; omega
      have := (h.right_inv hi (by omega) e).2
      rw [e3] at this
      omega
  · rw [rowZ_at hk, e1]; rfl
set_option maxHeartbeats 400000 in
theorem inverse_any (m : Nat) (ln : List Nat) (a : Option Addr) (len cap i : Nat) (w : World) (hl : NatsIn w a ln) (hG : Grp m ln) (hlen : len = m * m) (hcap : len ≤ cap) (hc63 : cap ≤ maxLen) (hi : i < m) :
    Calls Tryz.prog 43 #[.agg #[.int .i64 m, .slice a len cap], .int .i64 i] w fun e w' => e = .returned (.int .i64 (invF m ln i)) ∧ Below w.heap.size w w' := by
  obtain ⟨b, off, rfl, hb, hc⟩ := hG.toTb.cell hl
  have hm := hG.hi
  obtain ⟨q, hq⟩ : ∃ q, q = i * m := ⟨_, rfl⟩
  obtain ⟨q2, hq2⟩ : ∃ q2, q2 = (i + 1) * m := ⟨_, rfl⟩
  have hR : Hid (∀ W, Below w.heap.size w W → IntsIn W (some ⟨b, off + q, none⟩) (rowZ m ln i)) := fun W hW => by rw [hq]; exact (row_in hG.toTb hi hc).later hW
  have HI := Lib.hid (idx_inv hG hi)
  have h1 : q ≤ 1600 := by rw [hq]; exact mul_le hm hi
  have h2 : q2 ≤ 1640 := by rw [hq2]; exact Nat.le_trans (Nat.mul_le_mul (show i + 1 ≤ 41 by omega) hm) (by omega)
  have h3 : q2 ≤ cap := by rw [hq2]; exact Nat.le_trans (Nat.mul_le_mul_right m (show i + 1 ≤ m from hi)) (by omega)
  have h4 : q2 = q + m := by rw [hq2, hq, Nat.add_mul]; omega
  have e1 : (i : Int) * (m : Int) = (q : Int) := by rw [hq]; simp
  have e2 : ((i : Int) + 1) * (m : Int) = (q2 : Int) := by rw [hq2]; simp
  have e3 : q2 - q = m := by omega
  unfold maxLen at hc63
  clear hc hl hG hq hq2
  go_enter Tryz.func43, Tryz.ntmps43
  go_wp2_with fail
  have hI := indexInts_any 0 (rowZ m ln i) (some ⟨b, off + q, none⟩) (cap - q) (w.alloc (.cells #[.int .i64 (m : Nat), .slice (some ⟨b, off, none⟩) (m * m) cap] 25)) (hR.out _ ((Below.refl _ _).alloc (Nat.le_refl _) _)) (by rw [rowZ_len]; omega)
  rw [rowZ_len, HI.out] at hI
  refine hI.mono ?_
  rintro e w2 ⟨rfl, hb2⟩
  have hbel := Below.now ((Below.refl w.heap.size w).alloc (Nat.le_refl _) _) hb2
  clear hb2 hI
  go_wp2_with fail
  go_ret
  exact ⟨rfl, hbel⟩
set_option maxHeartbeats 400000 in
theorem power_any (m : Nat) (ln : List Nat) (a : Option Addr) (len cap i n : Nat) (w : World) (hl : NatsIn w a ln) (hT : Tb m ln) (hlen : len = m * m) (hi : i < m) (hn : n ≤ 1000) :
    Calls Tryz.prog 36 #[.agg #[.int .i64 m, .slice a len cap], .int .i64 i, .int .i64 n] w fun e w' => e = .returned (.int .i64 ((pw m ln i n : Nat) : Int)) ∧ Below w.heap.size w w' := by
  have HT := Lib.hid hT
  have HL := Lib.hid hlen
  have HN := Lib.hid hl
  have hm := hT.hi
  clear hl hT hlen
  go_enter Tryz.func36, Tryz.ntmps36
  go_wp2_with fail
  obtain ⟨w1, hw1⟩ : ∃ w1, w1 = w.alloc (.cells #[.int .i64 (m : Nat), .slice a len cap] 25) := ⟨_, rfl⟩
  have hb1 : Below w.heap.size w w1 := by rw [hw1]; exact (Below.refl _ _).alloc (Nat.le_refl _) _
  have hx0 : ∀ W, Below w1.heap.size w1 W → W.cell? ⟨w.heap.size, 0, none⟩ = some (.int .i64 (m : Nat)) := fun W hW => by rw [hW.cell (by rw [hw1]; simp), hw1]; simp
  have hx1 : ∀ W, Below w1.heap.size w1 W → W.cell? ⟨w.heap.size, 1, none⟩ = some (.slice a len cap) := fun W hW => by rw [hW.cell (by rw [hw1]; simp), hw1]; simp
  have HN1 : Hid (∀ W, Below w1.heap.size w1 W → NatsIn W a ln) := fun W hW => (HN.out.later hb1).later hW
  rw [← hw1]
  have HB := Lib.hid hb1
  have hb0 := Below.refl w1.heap.size w1
  clear hw1 hb1 HN
  go_loopw [7, 9] (fun v i' wr => ∃ k : Nat, k ≤ n ∧ i' = .int .i64 k ∧ v = .int .i64 ((pw m ln i k : Nat) : Int) ∧ Below w1.heap.size w1 wr) (fun _ i' _ => n - (intOf i').toNat)
  case atStart => exact ⟨0, Nat.zero_le _, rfl, rfl, Below.refl _ _⟩
  case round =>
    clear hb0
    obtain ⟨k, hk, rfl, rfl, hbw⟩ := hrel
    have HS := Lib.hid (pw_succ m ln i k)
    have hp := HT.out.pw_lt hi k
    by_cases hlt : k < n
    · go_wp2_with fail
      refine (implTimes_any m ln a _ _ (pw m ln i k) i _ (HN1.out _ hbw) HT.out HL.out hp hi).mono ?_
      rintro e w2 ⟨rfl, hb2⟩
      replace hbw := Below.now hbw hb2
      clear hb2
      go_wp2_with fail
      go_roundw
      case rel => exact ⟨k + 1, by omega, by go_num, by rw [HS.out], hbw⟩
      case measure => simp [intOf]; omega
    · obtain rfl : k = n := by omega
      go_wp2_with fail
      go_ret
      exact ⟨rfl, Below.now HB.out hbw⟩
end Go.Proofs.YtngbimgabcacpaaGreat
namespace Go.Proofs.YtngbimgabcacpaaGreat
open Go.RowKit
set_option linter.unusedVariables false
/-- how often a number is in a list -/
def cntZ (l : List Int) (x : Int) : Nat := (l.filter fun y => decide (y = x)).length
def cntZTo (l : List Int) (x : Int) (j : Nat) : Nat := cntZ (l.take j) x
theorem cntZTo_le (l : List Int) (x : Int) (j : Nat) : cntZTo l x j ≤ l.length := Nat.le_trans (List.length_filter_le _ _) (by rw [List.length_take]; omega)
theorem cntZTo_succ {l : List Int} {x : Int} {j : Nat} (hj : j < l.length) : cntZTo l x (j + 1) = if nthZ l j = x then cntZTo l x j + 1 else cntZTo l x j := by
  unfold cntZTo cntZ
  rw [List.take_add_one, List.getElem?_eq_getElem hj, List.filter_append, List.length_append]
  have e : nthZ l j = l[j] := by unfold nthZ; rw [List.getD_eq_getElem?_getD, List.getElem?_eq_getElem hj]; rfl
  rw [e]
  by_cases h : l[j] = x
  · simp [h]
  · simp [h]
theorem cntZTo_all {l : List Int} {x : Int} {j : Nat} (hj : ¬ j < l.length) : cntZTo l x j = cntZ l x := by
  unfold cntZTo; rw [List.take_of_length_le (by omega)]
theorem cntZ_pos (l : List Int) (x : Int) : decide (0 < cntZ l x) = decide (x ∈ l) := by
  rw [decide_eq_decide]
  unfold cntZ
  rw [List.length_pos_iff_exists_mem]
  constructor
  · rintro ⟨y, hy⟩
    obtain ⟨h1, h2⟩ := List.mem_filter.1 hy
    rw [← of_decide_eq_true h2]; exact h1
  · intro h
    exact ⟨x, List.mem_filter.2 ⟨h, by simp⟩⟩
set_option maxHeartbeats 1000000 in
theorem lawCount_any (l : List Int) (a : Option Addr) (cap : Nat) (x : Int) (w : World) (hl : IntsIn w a l) (hlen : l.length ≤ 2 ^ 47) :
    Calls Tryz.prog 15 #[.slice a l.length cap, .int .i64 x] w fun e w' => e = .returned (.int .i64 ((cntZ l x : Nat) : Int)) ∧ w' = w := by
  have HL := Lib.hid hl
  have HC0 : Hid (cntZTo l x 0 = 0) := Lib.hid (by simp [cntZTo, cntZ])
  clear hl
  go_enter Tryz.func15, Tryz.ntmps15
  go_wp2_with fail
  go_loop [5, 10] (fun k i => ∃ j c : Nat, j ≤ l.length ∧ i = .int .i64 (j : Nat) ∧ k = .int .i64 (c : Nat) ∧ Hid (c = cntZTo l x j) ∧ c ≤ j) (fun _ i => l.length - (intOf i).toNat)
  case atStart => exact ⟨0, 0, Nat.zero_le _, rfl, rfl, Lib.hid HC0.out.symm, Nat.le_refl _⟩
  case round =>
    obtain ⟨j, c, hj, rfl, rfl, hc, hcj⟩ := hrel
    by_cases hlt : j < l.length
    · obtain ⟨b, off, rfl, hb, hcell⟩ := HL.out.cell hlt
      have h1 := hcell j hlt
      have HS := Lib.hid (cntZTo_succ (x := x) hlt)
      clear hcell
      cases hq : (nthZ l j == x)
      · have F : Hid (c = cntZTo l x (j + 1)) := Lib.hid (by rw [HS.out, if_neg (by simpa using hq)]; exact hc.out)
        go_wp2_with fail
        go_round
        case rel => exact ⟨j + 1, c, by omega, by go_num, rfl, F, by omega⟩
        case measure => simp [intOf]; omega
      · have F : Hid (c + 1 = cntZTo l x (j + 1)) := Lib.hid (by rw [HS.out, if_pos (by simpa using hq)]; exact congrArg (· + 1) hc.out)
        go_wp2_with fail
        go_round
        case rel => exact ⟨j + 1, c + 1, by omega, by go_num, by go_num, F, by omega⟩
        case measure => simp [intOf]; omega
    · have F : Hid (c = cntZ l x) := Lib.hid (hc.out.trans (cntZTo_all hlt))
      go_wp2_with fail
      go_ret
      exact ⟨ret_int (by rw [F.out]), rfl⟩
set_option maxHeartbeats 400000 in
theorem lawHas_any (l : List Int) (a : Option Addr) (cap : Nat) (x : Int) (w : World) (hl : IntsIn w a l) (hlen : l.length ≤ 2 ^ 47) :
    Calls Tryz.prog 14 #[.slice a l.length cap, .int .i64 x] w fun e w' => e = .returned (.bool (decide (x ∈ l))) ∧ w' = w := by
  have HC := Lib.hid (lawCount_any l a cap x w hl hlen)
  have HP := Lib.hid (cntZ_pos l x)
  clear hl
  go_enter Tryz.func14, Tryz.ntmps14
  go_wp2_with fail
  refine HC.out.mono ?_
  rintro e w2 ⟨rfl, rfl⟩
  go_wp2_with fail
  go_ret
  exact ⟨ret_bool (by rw [← HP.out]), rfl⟩
set_option maxHeartbeats 1000000 in
theorem lawSame_any (xs ys : List Int) (ax ay : Option Addr) (cx cy : Nat) (w : World) (hx : IntsIn w ax xs) (hy : IntsIn w ay ys) (hxl : xs.length ≤ 2 ^ 47) (hyl : ys.length ≤ 2 ^ 47) :
    Calls Tryz.prog 30 #[.slice ax xs.length cx, .slice ay ys.length cy] w fun e w' => e = .returned (.bool (decide (xs = ys))) ∧ w' = w := by
  have HX := Lib.hid hx
  have HY := Lib.hid hy
  clear hx hy
  cases hn : (((xs.length : Nat) : Int) != ((ys.length : Nat) : Int))
  rotate_left
  · have F : Hid (decide (xs = ys) = false) := Lib.hid (decide_eq_false (by rintro rfl; simp at hn))
    go_enter Tryz.func30, Tryz.ntmps30
    go_wp2_with fail
    go_ret
    exact ⟨ret_bool F.out.symm, rfl⟩
  have hxy : xs.length = ys.length := by simp at hn; omega
  have HE := Lib.hid hxy
  clear hxy
  go_enter Tryz.func30, Tryz.ntmps30
  go_wp2_with fail
  go_loop [14] (fun i => ∃ j : Nat, j ≤ xs.length ∧ i = .int .i64 (j : Nat) ∧ Hid (xs.take j = ys.take j)) (fun i => xs.length - (intOf i).toNat)
  case atStart => exact ⟨0, Nat.zero_le _, rfl, Lib.hid rfl⟩
  case round =>
    obtain ⟨j, hj, rfl, ht⟩ := hrel
    by_cases hlt : j < xs.length
    · have hlt2 : j < ys.length := by rw [← HE.out]; exact hlt
      obtain ⟨b, off, rfl, hb, hcell⟩ := HX.out.cell hlt
      obtain ⟨b2, off2, rfl, hb2, hcell2⟩ := HY.out.cell hlt2
      have h1 := hcell j hlt
      have h2 := hcell2 j hlt2
      have e1 : Hid (nthZ xs j = xs[j] ∧ nthZ ys j = ys[j]) := Lib.hid (by unfold nthZ; rw [List.getD_eq_getElem?_getD, List.getElem?_eq_getElem hlt, List.getD_eq_getElem?_getD, List.getElem?_eq_getElem hlt2]; exact ⟨rfl, rfl⟩)
      clear hcell hcell2
      cases hq : (nthZ xs j != nthZ ys j)
      · have F : Hid (xs.take (j + 1) = ys.take (j + 1)) := Lib.hid (by
          rw [List.take_add_one, List.take_add_one, ht.out, List.getElem?_eq_getElem hlt, List.getElem?_eq_getElem hlt2, ← e1.out.1, ← e1.out.2]
          have : nthZ xs j = nthZ ys j := by simpa using hq
          rw [this])
        go_wp2_with fail
        go_round
        case rel => exact ⟨j + 1, by omega, by go_num, F⟩
        case measure => simp [intOf]; omega
      · have F : Hid (decide (xs = ys) = false) := Lib.hid (decide_eq_false (by rintro rfl; simp at hq))
        go_wp2_with fail
        go_ret
        exact ⟨ret_bool F.out.symm, rfl⟩
    · have F : Hid (decide (xs = ys) = true) := Lib.hid (decide_eq_true (by
        have := ht.out
        rw [List.take_of_length_le (by omega), List.take_of_length_le (by rw [← HE.out]; omega)] at this
        exact this))
      go_wp2_with fail
      go_ret
      exact ⟨ret_bool F.out.symm, rfl⟩
set_option maxHeartbeats 1000000 in
theorem implProductOf_ok (m : Nat) (l : List Int) (a : Option Addr) (cap i k : Nat) (w : World) (hl : IntsIn w a l) (hT : TabG m l) (hi : i < m) (hk : k < m) :
    Calls Tryz.prog 12 #[.agg #[.int .i64 (m : Nat), .slice a l.length cap], .int .i64 (i : Nat), .int .i64 (k : Nat)] w fun e w' => e = .returned (.tuple #[.int .i64 ((tm m (l.map Int.toNat) i k : Nat) : Int), .bool true]) ∧ Below w.heap.size w w' := by
  have hlen : l.length ≤ 1600 := by
    obtain ⟨ln, rfl, h⟩ := hT
    rw [List.length_map, h.len]; exact sq_le h.hi
  have HB1 := Lib.hid ((Below.refl w.heap.size w).alloc (Nat.le_refl _) (.cells #[.int .i64 (m : Nat), .slice a l.length cap] 25))
  have HX : Hid (∀ W, Below (w.alloc (.cells #[.int .i64 (m : Nat), .slice a l.length cap] 25)).heap.size (w.alloc (.cells #[.int .i64 (m : Nat), .slice a l.length cap] 25)) W → W.cell? ⟨w.heap.size, 0, none⟩ = some (.int .i64 (m : Nat)) ∧ W.cell? ⟨w.heap.size, 1, none⟩ = some (.slice a l.length cap)) := Lib.hid (fun W hW => ⟨by rw [hW.cell (by simp)]; simp, by rw [hW.cell (by simp)]; simp⟩)
  have HTO := Lib.hid (fun W (h : IntsIn W a l) => implTableOk_any (m : Nat) l a cap W h (by omega))
  rw [hT.tab] at HTO
  obtain ⟨hm1, hm2⟩ : 1 ≤ m ∧ m ≤ 40 := by obtain ⟨ln, _, h⟩ := hT; exact ⟨h.lo, h.hi⟩
  have hbi : inB (i : Int) 0 ((m : Int) - 1) = true := by unfold inB; simp; omega
  have hbk : inB (k : Int) 0 ((m : Int) - 1) = true := by unfold inB; simp; omega
  have HHI := Lib.hid (fun W => has_any m (i : Int) (.slice a l.length cap) W hm1 hm2)
  have HHK := Lib.hid (fun W => has_any m (k : Int) (.slice a l.length cap) W hm1 hm2)
  rw [hbi] at HHI
  rw [hbk] at HHK
  have HTM : Hid (∀ W, IntsIn W a l → Calls Tryz.prog 42 #[.agg #[.int .i64 (m : Nat), .slice a l.length cap], .int .i64 (i : Nat), .int .i64 (k : Nat)] W fun e w' => e = .returned (.int .i64 (tm m (l.map Int.toNat) i k : Nat)) ∧ Below W.heap.size W w') := Lib.hid (fun W h => by
    obtain ⟨ln, rfl, hT⟩ := hT
    rw [map_toNat]
    exact implTimes_any m ln a _ cap i k W h hT.toTb (by rw [List.length_map]; exact hT.len) hi hk)
  have HL := Lib.hid hl
  generalize tm m (l.map Int.toNat) i k = q at *
  clear hl hT hbi hbk
  go_enter Tryz.func12, Tryz.ntmps12
  go_wp2_with fail
  generalize w.alloc (.cells #[.int .i64 (m : Nat), .slice a l.length cap] 25) = w1 at *
  refine (HTO.out _ (HL.out.later HB1.out)).mono ?_
  rintro e w2 ⟨rfl, hb2⟩
  have HB2 := Lib.hid hb2
  obtain ⟨z0, z1⟩ := HX.out _ hb2
  clear hb2
  go_wp2_with fail
  refine (HHI.out _).mono ?_
  rintro e w3 ⟨rfl, hb3⟩
  have HB3 := Lib.hid (Below.now HB2.out hb3)
  clear hb3 z0 z1
  obtain ⟨z0, z1⟩ := HX.out _ HB3.out
  go_wp2_with fail
  refine (HHK.out _).mono ?_
  rintro e w4 ⟨rfl, hb4⟩
  have HB4 := Lib.hid (Below.now HB3.out hb4)
  clear hb4 z0 z1
  obtain ⟨z0, z1⟩ := HX.out _ HB4.out
  go_wp2_with fail
  refine (HTM.out _ (HL.out.later (Below.now HB1.out HB4.out))).mono ?_
  rintro e w5 ⟨rfl, hb5⟩
  have HB5 := Lib.hid (Below.now HB4.out hb5)
  clear hb5 z0 z1
  go_wp2_with fail
  go_ret2
  exact ⟨rfl, Below.now HB1.out HB5.out⟩
end Go.Proofs.YtngbimgabcacpaaGreat
