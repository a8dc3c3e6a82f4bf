/-
  Powers of an element, the first one that comes back, groups: plain data.
-/
import Derived.Test.YtdhaebbfiaddnaaGrp23
import Derived.Test.YtdhaebbfiaddnaaGrp25
import Derived.Test.YtdhaebbfiaddnaaGrp26
namespace Go.Proofs.Ytdhaebbfiaddnaa
open Go.RowKit
set_option linter.unusedVariables false
set_option linter.unusedSectionVars false
theorem listTo_congr {f g : Nat → Bool} {m : Nat} (h : ∀ x, x < m → f x = g x) : listTo f m = listTo g m := by
  unfold listTo
  congr 1
  exact List.filter_congr fun x hx => h x (List.mem_range.1 hx)
theorem listTo_inj {f g : Nat → Bool} {m : Nat} (h : listTo f m = listTo g m) {x : Nat} (hx : x < m) : f x = g x := by
  rw [Bool.eq_iff_iff]
  have key : ∀ f : Nat → Bool, f x = true ↔ ((x : Nat) : Int) ∈ listTo f m := fun f => by
    rw [listTo_mem]
    constructor
    · intro hf; exact ⟨x, rfl, hx, hf⟩
    · rintro ⟨j, e, _, hf⟩
      have : j = x := by omega
      rw [← this]; exact hf
  rw [key f, key g, h]
theorem listTo_at {f : Nat → Bool} {m x : Nat} : ((x : Nat) : Int) ∈ listTo f m ↔ x < m ∧ f x = true := by
  rw [listTo_mem]
  constructor
  · rintro ⟨j, e, hj, hf⟩
    have : j = x := by omega
    subst this
    exact ⟨hj, hf⟩
  · rintro ⟨h1, h2⟩; exact ⟨x, rfl, h1, h2⟩
section
variable {m : Nat} {ln : List Nat} (h : TabOk m ln)
theorem idR_iff {i x c : Nat} : idR m ln i c x = true ↔ ∃ y, y < c ∧ tm m ln i y = x := by
  unfold idR
  simp
theorem idL_iff {i x c : Nat} : idL m ln i c x = true ↔ ∃ y, y < c ∧ tm m ln y i = x := by
  unfold idL
  simp
include h
theorem idR_le {i k : Nat} (hi : i < m) (hk : k < m) (hr : ∃ a, a < m ∧ tm m ln k a = i) {x : Nat} (hx : idR m ln i m x = true) : idR m ln k m x = true := by
  obtain ⟨a, ha, rfl⟩ := hr
  obtain ⟨y, hy, rfl⟩ := idR_iff.1 hx
  exact idR_iff.2 ⟨tm m ln a y, h.tm_lt ha hy, (h.assoc k a y hk ha hy).symm⟩
theorem idL_le {i k : Nat} (hi : i < m) (hk : k < m) (hr : ∃ a, a < m ∧ tm m ln a k = i) {x : Nat} (hx : idL m ln i m x = true) : idL m ln k m x = true := by
  obtain ⟨a, ha, rfl⟩ := hr
  obtain ⟨y, hy, rfl⟩ := idL_iff.1 hx
  exact idL_iff.2 ⟨tm m ln y a, h.tm_lt hy ha, h.assoc y a k hy ha hk⟩
theorem rel1_iff {i k : Nat} (hi : i < m) (hk : k < m) : relK m ln 1 i k = true ↔ (∃ a, a < m ∧ tm m ln k a = i) ∧ (∃ b, b < m ∧ tm m ln i b = k) := by
  rw [relK_not4 (by decide), decide_eq_true_eq]
  constructor
  · intro he
    have h1 := listTo_inj he hi
    have h2 := listTo_inj he hk
    rw [inId_1, inId_1] at h1 h2
    exact ⟨idR_iff.1 (h1.symm.trans (idR_iff.2 ⟨0, h.lo, h.right i hi⟩)), idR_iff.1 (h2.trans (idR_iff.2 ⟨0, h.lo, h.right k hk⟩))⟩
  · rintro ⟨h1, h2⟩
    refine listTo_congr fun x hx => ?_
    rw [inId_1, inId_1, Bool.eq_iff_iff]
    exact ⟨idR_le h hi hk h1, idR_le h hk hi h2⟩
theorem rel2_iff {i k : Nat} (hi : i < m) (hk : k < m) : relK m ln 2 i k = true ↔ (∃ a, a < m ∧ tm m ln a k = i) ∧ (∃ b, b < m ∧ tm m ln b i = k) := by
  rw [relK_not4 (by decide), decide_eq_true_eq]
  constructor
  · intro he
    have h1 := listTo_inj he hi
    have h2 := listTo_inj he hk
    rw [inId_2, inId_2] at h1 h2
    exact ⟨idL_iff.1 (h1.symm.trans (idL_iff.2 ⟨0, h.lo, h.left i hi⟩)), idL_iff.1 (h2.trans (idL_iff.2 ⟨0, h.lo, h.left k hk⟩))⟩
  · rintro ⟨h1, h2⟩
    refine listTo_congr fun x hx => ?_
    rw [inId_2, inId_2, Bool.eq_iff_iff]
    exact ⟨idL_le h hi hk h1, idL_le h hk hi h2⟩
/-- related to an idempotent on both sides -/
theorem rel4_iff {i k : Nat} (hi : i < m) (hk : k < m) : relK m ln 4 i k = true ↔ ((∃ a, a < m ∧ tm m ln k a = i) ∧ (∃ b, b < m ∧ tm m ln i b = k)) ∧ ((∃ a, a < m ∧ tm m ln a k = i) ∧ (∃ b, b < m ∧ tm m ln b i = k)) := by
  rw [relK_four, Bool.and_eq_true, rel1_iff h hi hk, rel2_iff h hi hk]
theorem rel_unit {e y : Nat} (he : e < m) (hee : tm m ln e e = e) (hy : y < m) (hr : relK m ln 4 y e = true) : tm m ln e y = y ∧ tm m ln y e = y := by
  obtain ⟨⟨⟨a, ha, h1⟩, _⟩, ⟨b, hb, h2⟩, _⟩ := (rel4_iff h hy he).1 hr
  constructor
  · rw [← h1, ← h.assoc e e a he he ha, hee]
  · rw [← h2, h.assoc b e e hb he he, hee]
theorem rel_prod {e y z : Nat} (he : e < m) (hee : tm m ln e e = e) (hy : y < m) (hz : z < m) (hry : relK m ln 4 y e = true) (hrz : relK m ln 4 z e = true) : relK m ln 4 (tm m ln y z) e = true := by
  obtain ⟨ey, ye⟩ := rel_unit h he hee hy hry
  obtain ⟨ez, ze⟩ := rel_unit h he hee hz hrz
  obtain ⟨⟨_, b1, hb1, y1⟩, _, c1, hc1, y2⟩ := (rel4_iff h hy he).1 hry
  obtain ⟨⟨_, b2, hb2, z1⟩, _, c2, hc2, z2⟩ := (rel4_iff h hz he).1 hrz
  have hp := h.tm_lt hy hz
  refine (rel4_iff h hp he).2 ⟨⟨⟨_, hp, ?_⟩, tm m ln b2 b1, h.tm_lt hb2 hb1, ?_⟩, ⟨_, hp, ?_⟩, tm m ln c2 c1, h.tm_lt hc2 hc1, ?_⟩
  · rw [← h.assoc e y z he hy hz, ey]
  · rw [← h.assoc _ b2 b1 hp hb2 hb1, h.assoc y z b2 hy hz hb2, z1, ye, y1]
  · rw [h.assoc y z e hy hz he, ze]
  · rw [h.assoc c2 c1 _ hc2 hc1 hp, ← h.assoc c1 y z hc1 hy hz, y2, ez, z2]
theorem rel_inv {e y : Nat} (he : e < m) (hee : tm m ln e e = e) (hy : y < m) (hry : relK m ln 4 y e = true) : ∃ z, z < m ∧ relK m ln 4 z e = true ∧ tm m ln y z = e := by
  obtain ⟨ey, ye⟩ := rel_unit h he hee hy hry
  obtain ⟨⟨_, b, hb, y1⟩, _, d, hd, y2⟩ := (rel4_iff h hy he).1 hry
  have heb := h.tm_lt he hb
  have hz := h.tm_lt heb he
  have p1 : tm m ln y (tm m ln (tm m ln e b) e) = e := by
    rw [← h.assoc y (tm m ln e b) e hy heb he, ← h.assoc y e b hy he hb, ye, y1, hee]
  have p2 : tm m ln (tm m ln (tm m ln e b) e) y = e := by
    rw [h.assoc (tm m ln e b) e y heb he hy, ey]
    have e1 : tm m ln (tm m ln e b) y = tm m ln d (tm m ln y (tm m ln b y)) := by
      rw [← h.assoc d y _ hd hy (h.tm_lt hb hy), y2, h.assoc e b y he hb hy]
    rw [e1, ← h.assoc y b y hy hb hy, y1, ey, y2]
  have p3 : tm m ln e (tm m ln (tm m ln e b) e) = tm m ln (tm m ln e b) e := by
    rw [← h.assoc e (tm m ln e b) e he heb he, ← h.assoc e e b he he hb, hee]
  have p4 : tm m ln (tm m ln (tm m ln e b) e) e = tm m ln (tm m ln e b) e := by
    rw [h.assoc (tm m ln e b) e e heb he he, hee]
  exact ⟨_, hz, (rel4_iff h hz he).2 ⟨⟨⟨_, hz, p3⟩, y, hy, p2⟩, ⟨_, hz, p4⟩, y, hy, p1⟩, p1⟩
theorem idem_reg {i : Nat} (hi : i < m) (he : idemB m ln i = true) : isReg m ln i = true := by
  have hee : tm m ln i i = i := by simpa [idemB] using he
  unfold isReg
  rw [Bool.not_eq_true', Bool.eq_false_iff]
  intro ha
  have := all_range.1 ha i hi
  unfold regB at this
  rw [hee, hee] at this
  simp at this
theorem zero_idem : idemB m ln 0 = true := by unfold idemB; rw [decide_eq_true_eq]; exact h.left 0 h.lo
theorem unit_iff {i : Nat} : isUnit m ln i = true ↔ ∃ k, k < m ∧ tm m ln i k = 0 ∧ tm m ln k i = 0 := by
  unfold isUnit
  rw [Bool.not_eq_true']
  constructor
  · intro hf
    rcases Classical.em (∃ k, k < m ∧ tm m ln i k = 0 ∧ tm m ln k i = 0) with h1 | h1
    · exact h1
    · exfalso
      rw [Bool.eq_false_iff] at hf
      refine hf (all_range.2 fun k hk => ?_)
      cases hb : unB m ln i k
      · exfalso
        unfold unB at hb
        simp at hb
        exact h1 ⟨k, hk, hb.1, hb.2⟩
      · rfl
  · rintro ⟨k, hk, h1, h2⟩
    refine all_range_false hk ?_
    unfold unB
    simp [h1, h2]
theorem unit_rel {i : Nat} (hi : i < m) : relK m ln 4 i 0 = isUnit m ln i := by
  rw [Bool.eq_iff_iff, rel4_iff h hi h.lo, unit_iff h]
  constructor
  · rintro ⟨⟨_, b, hb, h1⟩, _, d, hd, h2⟩
    have e : d = b := by
      have h3 := h.assoc d i b hd hi hb
      rw [h2, h1, h.left b hb, h.right d hd] at h3
      exact h3.symm
    subst e
    exact ⟨d, hb, h1, h2⟩
  · rintro ⟨k, hk, h1, h2⟩
    exact ⟨⟨⟨i, hi, h.left i hi⟩, k, hk, h1⟩, ⟨i, hi, h.right i hi⟩, k, hk, h2⟩
theorem idem_unit {e : Nat} (he : e < m) (hee : idemB m ln e = true) (hu : isUnit m ln e = true) : e = 0 := by
  have h1 : tm m ln e e = e := by simpa [idemB] using hee
  obtain ⟨k, hk, h2, h3⟩ := (unit_iff h).1 hu
  have h4 := h.assoc k e e hk he he
  rw [h3, h1, h3, h.left e he] at h4
  exact h4
end
theorem listTo_mono {f g : Nat → Bool} {m : Nat} (h : ∀ x, x < m → f x = true → g x = true) : (listTo f m).length ≤ (listTo g m).length := by
  unfold listTo
  rw [List.length_map, List.length_map]
  have key : ∀ l : List Nat, (∀ x ∈ l, x < m) → (l.filter f).length ≤ (l.filter g).length := by
    intro l
    induction l with
    | nil => intro _; exact Nat.le_refl _
    | cons x l ih =>
      intro hl
      have h1 := ih fun y hy => hl y (List.mem_cons_of_mem _ hy)
      rw [List.filter_cons, List.filter_cons]
      cases hf : f x
      · cases hg : g x <;> simp <;> omega
      · rw [h x (hl x List.mem_cons_self) hf]
        simp; omega
  exact key _ fun x hx => List.mem_range.1 hx
theorem listTo_all {f : Nat → Bool} {m : Nat} (h : (listTo f m).length = m) {x : Nat} (hx : x < m) : f x = true := by
  unfold listTo at h
  rw [List.length_map] at h
  have h1 : ((List.range m).filter f).length = (List.range m).length := by rw [h, List.length_range]
  exact List.length_filter_eq_length_iff.1 h1 x (List.mem_range.2 hx)
theorem listTo_one {f : Nat → Bool} {m : Nat} (h0 : f 0 = true) (hm : 1 ≤ m) (h : ∀ x, x < m → f x = true → x = 0) : (listTo f m).length = 1 := by
  have e : listTo f m = listTo (fun x => decide (x = 0)) m := listTo_congr fun x hx => by
    cases hf : f x
    · symm; rw [decide_eq_false_iff_not]; rintro rfl; rw [h0] at hf; cases hf
    · rw [h x hx hf]; rfl
  rw [e]
  clear e h h0
  unfold listTo
  rw [List.length_map]
  obtain ⟨k, rfl⟩ : ∃ k, m = k + 1 := ⟨m - 1, by omega⟩
  rw [List.range_succ_eq_map, List.filter_cons]
  simp
/-- the group with an idempotent -/
def mgF (n : Int) (l : List Int) (e : Int) : List Int := if decide (e ∈ idemF n l) then thoseL n l (fun i => relK n.toNat (l.map Int.toNat) 4 i e.toNat) else []
/-- the facts that the law asks for -/
structure RegG (n : Int) (l : List Int) : Prop where
  ne : (idemF n l).length ≠ 0
  zero : (0 : Int) ∈ idemF n l
  le : (idemF n l).length ≤ (regularOfF n l).length
  few : ((regularOfF n l).length : Int) ≤ n
  reg : ∀ x ∈ idemF n l, x ∈ regularOfF n l
  self : ∀ x ∈ idemF n l, x ∈ mgF n l x
  units : mgF n l 0 = unitsOfF n l
/-- the facts of one of its groups -/
structure RegE (m : Nat) (ln : List Nat) (x : Nat) (G : List Int) : Prop where
  el : ∀ y ∈ G, ∃ j : Nat, y = (j : Int) ∧ j < m ∧ tm m ln x j = j
  prod : ∀ i j : Nat, (i : Int) ∈ G → (j : Int) ∈ G → ((tm m ln i j : Nat) : Int) ∈ G
  inv : ∀ i : Nat, (i : Int) ∈ G → ∃ j : Nat, (j : Int) ∈ G ∧ tm m ln i j = x
theorem TabG.forms {m : Nat} {ln : List Nat} (h : TabOk m ln) : idemF (m : Nat) (ln.map Int.ofNat) = listTo (idemB m ln) m ∧ regularOfF (m : Nat) (ln.map Int.ofNat) = listTo (isReg m ln) m ∧ unitsOfF (m : Nat) (ln.map Int.ofNat) = listTo (isUnit m ln) m ∧
    ∀ x : Nat, x < m → idemB m ln x = true → mgF (m : Nat) (ln.map Int.ofNat) (x : Nat) = listTo (fun i => relK m ln 4 i x) m := by
  have ht := TabG.tab ⟨ln, rfl, h⟩
  have e1 : idemF (m : Nat) (ln.map Int.ofNat) = listTo (idemB m ln) m := by
    unfold idemF; rw [thoseL_yes ht, map_toNat]; rfl
  refine ⟨e1, by unfold regularOfF; rw [thoseL_yes ht, map_toNat]; rfl, by unfold unitsOfF; rw [thoseL_yes ht, map_toNat]; rfl, fun x hx hi => ?_⟩
  unfold mgF
  rw [e1, decide_eq_true (listTo_at.2 ⟨hx, hi⟩), if_pos rfl, thoseL_yes ht, map_toNat]
  rfl
theorem TabG.reg {m : Nat} {l : List Int} (h : TabG m l) : RegG (m : Nat) l := by
  obtain ⟨ln, rfl, h⟩ := h
  obtain ⟨e1, e2, e3, e4⟩ := TabG.forms h
  have h0 : (0 : Int) ∈ listTo (idemB m ln) m := listTo_at.2 ⟨h.lo, zero_idem h⟩
  refine ⟨?_, ?_, ?_, ?_, ?_, ?_, ?_⟩
  · rw [e1]; intro h1; rw [List.eq_nil_of_length_eq_zero h1] at h0; cases h0
  · rw [e1]; exact h0
  · rw [e1, e2]; exact listTo_mono fun x hx => idem_reg h hx
  · rw [e2]; exact Int.ofNat_le.2 (listTo_len _ _)
  · rw [e1, e2]
    intro x hx
    obtain ⟨j, rfl, hj, hi⟩ := (listTo_mem _ _ _).1 hx
    exact listTo_at.2 ⟨hj, idem_reg h hj hi⟩
  · rw [e1]
    intro x hx
    obtain ⟨j, rfl, hj, hi⟩ := (listTo_mem _ _ _).1 hx
    rw [e4 j hj hi]
    exact listTo_at.2 ⟨hj, relK_refl _ _ _ _⟩
  · rw [e3]
    have := e4 0 h.lo (zero_idem h)
    rw [show ((0 : Nat) : Int) = 0 from rfl] at this
    rw [this]
    exact listTo_congr fun x hx => unit_rel h hx
theorem TabG.el {m : Nat} {ln : List Nat} (h : TabOk m ln) {x : Int} (hx : x ∈ idemF (m : Nat) (ln.map Int.ofNat)) : ∃ j : Nat, x = (j : Int) ∧ j < m ∧ RegE m ln j (mgF (m : Nat) (ln.map Int.ofNat) x) := by
  obtain ⟨e1, e2, e3, e4⟩ := TabG.forms h
  rw [e1] at hx
  obtain ⟨j, rfl, hj, hi⟩ := (listTo_mem _ _ _).1 hx
  refine ⟨j, rfl, hj, ?_⟩
  rw [e4 j hj hi]
  have hee : tm m ln j j = j := by simpa [idemB] using hi
  refine ⟨fun y hy => ?_, fun i k hi hk => ?_, fun i hi => ?_⟩
  · obtain ⟨k, rfl, hk, hr⟩ := (listTo_mem _ _ _).1 hy
    exact ⟨k, rfl, hk, (rel_unit h hj hee hk hr).1⟩
  · obtain ⟨h1, h2⟩ := listTo_at.1 hi
    obtain ⟨h3, h4⟩ := listTo_at.1 hk
    exact listTo_at.2 ⟨h.tm_lt h1 h3, rel_prod h hj hee h1 h3 h2 h4⟩
  · obtain ⟨h1, h2⟩ := listTo_at.1 hi
    obtain ⟨z, hz, h3, h4⟩ := rel_inv h hj hee h1 h2
    exact ⟨z, listTo_at.2 ⟨hz, h3⟩, h4⟩
theorem TabG.grp {m : Nat} {l : List Int} (h : TabG m l) : decide (((unitsOfF (m : Nat) l).length : Int) = (m : Nat)) = (decide ((idemF (m : Nat) l).length = 1) && decide (((unitsOfF (m : Nat) l).length : Int) = (m : Nat))) := by
  obtain ⟨ln, rfl, h⟩ := h
  obtain ⟨e1, e2, e3, e4⟩ := TabG.forms h
  rw [e1, e3]
  cases hu : decide (((listTo (isUnit m ln) m).length : Int) = (m : Nat))
  · simp
  · have h1 : (listTo (isUnit m ln) m).length = m := Int.ofNat.inj (of_decide_eq_true hu)
    have h2 := listTo_one (f := idemB m ln) (m := m) (zero_idem h) h.lo fun x hx hi => idem_unit h hx hi (listTo_all h1 hx)
    rw [decide_eq_true h2]
    rfl
end Go.Proofs.Ytdhaebbfiaddnaa
namespace Go.Proofs.Ytdhaebbfiaddnaa
open Go.RowKit
set_option linter.unusedVariables false
set_option linter.unusedSectionVars false

/-! numbers of classes -/
/-- an equivalence, as a function -/
structure EqvB (p : Nat → Nat → Bool) : Prop where
  refl : ∀ i, p i i = true
  same : ∀ i k, p i k = true → p i = p k
theorem eqv_rel (m : Nat) (ln : List Nat) (kind : Int) : EqvB (relK m ln kind) := ⟨relK_refl m ln kind, fun _ _ h => relK_fun h⟩
theorem num_full {p : Nat → Nat → Bool} (h : EqvB p) {c i : Nat} (hi : i < c) : numI p (numF p c) i = numV p (numF p i) i := numI_full (m := c) (fun i _ => h.refl i) hi
theorem num_first {p : Nat → Nat → Bool} (h : EqvB p) {c i : Nat} (hi : i < c) : ∃ f, f ∈ numF p c ∧ p i f = true := by
  have h1 : ¬ numI p (numF p c) i < 0 := by
    rw [num_full h hi]
    have := numV_nn p (numF p i) i
    omega
  rw [numI_neg] at h1
  have h2 : (numF p c).any (p i) = true := by cases hh : (numF p c).any (p i) <;> simp_all
  obtain ⟨f, hf, hp⟩ := List.any_eq_true.1 h2
  exact ⟨f, hf, hp⟩
theorem num_same {p : Nat → Nat → Bool} (h : EqvB p) {c i k : Nat} (hi : i < c) (hk : k < c) : nthZ (numO p c) i = nthZ (numO p c) k ↔ p i k = true := by
  rw [numO_nth hi, numO_nth hk, ← num_full h hi, ← num_full h hk]
  constructor
  · intro he
    have h1 : 0 ≤ numI p (numF p c) i := by rw [num_full h hi]; exact numV_nn _ _ _
    unfold numI at he h1
    cases h2 : (numF p c).findIdx? (p i)
    · rw [h2] at h1; simp at h1
    · rename_i a
      rw [h2] at he
      cases h3 : (numF p c).findIdx? (p k)
      · rw [h3] at he; simp at he
      · rename_i b
        rw [h3] at he
        obtain rfl : a = b := by simp at he; omega
        obtain ⟨ha, hpa, _⟩ := List.findIdx?_eq_some_iff_getElem.1 h2
        obtain ⟨_, hpb, _⟩ := List.findIdx?_eq_some_iff_getElem.1 h3
        rw [h.same _ _ hpa, ← h.same _ _ hpb]
        exact h.refl k
  · intro he
    unfold numI
    rw [h.same i k he]
theorem num_new {p : Nat → Nat → Bool} (h : EqvB p) (c : Nat) : (numF p c).any (p c) = false ↔ ∀ j, j < c → p c j = false := by
  constructor
  · intro ha j hj
    rw [Bool.eq_false_iff]
    intro hp
    obtain ⟨f, hf, h1⟩ := num_first h hj
    rw [List.any_eq_false] at ha
    refine ha f hf ?_
    rw [h.same c j hp]; exact h1
  · intro ha
    rw [List.any_eq_false]
    intro f hf
    rw [ha f (numF_lt p c f hf)]
    exact Bool.false_ne_true
theorem num_finer {p q : Nat → Nat → Bool} (hp : EqvB p) (hq : EqvB q) (h : ∀ i k, p i k = true → q i k = true) : ∀ c, (numF q c).length ≤ (numF p c).length
  | 0 => Nat.le_refl _
  | c + 1 => by
    have ih := num_finer hp hq h c
    rw [numF_succ, numF_succ]
    cases h1 : (numF q c).any (q c)
    · have h2 : (numF p c).any (p c) = false := (num_new hp c).2 fun j hj => by
        rw [Bool.eq_false_iff]
        intro h3
        have := (num_new hq c).1 h1 j hj
        rw [h c j h3] at this
        cases this
      rw [h2]
      simp
      exact ih
    · cases h2 : (numF p c).any (p c)
      · simp; omega
      · simp; exact ih
theorem num_count (p : Nat → Nat → Bool) : ∀ c, cntF (numO p c) = ((numF p c).length : Int)
  | 0 => rfl
  | c + 1 => by
    rw [numO_succ, cntF_step, num_count p c, numF_count]
    have h1 := numV_le (p := p) (F := numF p c) (j := c)
    split
    · rename_i h2; rw [h2]; omega
    · rename_i h2; omega
theorem cnt_one {l : List Int} (h : l.length ≠ 0) (hn : ∀ x ∈ l, 0 ≤ x) : 1 ≤ cntF l := by
  cases l with
  | nil => exact absurd rfl h
  | cons x l =>
    have a := (cntF_ge (x :: l) 0).2 x List.mem_cons_self
    have b := hn x List.mem_cons_self
    unfold cntF
    omega

/-! ideals -/
section
variable {m : Nat} {ln : List Nat}
theorem idB_iff {i x c : Nat} : idB m ln i c x = true ↔ ∃ y, y < c ∧ ∃ z, z < m ∧ tm m ln (tm m ln y i) z = x := by
  unfold idB idI
  simp
theorem mem1 {i x : Nat} : ((x : Nat) : Int) ∈ idLs m ln 1 i ↔ x < m ∧ idR m ln i m x = true := by unfold idLs; rw [listTo_at, inId_1]
theorem mem2 {i x : Nat} : ((x : Nat) : Int) ∈ idLs m ln 2 i ↔ x < m ∧ idL m ln i m x = true := by unfold idLs; rw [listTo_at, inId_2]
theorem mem3 {i x : Nat} : ((x : Nat) : Int) ∈ idLs m ln 3 i ↔ x < m ∧ idB m ln i m x = true := by unfold idLs; rw [listTo_at, inId_3 (by decide) (by decide)]
variable (h : TabOk m ln)
include h
theorem self1 {i : Nat} (hi : i < m) : ((i : Nat) : Int) ∈ idLs m ln 1 i := mem1.2 ⟨hi, idR_iff.2 ⟨0, h.lo, h.right i hi⟩⟩
theorem self2 {i : Nat} (hi : i < m) : ((i : Nat) : Int) ∈ idLs m ln 2 i := mem2.2 ⟨hi, idL_iff.2 ⟨0, h.lo, h.left i hi⟩⟩
theorem self3 {i : Nat} (hi : i < m) : ((i : Nat) : Int) ∈ idLs m ln 3 i := mem3.2 ⟨hi, idB_iff.2 ⟨0, h.lo, 0, h.lo, by rw [h.left i hi, h.right i hi]⟩⟩
theorem sub13 {i x : Nat} (hi : i < m) (hx : ((x : Nat) : Int) ∈ idLs m ln 1 i) : ((x : Nat) : Int) ∈ idLs m ln 3 i := by
  obtain ⟨h1, h2⟩ := mem1.1 hx
  obtain ⟨y, hy, e⟩ := idR_iff.1 h2
  exact mem3.2 ⟨h1, idB_iff.2 ⟨0, h.lo, y, hy, by rw [h.left i hi]; exact e⟩⟩
theorem sub23 {i x : Nat} (hi : i < m) (hx : ((x : Nat) : Int) ∈ idLs m ln 2 i) : ((x : Nat) : Int) ∈ idLs m ln 3 i := by
  obtain ⟨h1, h2⟩ := mem2.1 hx
  obtain ⟨y, hy, e⟩ := idL_iff.1 h2
  exact mem3.2 ⟨h1, idB_iff.2 ⟨y, hy, 0, h.lo, by rw [e, h.right x h1]⟩⟩
theorem idB_le {i k : Nat} (hi : i < m) (hk : k < m) (hr : ∃ a b, a < m ∧ b < m ∧ tm m ln (tm m ln a k) b = i) {x : Nat} (hx : idB m ln i m x = true) : idB m ln k m x = true := by
  obtain ⟨a, b, ha, hb, rfl⟩ := hr
  obtain ⟨y, hy, z, hz, rfl⟩ := idB_iff.1 hx
  have hak := h.tm_lt ha hk
  have hya := h.tm_lt hy ha
  refine idB_iff.2 ⟨tm m ln y a, hya, tm m ln b z, h.tm_lt hb hz, ?_⟩
  rw [← h.assoc y _ b hy hak hb, h.assoc _ b z (h.tm_lt hy hak) hb hz, ← h.assoc y a k hy ha hk]
theorem rel_43 {i k : Nat} (hi : i < m) (hk : k < m) (hr : relK m ln 4 i k = true) : relK m ln 3 i k = true := by
  obtain ⟨⟨⟨a, ha, h1⟩, b, hb, h2⟩, _⟩ := (rel4_iff h hi hk).1 hr
  rw [relK_not4 (by decide), decide_eq_true_eq]
  refine listTo_congr fun x hx => ?_
  rw [inId_3 (by decide) (by decide), inId_3 (by decide) (by decide), Bool.eq_iff_iff]
  exact ⟨idB_le h hi hk ⟨0, a, h.lo, ha, by rw [h.left k hk]; exact h1⟩, idB_le h hk hi ⟨0, b, h.lo, hb, by rw [h.left i hi]; exact h2⟩⟩
end
/-- the best of two ideals: the later one if it is shorter -/
def bestI (m : Nat) (ln : List Nat) (b : Nat) (i : Nat) : Nat := if (idLs m ln 3 i).length < (idLs m ln 3 b).length then i else b
/-- the element whose ideal is the least, among 0 and those below c -/
def leastTo (m : Nat) (ln : List Nat) : Nat → Nat
  | 0 => 0
  | c + 1 => bestI m ln (leastTo m ln c) c
theorem leastTo_lt {m : Nat} {ln : List Nat} (hm : 1 ≤ m) : ∀ c, c ≤ m → leastTo m ln c < m
  | 0, _ => hm
  | c + 1, hc => by
    have := leastTo_lt (ln := ln) hm c (by omega)
    unfold leastTo bestI
    split <;> omega
theorem leastTo_le {m : Nat} {ln : List Nat} : ∀ c i, i < c → (idLs m ln 3 (leastTo m ln c)).length ≤ (idLs m ln 3 i).length
  | 0, i, h => by omega
  | c + 1, i, h => by
    unfold leastTo bestI
    split
    · rename_i h1
      rcases Nat.lt_succ_iff_lt_or_eq.1 h with h2 | rfl
      · have := leastTo_le (m := m) (ln := ln) c i h2; omega
      · exact Nat.le_refl _
    · rename_i h1
      rcases Nat.lt_succ_iff_lt_or_eq.1 h with h2 | rfl
      · exact leastTo_le c i h2
      · omega
theorem listTo_full {f g : Nat → Bool} {m : Nat} (h : ∀ x, x < m → f x = true → g x = true) (hl : (listTo g m).length ≤ (listTo f m).length) : ∀ x, x < m → g x = true → f x = true := by
  intro x hx hg
  cases hf : f x
  · exfalso
    have h1 : (listTo f m).length ≤ (listTo (fun y => g y && !decide (y = x)) m).length := listTo_mono fun y hy hfy => by
      rw [h y hy hfy]
      have : y ≠ x := by rintro rfl; rw [hf] at hfy; cases hfy
      simp [this]
    have h2 : (listTo (fun y => g y && !decide (y = x)) m).length + 1 ≤ (listTo g m).length := by
      have key : ∀ n, x < n → (listTo (fun y => g y && !decide (y = x)) n).length + 1 ≤ (listTo g n).length := by
        intro n
        induction n with
        | zero => intro h; omega
        | succ n ih =>
          intro hn
          by_cases he : n = x
          · subst he
            rw [listTo_no (f := fun y => g y && !decide (y = n)) (by simp), listTo_yes hg, List.length_append]
            have : (listTo (fun y => g y && !decide (y = n)) n).length ≤ (listTo g n).length := listTo_mono fun y _ hy => by
              rw [Bool.and_eq_true] at hy; exact hy.1
            simp
            exact this
          · have h3 := ih (by omega)
            cases hgn : g n
            · rw [listTo_no (f := fun y => g y && !decide (y = x)) (by simp [hgn]), listTo_no hgn]; exact h3
            · rw [listTo_yes (f := fun y => g y && !decide (y = x)) (by simp [hgn, he]), listTo_yes hgn, List.length_append, List.length_append]
              simp
              exact h3
      exact key m hx
    omega
  · rfl
section
variable {m : Nat} {ln : List Nat} (h : TabOk m ln)
include h
/-- the least ideal lies in each -/
theorem least_in {i x : Nat} (hi : i < m) (hx : ((x : Nat) : Int) ∈ idLs m ln 3 (leastTo m ln m)) : ((x : Nat) : Int) ∈ idLs m ln 3 i := by
  have hj := leastTo_lt (ln := ln) h.lo m (Nat.le_refl _)
  have hp := h.tm_lt hi hj
  have hl := leastTo_le (m := m) (ln := ln) m _ hp
  obtain ⟨h1, h2⟩ := mem3.1 hx
  have key := listTo_full (f := inId m ln 3 (tm m ln i (leastTo m ln m))) (g := inId m ln 3 (leastTo m ln m)) (m := m) (fun y hy hf => by
    rw [inId_3 (by decide) (by decide)] at hf ⊢
    exact idB_le h hp hj ⟨i, 0, hi, h.lo, h.right _ hp⟩ hf) hl x h1 (by rw [inId_3 (by decide) (by decide)]; exact h2)
  rw [inId_3 (by decide) (by decide)] at key
  exact mem3.2 ⟨h1, idB_le h hp hi ⟨0, leastTo m ln m, h.lo, hj, by rw [h.left i hi]⟩ key⟩
end
theorem listTo_len_one {f : Nat → Bool} {m j : Nat} (hj : j < m) (hf : f j = true) : (listTo f m).length = 1 ↔ ∀ x, x < m → f x = true → x = j := by
  have e1 : (listTo (fun x => decide (x = j)) m).length = 1 := by
    have key : ∀ n, j < n → (listTo (fun x => decide (x = j)) n).length = 1 := by
      intro n
      induction n with
      | zero => intro h; omega
      | succ n ih =>
        intro hn
        by_cases he : n = j
        · subst he
          rw [listTo_yes (f := fun x => decide (x = n)) (by simp), List.length_append]
          have : listTo (fun x => decide (x = n)) n = [] := by
            refine List.eq_nil_iff_forall_not_mem.2 fun y hy => ?_
            obtain ⟨k, _, hk, h2⟩ := (listTo_mem _ _ _).1 hy
            have := of_decide_eq_true h2
            omega
          rw [this]; rfl
        · rw [listTo_no (f := fun x => decide (x = j)) (by simpa using he)]
          exact ih (by omega)
    exact key m hj
  constructor
  · intro hl x hx hfx
    have := listTo_full (f := fun x => decide (x = j)) (g := f) (m := m) (fun y _ hy => by rw [of_decide_eq_true hy]; exact hf) (by omega) x hx hfx
    exact of_decide_eq_true this
  · intro h
    rw [show listTo f m = listTo (fun x => decide (x = j)) m from listTo_congr fun x hx => by
      rw [Bool.eq_iff_iff, decide_eq_true_eq]
      exact ⟨h x hx, fun e => by rw [e]; exact hf⟩]
    exact e1
theorem zero_iff {m : Nat} {l : List Int} (h : TabG m l) : (0 ≤ zeroF (m : Nat) l) ↔ ∃ z, z < m ∧ zeroB m (l.map Int.toNat) z = true := by
  unfold zeroF
  rw [thoseL_yes h.tab, Int.toNat_natCast]
  unfold firstZ
  cases hl : listTo (zeroB m (l.map Int.toNat)) m with
  | nil =>
    constructor
    · intro h1; exact absurd h1 (by decide)
    · rintro ⟨z, hz, h1⟩
      have : ((z : Nat) : Int) ∈ listTo (zeroB m (l.map Int.toNat)) m := listTo_at.2 ⟨hz, h1⟩
      rw [hl] at this; cases this
  | cons x t =>
    have h1 : x ∈ listTo (zeroB m (l.map Int.toNat)) m := by rw [hl]; exact List.mem_cons_self
    obtain ⟨j, rfl, hj, h2⟩ := (listTo_mem _ _ _).1 h1
    exact ⟨fun _ => ⟨j, hj, h2⟩, fun _ => Int.natCast_nonneg j⟩
section
variable {m : Nat} {ln : List Nat} (h : TabOk m ln)
include h
theorem zeroB_iff {z : Nat} : zeroB m ln z = true ↔ ∀ i, i < m → tm m ln z i = z ∧ tm m ln i z = z := by
  unfold zeroB
  rw [all_range]
  constructor
  · intro h1 i hi
    have := h1 i hi
    unfold zerB at this
    simpa using this
  · intro h1 i hi
    unfold zerB
    simpa using h1 i hi
theorem zero_least : (∃ z, z < m ∧ zeroB m ln z = true) ↔ (idLs m ln 3 (leastTo m ln m)).length = 1 := by
  have hj := leastTo_lt (ln := ln) h.lo m (Nat.le_refl _)
  have hself := (mem3.1 (self3 h hj)).2
  have e1 : (idLs m ln 3 (leastTo m ln m)).length = 1 ↔ ∀ x, x < m → inId m ln 3 (leastTo m ln m) x = true → x = leastTo m ln m := listTo_len_one hj (by rw [inId_3 (by decide) (by decide)]; exact hself)
  constructor
  · rintro ⟨z, hz, h1⟩
    have h2 := (zeroB_iff h).1 h1
    have h3 : (idLs m ln 3 z).length = 1 := (listTo_len_one hz (by rw [inId_3 (by decide) (by decide)]; exact (mem3.1 (self3 h hz)).2)).2 fun x hx hf => by
      rw [inId_3 (by decide) (by decide)] at hf
      obtain ⟨y, hy, w, hw, e⟩ := idB_iff.1 hf
      rw [(h2 y hy).2, (h2 w hw).1] at e
      exact e.symm
    have h4 := leastTo_le (m := m) (ln := ln) m z hz
    have h5 : (idLs m ln 3 (leastTo m ln m)).length ≠ 0 := fun h0 => by
      have := self3 h hj
      rw [List.eq_nil_of_length_eq_zero h0] at this
      cases this
    omega
  · intro hl
    have h1 := e1.1 hl
    refine ⟨_, hj, (zeroB_iff h).2 fun i hi => ⟨?_, ?_⟩⟩
    · refine h1 _ (h.tm_lt hj hi) ?_
      rw [inId_3 (by decide) (by decide)]
      exact idB_iff.2 ⟨0, h.lo, i, hi, by rw [h.left _ hj]⟩
    · refine h1 _ (h.tm_lt hi hj) ?_
      rw [inId_3 (by decide) (by decide)]
      exact idB_iff.2 ⟨i, hi, 0, h.lo, h.right _ (h.tm_lt hi hj)⟩
end
end Go.Proofs.Ytdhaebbfiaddnaa
namespace Go.Proofs.Ytdhaebbfiaddnaa
open Go.RowKit
set_option linter.unusedVariables false
/-- more pigeons than holes -/
theorem php : ∀ (m : Nat) (f : Nat → Nat), (∀ i, i ≤ m → f i < m) → ∃ i j, i < j ∧ j ≤ m ∧ f i = f j
  | 0, f, h => absurd (h 0 (Nat.le_refl _)) (Nat.not_lt_zero _)
  | m + 1, f, h => by
    by_cases he : ∃ i, i ≤ m ∧ f i = f (m + 1)
    · obtain ⟨i, hi, e⟩ := he
      exact ⟨i, m + 1, by omega, Nat.le_refl _, e⟩
    · have hne : ∀ i, i ≤ m → f i ≠ f (m + 1) := fun i hi e => he ⟨i, hi, e⟩
      obtain ⟨i, j, hij, hj, e⟩ := php m (fun i => if f i = m then f (m + 1) else f i) (fun i hi => by
        have h1 := h i (by omega)
        have h2 := h (m + 1) (Nat.le_refl _)
        have h3 := hne i hi
        by_cases e : f i = m
        · simp only [e, if_true]; omega
        · simp only [e, if_false]; omega)
      have h1 := hne i (by omega)
      have h2 := hne j hj
      refine ⟨i, j, hij, by omega, ?_⟩
      by_cases e1 : f i = m <;> by_cases e2 : f j = m <;> simp [e1, e2] at e <;> omega
/-- the powers of an element -/
def pw (m : Nat) (ln : List Nat) (i : Nat) : Nat → Nat
  | 0 => 0
  | n + 1 => tm m ln (pw m ln i n) i
theorem pw_zero (m : Nat) (ln : List Nat) (i : Nat) : pw m ln i 0 = 0 := rfl
theorem pw_succ (m : Nat) (ln : List Nat) (i n : Nat) : pw m ln i (n + 1) = tm m ln (pw m ln i n) i := rfl
theorem Tb.pw_lt {m : Nat} {ln : List Nat} (h : Tb m ln) {i : Nat} (hi : i < m) : ∀ n, pw m ln i n < m
  | 0 => h.lo
  | n + 1 => h.tm_lt (h.pw_lt hi n) hi
theorem TabOk.pw_add {m : Nat} {ln : List Nat} (h : TabOk m ln) {i : Nat} (hi : i < m) (a : Nat) : ∀ b, pw m ln i (a + b) = tm m ln (pw m ln i a) (pw m ln i b)
  | 0 => by rw [Nat.add_zero, pw_zero, h.right _ (h.pw_lt hi a)]
  | b + 1 => by
    rw [← Nat.add_assoc, pw_succ, h.pw_add hi a b, pw_succ, h.assoc _ _ _ (h.pw_lt hi a) (h.pw_lt hi b) hi]
/-- the power n was there before -/
def repB (m : Nat) (ln : List Nat) (i n : Nat) : Bool := (List.range n).any fun k => decide (pw m ln i k = pw m ln i n)
theorem repB_iff {m : Nat} {ln : List Nat} {i n : Nat} : repB m ln i n = true ↔ ∃ k, k < n ∧ pw m ln i k = pw m ln i n := by simp [repB]
theorem Tb.rep {m : Nat} {ln : List Nat} (h : Tb m ln) {i : Nat} (hi : i < m) : ∃ n, n ≤ m ∧ repB m ln i n = true := by
  obtain ⟨k, n, hk, hn, e⟩ := php m (pw m ln i) (fun n _ => h.pw_lt hi n)
  exact ⟨n, hn, repB_iff.2 ⟨k, hk, e⟩⟩
/-- the first number that has a property, of those up to m -/
def firstN (p : Nat → Bool) (m : Nat) : Nat := ((List.range (m + 1)).find? p).getD 0
theorem firstN_spec {p : Nat → Bool} {m n : Nat} (hn : n ≤ m) (hp : p n = true) : p (firstN p m) = true ∧ firstN p m ≤ n ∧ ∀ z, z < firstN p m → p z = false := by
  unfold firstN
  cases h : (List.range (m + 1)).find? p
  · rw [List.find?_eq_none] at h
    have := h n (by simp; omega)
    simp [hp] at this
  · rename_i k
    rw [List.find?_eq_some_iff_getElem] at h
    obtain ⟨h1, j, hj, h2, h3⟩ := h
    simp only [List.getElem_range] at h2 h3
    subst h2
    simp only [Option.getD_some]
    refine ⟨h1, ?_, fun z hz => by simpa using h3 z hz⟩
    rcases Nat.lt_or_ge n j with hlt | hge
    · have := h3 n hlt
      simp [hp] at this
    · exact hge
def repN (m : Nat) (ln : List Nat) (i : Nat) : Nat := firstN (repB m ln i) m
def repK (m : Nat) (ln : List Nat) (i : Nat) : Nat := firstN (fun k => decide (pw m ln i k = pw m ln i (repN m ln i))) m
theorem Tb.repN_le {m : Nat} {ln : List Nat} (h : Tb m ln) {i : Nat} (hi : i < m) : repN m ln i ≤ m := by
  obtain ⟨n, hn, hp⟩ := h.rep hi
  exact Nat.le_trans (firstN_spec hn hp).2.1 hn
theorem Tb.repN_rep {m : Nat} {ln : List Nat} (h : Tb m ln) {i : Nat} (hi : i < m) : repB m ln i (repN m ln i) = true := by
  obtain ⟨n, hn, hp⟩ := h.rep hi
  exact (firstN_spec hn hp).1
theorem Tb.repN_min {m : Nat} {ln : List Nat} (h : Tb m ln) {i : Nat} (hi : i < m) {z : Nat} (hz : z < repN m ln i) : repB m ln i z = false := by
  obtain ⟨n, hn, hp⟩ := h.rep hi
  exact (firstN_spec hn hp).2.2 z hz
theorem Tb.repK_spec {m : Nat} {ln : List Nat} (h : Tb m ln) {i : Nat} (hi : i < m) : repK m ln i < repN m ln i ∧ pw m ln i (repK m ln i) = pw m ln i (repN m ln i) ∧ ∀ z, z < repK m ln i → pw m ln i z ≠ pw m ln i (repN m ln i) := by
  obtain ⟨k, hk, e⟩ := repB_iff.1 (h.repN_rep hi)
  have h1 := firstN_spec (p := fun k => decide (pw m ln i k = pw m ln i (repN m ln i))) (m := m) (n := k) (by have := h.repN_le hi; omega) (by simpa using e)
  refine ⟨?_, by simpa [repK] using h1.1, fun z hz => by simpa using h1.2.2 z hz⟩
  have : repK m ln i ≤ k := h1.2.1
  omega
/-- a group -/
structure Grp (m : Nat) (ln : List Nat) : Prop extends TabOk m ln where
  unit : ∀ i, i < m → isUnit m ln i = true
theorem Grp.inv {m : Nat} {ln : List Nat} (h : Grp m ln) {i : Nat} (hi : i < m) : ∃ k, k < m ∧ tm m ln i k = 0 ∧ tm m ln k i = 0 ∧ invF m ln i = (k : Nat) := by
  have h1 := h.unit i hi
  rw [← invF_unit] at h1
  rcases invF_lt (m := m) (ln := ln) (i := i) with h2 | ⟨k, h2, h3, h4⟩
  · rw [h2] at h1; simp at h1
  · simp [invB] at h4
    exact ⟨k, h3, h4.1, h4.2, h2⟩
theorem Grp.right_inv {m : Nat} {ln : List Nat} (h : Grp m ln) {i k : Nat} (hi : i < m) (hk : k < m) (e : tm m ln i k = 0) : tm m ln k i = 0 ∧ invF m ln i = (k : Nat) := by
  obtain ⟨k', hk', e1, e2, e3⟩ := h.inv hi
  have : k = k' := by
    have h1 := h.assoc k' i k hk' hi hk
    rw [e2, e, h.left k hk, h.right k' hk'] at h1
    exact h1
  subst this
  exact ⟨e2, e3⟩
theorem Grp.cancel {m : Nat} {ln : List Nat} (h : Grp m ln) {x a b : Nat} (hx : x < m) (ha : a < m) (hb : b < m) (e : tm m ln x a = tm m ln x b) : a = b := by
  obtain ⟨k, hk, _, e2, _⟩ := h.inv hx
  have h1 := h.assoc k x a hk hx ha
  have h2 := h.assoc k x b hk hx hb
  rw [e2, h.left a ha] at h1
  rw [e2, h.left b hb] at h2
  rw [h1, h2, e]
theorem Grp.repK_zero {m : Nat} {ln : List Nat} (h : Grp m ln) {i : Nat} (hi : i < m) : repK m ln i = 0 := by
  obtain ⟨h1, h2, h3⟩ := h.repK_spec hi
  have e : pw m ln i (repN m ln i) = tm m ln (pw m ln i (repK m ln i)) (pw m ln i (repN m ln i - repK m ln i)) := by
    rw [← h.pw_add hi]; congr 1; omega
  have h4 : pw m ln i (repN m ln i - repK m ln i) = 0 := by
    refine h.cancel (h.pw_lt hi (repK m ln i)) (h.pw_lt hi _) h.lo ?_
    rw [← e, ← h2, h.right _ (h.pw_lt hi _)]
  rcases Nat.eq_zero_or_pos (repK m ln i) with h5 | h5
  · exact h5
  · have h6 := h.repN_min hi (z := repN m ln i - repK m ln i) (by omega)
    have h7 : repB m ln i (repN m ln i - repK m ln i) = true := repB_iff.2 ⟨0, by omega, by rw [h4]; rfl⟩
    rw [h7] at h6
    cases h6
/-- the order of an element of a group: the first power that is the identity -/
theorem Grp.order {m : Nat} {ln : List Nat} (h : Grp m ln) {i : Nat} (hi : i < m) : 1 ≤ repN m ln i ∧ pw m ln i (repN m ln i) = 0 ∧ ∀ n, 1 ≤ n → n < repN m ln i → pw m ln i n ≠ 0 := by
  have h0 := h.repK_zero hi
  obtain ⟨h1, h2, _⟩ := h.repK_spec hi
  rw [h0] at h1 h2
  refine ⟨by omega, h2.symm, fun n hn hlt e => ?_⟩
  have h6 := h.repN_min hi (z := n) hlt
  have h7 : repB m ln i n = true := repB_iff.2 ⟨0, by omega, by rw [e]; rfl⟩
  rw [h7] at h6
  cases h6
theorem groupB_tab {n : Int} {l : List Int} (h : groupB n l = true) : tabB n l = true := by
  simp only [groupB, Bool.and_eq_true] at h
  exact h.1
theorem groupB_out {n : Int} {l : List Int} (h : groupB n l = true) : ∃ m ln, n = (m : Nat) ∧ l = ln.map Int.ofNat ∧ Grp m ln := by
  have ht := groupB_tab h
  obtain ⟨m, ln, rfl, rfl, hT⟩ := tabOk_out ht
  refine ⟨m, ln, rfl, rfl, hT, ?_⟩
  simp only [groupB, Bool.and_eq_true, decide_eq_true_eq] at h
  have h2 := h.2
  unfold unitsOfF at h2
  rw [thoseL_yes ht, map_toNat] at h2
  simp only [Int.toNat_natCast, listTo, List.length_map] at h2
  have h3 : ((List.range m).filter (isUnit m ln)).length = (List.range m).length := by simp; omega
  have h4 := List.length_filter_eq_length_iff.1 h3
  exact fun i hi => h4 i (List.mem_range.2 hi)
end Go.Proofs.Ytdhaebbfiaddnaa
