/-
  Related elements and the group with an idempotent, of the program.
-/
import Derived.Test.YtggfhephdcnpcaaGreatGrp30
import Derived.Test.YtggfhephdcnpcaaGreatGrp39
import Derived.Test.YtggfhephdcnpcaaGreatGrp36
import Derived.Test.YtggfhephdcnpcaaGreatGrp34
import Derived.Test.YtggfhephdcnpcaaGreatGrp38
import Derived.Test.YtggfhephdcnpcaaGreatGrp04
namespace Go.Proofs.YtggfhephdcnpcaaGreat
open Go.RowKit
set_option linter.unusedVariables false
set_option linter.unusedSectionVars false
theorem listTo_congr {f g : Nat → Bool} {m : Nat} (h : ∀ x, x < m → f x = g x) : listTo f m = listTo g m := by
  unfold listTo
  congr 1
  exact List.filter_congr fun x hx => h x (List.mem_range.1 hx)
theorem listTo_inj {f g : Nat → Bool} {m : Nat} (h : listTo f m = listTo g m) {x : Nat} (hx : x < m) : f x = g x := by
  rw [Bool.eq_iff_iff]
  have key : ∀ f : Nat → Bool, f x = true ↔ ((x : Nat) : Int) ∈ listTo f m := fun f => by
    rw [listTo_mem]
    constructor
    · intro hf; exact ⟨x, rfl, hx, hf⟩
    · rintro ⟨j, e, _, hf⟩
      have : j = x := by omega
      rw [← this]; exact hf
  rw [key f, key g, h]
theorem listTo_at {f : Nat → Bool} {m x : Nat} : ((x : Nat) : Int) ∈ listTo f m ↔ x < m ∧ f x = true := by
  rw [listTo_mem]
  constructor
  · rintro ⟨j, e, hj, hf⟩
    have : j = x := by omega
    subst this
    exact ⟨hj, hf⟩
  · rintro ⟨h1, h2⟩; exact ⟨x, rfl, h1, h2⟩
section
variable {m : Nat} {ln : List Nat} (h : TabOk m ln)
theorem idR_iff {i x c : Nat} : idR m ln i c x = true ↔ ∃ y, y < c ∧ tm m ln i y = x := by
  unfold idR
  simp
theorem idL_iff {i x c : Nat} : idL m ln i c x = true ↔ ∃ y, y < c ∧ tm m ln y i = x := by
  unfold idL
  simp
include h
theorem idR_le {i k : Nat} (hi : i < m) (hk : k < m) (hr : ∃ a, a < m ∧ tm m ln k a = i) {x : Nat} (hx : idR m ln i m x = true) : idR m ln k m x = true := by
  obtain ⟨a, ha, rfl⟩ := hr
  obtain ⟨y, hy, rfl⟩ := idR_iff.1 hx
  exact idR_iff.2 ⟨tm m ln a y, h.tm_lt ha hy, (h.assoc k a y hk ha hy).symm⟩
theorem idL_le {i k : Nat} (hi : i < m) (hk : k < m) (hr : ∃ a, a < m ∧ tm m ln a k = i) {x : Nat} (hx : idL m ln i m x = true) : idL m ln k m x = true := by
  obtain ⟨a, ha, rfl⟩ := hr
  obtain ⟨y, hy, rfl⟩ := idL_iff.1 hx
  exact idL_iff.2 ⟨tm m ln y a, h.tm_lt hy ha, h.assoc y a k hy ha hk⟩
theorem rel1_iff {i k : Nat} (hi : i < m) (hk : k < m) : relK m ln 1 i k = true ↔ (∃ a, a < m ∧ tm m ln k a = i) ∧ (∃ b, b < m ∧ tm m ln i b = k) := by
  rw [relK_not4 (by decide), decide_eq_true_eq]
  constructor
  · intro he
    have h1 := listTo_inj he hi
    have h2 := listTo_inj he hk
    rw [inId_1, inId_1] at h1 h2
    exact ⟨idR_iff.1 (h1.symm.trans (idR_iff.2 ⟨0, h.lo, h.right i hi⟩)), idR_iff.1 (h2.trans (idR_iff.2 ⟨0, h.lo, h.right k hk⟩))⟩
  · rintro ⟨h1, h2⟩
    refine listTo_congr fun x hx => ?_
    rw [inId_1, inId_1, Bool.eq_iff_iff]
    exact ⟨idR_le h hi hk h1, idR_le h hk hi h2⟩
theorem rel2_iff {i k : Nat} (hi : i < m) (hk : k < m) : relK m ln 2 i k = true ↔ (∃ a, a < m ∧ tm m ln a k = i) ∧ (∃ b, b < m ∧ tm m ln b i = k) := by
  rw [relK_not4 (by decide), decide_eq_true_eq]
  constructor
  · intro he
    have h1 := listTo_inj he hi
    have h2 := listTo_inj he hk
    rw [inId_2, inId_2] at h1 h2
    exact ⟨idL_iff.1 (h1.symm.trans (idL_iff.2 ⟨0, h.lo, h.left i hi⟩)), idL_iff.1 (h2.trans (idL_iff.2 ⟨0, h.lo, h.left k hk⟩))⟩
  · rintro ⟨h1, h2⟩
    refine listTo_congr fun x hx => ?_
    rw [inId_2, inId_2, Bool.eq_iff_iff]
    exact ⟨idL_le h hi hk h1, idL_le h hk hi h2⟩
/-- related to an idempotent on both sides -/
theorem rel4_iff {i k : Nat} (hi : i < m) (hk : k < m) : relK m ln 4 i k = true ↔ ((∃ a, a < m ∧ tm m ln k a = i) ∧ (∃ b, b < m ∧ tm m ln i b = k)) ∧ ((∃ a, a < m ∧ tm m ln a k = i) ∧ (∃ b, b < m ∧ tm m ln b i = k)) := by
  rw [relK_four, Bool.and_eq_true, rel1_iff h hi hk, rel2_iff h hi hk]
theorem rel_unit {e y : Nat} (he : e < m) (hee : tm m ln e e = e) (hy : y < m) (hr : relK m ln 4 y e = true) : tm m ln e y = y ∧ tm m ln y e = y := by
  obtain ⟨⟨⟨a, ha, h1⟩, _⟩, ⟨b, hb, h2⟩, _⟩ := (rel4_iff h hy he).1 hr
  constructor
  · rw [← h1, ← h.assoc e e a he he ha, hee]
  · rw [← h2, h.assoc b e e hb he he, hee]
theorem rel_prod {e y z : Nat} (he : e < m) (hee : tm m ln e e = e) (hy : y < m) (hz : z < m) (hry : relK m ln 4 y e = true) (hrz : relK m ln 4 z e = true) : relK m ln 4 (tm m ln y z) e = true := by
  obtain ⟨ey, ye⟩ := rel_unit h he hee hy hry
  obtain ⟨ez, ze⟩ := rel_unit h he hee hz hrz
  obtain ⟨⟨_, b1, hb1, y1⟩, _, c1, hc1, y2⟩ := (rel4_iff h hy he).1 hry
  obtain ⟨⟨_, b2, hb2, z1⟩, _, c2, hc2, z2⟩ := (rel4_iff h hz he).1 hrz
  have hp := h.tm_lt hy hz
  refine (rel4_iff h hp he).2 ⟨⟨⟨_, hp, ?_⟩, tm m ln b2 b1, h.tm_lt hb2 hb1, ?_⟩, ⟨_, hp, ?_⟩, tm m ln c2 c1, h.tm_lt hc2 hc1, ?_⟩
  · rw [← h.assoc e y z he hy hz, ey]
  · rw [← h.assoc _ b2 b1 hp hb2 hb1, h.assoc y z b2 hy hz hb2, z1, ye, y1]
  · rw [h.assoc y z e hy hz he, ze]
  · rw [h.assoc c2 c1 _ hc2 hc1 hp, ← h.assoc c1 y z hc1 hy hz, y2, ez, z2]
theorem rel_inv {e y : Nat} (he : e < m) (hee : tm m ln e e = e) (hy : y < m) (hry : relK m ln 4 y e = true) : ∃ z, z < m ∧ relK m ln 4 z e = true ∧ tm m ln y z = e := by
  obtain ⟨ey, ye⟩ := rel_unit h he hee hy hry
  obtain ⟨⟨_, b, hb, y1⟩, _, d, hd, y2⟩ := (rel4_iff h hy he).1 hry
  have heb := h.tm_lt he hb
  have hz := h.tm_lt heb he
  have p1 : tm m ln y (tm m ln (tm m ln e b) e) = e := by
    rw [← h.assoc y (tm m ln e b) e hy heb he, ← h.assoc y e b hy he hb, ye, y1, hee]
  have p2 : tm m ln (tm m ln (tm m ln e b) e) y = e := by
    rw [h.assoc (tm m ln e b) e y heb he hy, ey]
    have e1 : tm m ln (tm m ln e b) y = tm m ln d (tm m ln y (tm m ln b y)) := by
      rw [← h.assoc d y _ hd hy (h.tm_lt hb hy), y2, h.assoc e b y he hb hy]
    rw [e1, ← h.assoc y b y hy hb hy, y1, ey, y2]
  have p3 : tm m ln e (tm m ln (tm m ln e b) e) = tm m ln (tm m ln e b) e := by
    rw [← h.assoc e (tm m ln e b) e he heb he, ← h.assoc e e b he he hb, hee]
  have p4 : tm m ln (tm m ln (tm m ln e b) e) e = tm m ln (tm m ln e b) e := by
    rw [h.assoc (tm m ln e b) e e heb he he, hee]
  exact ⟨_, hz, (rel4_iff h hz he).2 ⟨⟨⟨_, hz, p3⟩, y, hy, p2⟩, ⟨_, hz, p4⟩, y, hy, p1⟩, p1⟩
theorem idem_reg {i : Nat} (hi : i < m) (he : idemB m ln i = true) : isReg m ln i = true := by
  have hee : tm m ln i i = i := by simpa [idemB] using he
  unfold isReg
  rw [Bool.not_eq_true', Bool.eq_false_iff]
  intro ha
  have := all_range.1 ha i hi
  unfold regB at this
  rw [hee, hee] at this
  simp at this
theorem zero_idem : idemB m ln 0 = true := by unfold idemB; rw [decide_eq_true_eq]; exact h.left 0 h.lo
theorem unit_iff {i : Nat} : isUnit m ln i = true ↔ ∃ k, k < m ∧ tm m ln i k = 0 ∧ tm m ln k i = 0 := by
  unfold isUnit
  rw [Bool.not_eq_true']
  constructor
  · intro hf
    rcases Classical.em (∃ k, k < m ∧ tm m ln i k = 0 ∧ tm m ln k i = 0) with h1 | h1
    · exact h1
    · exfalso
      rw [Bool.eq_false_iff] at hf
      refine hf (all_range.2 fun k hk => ?_)
      cases hb : unB m ln i k
      · exfalso
        unfold unB at hb
        simp at hb
        exact h1 ⟨k, hk, hb.1, hb.2⟩
      · rfl
  · rintro ⟨k, hk, h1, h2⟩
    refine all_range_false hk ?_
    unfold unB
    simp [h1, h2]
theorem unit_rel {i : Nat} (hi : i < m) : relK m ln 4 i 0 = isUnit m ln i := by
  rw [Bool.eq_iff_iff, rel4_iff h hi h.lo, unit_iff h]
  constructor
  · rintro ⟨⟨_, b, hb, h1⟩, _, d, hd, h2⟩
    have e : d = b := by
      have h3 := h.assoc d i b hd hi hb
      rw [h2, h1, h.left b hb, h.right d hd] at h3
      exact h3.symm
    subst e
    exact ⟨d, hb, h1, h2⟩
  · rintro ⟨k, hk, h1, h2⟩
    exact ⟨⟨⟨i, hi, h.left i hi⟩, k, hk, h1⟩, ⟨i, hi, h.right i hi⟩, k, hk, h2⟩
theorem idem_unit {e : Nat} (he : e < m) (hee : idemB m ln e = true) (hu : isUnit m ln e = true) : e = 0 := by
  have h1 : tm m ln e e = e := by simpa [idemB] using hee
  obtain ⟨k, hk, h2, h3⟩ := (unit_iff h).1 hu
  have h4 := h.assoc k e e hk he he
  rw [h3, h1, h3, h.left e he] at h4
  exact h4
end
theorem listTo_mono {f g : Nat → Bool} {m : Nat} (h : ∀ x, x < m → f x = true → g x = true) : (listTo f m).length ≤ (listTo g m).length := by
  unfold listTo
  rw [List.length_map, List.length_map]
  have key : ∀ l : List Nat, (∀ x ∈ l, x < m) → (l.filter f).length ≤ (l.filter g).length := by
    intro l
    induction l with
    | nil => intro _; exact Nat.le_refl _
    | cons x l ih =>
      intro hl
      have h1 := ih fun y hy => hl y (List.mem_cons_of_mem _ hy)
      rw [List.filter_cons, List.filter_cons]
      cases hf : f x
      · cases hg : g x <;> simp <;> omega
      · rw [h x (hl x List.mem_cons_self) hf]
        simp; omega
  exact key _ fun x hx => List.mem_range.1 hx
theorem listTo_all {f : Nat → Bool} {m : Nat} (h : (listTo f m).length = m) {x : Nat} (hx : x < m) : f x = true := by
  unfold listTo at h
  rw [List.length_map] at h
  have h1 : ((List.range m).filter f).length = (List.range m).length := by rw [h, List.length_range]
  exact List.length_filter_eq_length_iff.1 h1 x (List.mem_range.2 hx)
theorem listTo_one {f : Nat → Bool} {m : Nat} (h0 : f 0 = true) (hm : 1 ≤ m) (h : ∀ x, x < m → f x = true → x = 0) : (listTo f m).length = 1 := by
  have e : listTo f m = listTo (fun x => decide (x = 0)) m := listTo_congr fun x hx => by
    cases hf : f x
    · symm; rw [decide_eq_false_iff_not]; rintro rfl; rw [h0] at hf; cases hf
    · rw [h x hx hf]; rfl
  rw [e]
  clear e h h0
  unfold listTo
  rw [List.length_map]
  obtain ⟨k, rfl⟩ : ∃ k, m = k + 1 := ⟨m - 1, by omega⟩
  rw [List.range_succ_eq_map, List.filter_cons]
  simp
/-- the group with an idempotent -/
def mgF (n : Int) (l : List Int) (e : Int) : List Int := if decide (e ∈ idemF n l) then thoseL n l (fun i => relK n.toNat (l.map Int.toNat) 4 i e.toNat) else []
/-- the facts that the law asks for -/
structure RegG (n : Int) (l : List Int) : Prop where
  ne : (idemF n l).length ≠ 0
  zero : (0 : Int) ∈ idemF n l
  le : (idemF n l).length ≤ (regularOfF n l).length
  few : ((regularOfF n l).length : Int) ≤ n
  reg : ∀ x ∈ idemF n l, x ∈ regularOfF n l
  self : ∀ x ∈ idemF n l, x ∈ mgF n l x
  units : mgF n l 0 = unitsOfF n l
/-- the facts of one of its groups -/
structure RegE (m : Nat) (ln : List Nat) (x : Nat) (G : List Int) : Prop where
  el : ∀ y ∈ G, ∃ j : Nat, y = (j : Int) ∧ j < m ∧ tm m ln x j = j
  prod : ∀ i j : Nat, (i : Int) ∈ G → (j : Int) ∈ G → ((tm m ln i j : Nat) : Int) ∈ G
  inv : ∀ i : Nat, (i : Int) ∈ G → ∃ j : Nat, (j : Int) ∈ G ∧ tm m ln i j = x
theorem TabG.forms {m : Nat} {ln : List Nat} (h : TabOk m ln) : idemF (m : Nat) (ln.map Int.ofNat) = listTo (idemB m ln) m ∧ regularOfF (m : Nat) (ln.map Int.ofNat) = listTo (isReg m ln) m ∧ unitsOfF (m : Nat) (ln.map Int.ofNat) = listTo (isUnit m ln) m ∧
    ∀ x : Nat, x < m → idemB m ln x = true → mgF (m : Nat) (ln.map Int.ofNat) (x : Nat) = listTo (fun i => relK m ln 4 i x) m := by
  have ht := TabG.tab ⟨ln, rfl, h⟩
  have e1 : idemF (m : Nat) (ln.map Int.ofNat) = listTo (idemB m ln) m := by
    unfold idemF; rw [thoseL_yes ht, map_toNat]; rfl
  refine ⟨e1, by unfold regularOfF; rw [thoseL_yes ht, map_toNat]; rfl, by unfold unitsOfF; rw [thoseL_yes ht, map_toNat]; rfl, fun x hx hi => ?_⟩
  unfold mgF
  rw [e1, decide_eq_true (listTo_at.2 ⟨hx, hi⟩), if_pos rfl, thoseL_yes ht, map_toNat]
  rfl
theorem TabG.reg {m : Nat} {l : List Int} (h : TabG m l) : RegG (m : Nat) l := by
  obtain ⟨ln, rfl, h⟩ := h
  obtain ⟨e1, e2, e3, e4⟩ := TabG.forms h
  have h0 : (0 : Int) ∈ listTo (idemB m ln) m := listTo_at.2 ⟨h.lo, zero_idem h⟩
  refine ⟨?_, ?_, ?_, ?_, ?_, ?_, ?_⟩
  · rw [e1]; intro h1; rw [List.eq_nil_of_length_eq_zero h1] at h0; cases h0
  · rw [e1]; exact h0
  · rw [e1, e2]; exact listTo_mono fun x hx => idem_reg h hx
  · rw [e2]; exact Int.ofNat_le.2 (listTo_len _ _)
  · rw [e1, e2]
    intro x hx
    obtain ⟨j, rfl, hj, hi⟩ := (listTo_mem _ _ _).1 hx
    exact listTo_at.2 ⟨hj, idem_reg h hj hi⟩
  · rw [e1]
    intro x hx
    obtain ⟨j, rfl, hj, hi⟩ := (listTo_mem _ _ _).1 hx
    rw [e4 j hj hi]
    exact listTo_at.2 ⟨hj, relK_refl _ _ _ _⟩
  · rw [e3]
    have := e4 0 h.lo (zero_idem h)
    rw [show ((0 : Nat) : Int) = 0 from rfl] at this
    rw [this]
    exact listTo_congr fun x hx => unit_rel h hx
theorem TabG.el {m : Nat} {ln : List Nat} (h : TabOk m ln) {x : Int} (hx : x ∈ idemF (m : Nat) (ln.map Int.ofNat)) : ∃ j : Nat, x = (j : Int) ∧ j < m ∧ RegE m ln j (mgF (m : Nat) (ln.map Int.ofNat) x) := by
  obtain ⟨e1, e2, e3, e4⟩ := TabG.forms h
  rw [e1] at hx
  obtain ⟨j, rfl, hj, hi⟩ := (listTo_mem _ _ _).1 hx
  refine ⟨j, rfl, hj, ?_⟩
  rw [e4 j hj hi]
  have hee : tm m ln j j = j := by simpa [idemB] using hi
  refine ⟨fun y hy => ?_, fun i k hi hk => ?_, fun i hi => ?_⟩
  · obtain ⟨k, rfl, hk, hr⟩ := (listTo_mem _ _ _).1 hy
    exact ⟨k, rfl, hk, (rel_unit h hj hee hk hr).1⟩
  · obtain ⟨h1, h2⟩ := listTo_at.1 hi
    obtain ⟨h3, h4⟩ := listTo_at.1 hk
    exact listTo_at.2 ⟨h.tm_lt h1 h3, rel_prod h hj hee h1 h3 h2 h4⟩
  · obtain ⟨h1, h2⟩ := listTo_at.1 hi
    obtain ⟨z, hz, h3, h4⟩ := rel_inv h hj hee h1 h2
    exact ⟨z, listTo_at.2 ⟨hz, h3⟩, h4⟩
theorem TabG.grp {m : Nat} {l : List Int} (h : TabG m l) : decide (((unitsOfF (m : Nat) l).length : Int) = (m : Nat)) = (decide ((idemF (m : Nat) l).length = 1) && decide (((unitsOfF (m : Nat) l).length : Int) = (m : Nat))) := by
  obtain ⟨ln, rfl, h⟩ := h
  obtain ⟨e1, e2, e3, e4⟩ := TabG.forms h
  rw [e1, e3]
  cases hu : decide (((listTo (isUnit m ln) m).length : Int) = (m : Nat))
  · simp
  · have h1 : (listTo (isUnit m ln) m).length = m := Int.ofNat.inj (of_decide_eq_true hu)
    have h2 := listTo_one (f := idemB m ln) (m := m) (zero_idem h) h.lo fun x hx hi => idem_unit h hx hi (listTo_all h1 hx)
    rw [decide_eq_true h2]
    rfl
end Go.Proofs.YtggfhephdcnpcaaGreat
namespace Go.Proofs.YtggfhephdcnpcaaGreat
open Go.RowKit
set_option linter.unusedVariables false
theorem containsI_any (l : List Int) (a : Option Addr) (cap : Nat) (x : Int) (w : World) (hl : IntsIn w a l) (hlen : l.length ≤ 2 ^ 47) :
    Calls Tryz.prog 43 #[.slice a l.length cap, .int .i64 x] w fun e w' => e = .returned (.bool (decide (x ∈ l))) ∧ w' = w := by
  by_cases h0 : l.length = 0
  · obtain rfl := List.eq_nil_of_length_eq_zero h0
    refine (Tryz.slices_Contains_int_empty a cap x w).mono ?_
    rintro e w' ⟨rfl, rfl⟩
    exact ⟨ret_bool (by simp), rfl⟩
  · obtain ⟨b, off, rfl, _, hc⟩ := hl.cell (i := 0) (by omega)
    refine (Tryz.slices_Contains_int b off l.length cap l x w (Nat.le_refl _) (by omega) (fun j hj => hc j hj)).mono ?_
    rintro e w' ⟨rfl, rfl⟩
    exact ⟨ret_bool (by rw [List.take_length, Bool.eq_iff_iff]; simp), rfl⟩
set_option maxRecDepth 100000 in
set_option maxHeartbeats 2000000 in
theorem implRel_ne (m : Nat) (ln : List Nat) (a : Option Addr) (len cap i k : Nat) (kind : Int) (w : World) (hl : NatsIn w a ln) (hT : Tb m ln) (hlen : len = m * m) (hi : i < m) (hk : k < m) (hne : kind ≠ 4) :
    Calls Tryz.prog 48 #[.agg #[.int .i64 m, .slice a len cap], .int .i64 i, .int .i64 k, .int .i64 kind] w fun e w' => e = .returned (.bool (relK m ln kind i k)) ∧ Below w.heap.size w w' := by
  have hm := hT.hi
  have e4 : (kind == 4) = false := by simpa using hne
  have HR : Hid (relK m ln kind i k = decide (idLs m ln kind i = idLs m ln kind k)) := Lib.hid (relK_not4 hne i k)
  have hb1 := alloc_belI w (.cells #[.int .i64 (m : Nat), .slice a len cap] 25)
  have HX : Hid (∀ W, Below (w.alloc (.cells #[.int .i64 (m : Nat), .slice a len cap] 25)).heap.size (w.alloc (.cells #[.int .i64 (m : Nat), .slice a len cap] 25)) W → W.cell? ⟨w.heap.size, 0, none⟩ = some (.int .i64 (m : Nat)) ∧ W.cell? ⟨w.heap.size, 1, none⟩ = some (.slice a len cap)) := Lib.hid (fun W hW => ⟨by rw [hW.cell (by simp)]; simp, by rw [hW.cell (by simp)]; simp⟩)
  have HB := Lib.hid hb1
  have HN := Lib.hid (hl.later hb1)
  have HI := Lib.hid (fun W (h : NatsIn W a ln) => implIdeal_any m ln a len cap i kind W h hT hlen hi)
  have HK := Lib.hid (fun W (h : NatsIn W a ln) => implIdeal_any m ln a len cap k kind W h hT hlen hk)
  have HSM : Hid (∀ ax ay cx cy W, IntsIn W ax (idLs m ln kind i) → IntsIn W ay (idLs m ln kind k) → Calls Tryz.prog 47 #[.slice ax (idLs m ln kind i).length cx, .slice ay (idLs m ln kind k).length cy] W fun e w' => e = .returned (.bool (relK m ln kind i k)) ∧ Below W.heap.size W w') := Lib.hid (fun ax ay cx cy W h1 h2 => by
    have q1 := idLs_len (m := m) (ln := ln) kind i
    have q2 := idLs_len (m := m) (ln := ln) kind k
    have h := eqInts_any _ _ ax ay cx cy W h1 h2 (by omega) (by omega)
    rw [← HR.out] at h
    exact h)
  clear hl hT hlen hb1 hne HR
  generalize relK m ln kind i k = r at *
  generalize idLs m ln kind i = Li at *
  generalize idLs m ln kind k = Lk at *
  go_enter Tryz.func48, Tryz.ntmps48
  go_wp2_with fail
  generalize w.alloc (.cells #[.int .i64 (m : Nat), .slice a len cap] 25) = w1 at *
  have kr := Below.refl w1.heap.size w1
  obtain ⟨z0, z1⟩ := HX.out _ kr
  go_region_held3 (fun w' => w'.cell? ⟨w.heap.size, 0, none⟩ = some (.int .i64 (m : Nat)) ∧ w'.cell? ⟨w.heap.size, 1, none⟩ = some (.slice a len cap)) (go_keep) (first
    | (go_at_call 42; (with_reducible refine (HI.out _ (HN.out.later (by repeat (first | exact kr | refine Below.drew ?_ | refine below_drewN ?_ _)))).mono ?_); rintro e w3 ⟨xa, ca, rfl, hra, hb3⟩; have LA := Lib.hid (owns_ints (l := Li) hra); clear hra; (try (have q := lb; clear q; replace lb := Below.now (by repeat (first | exact lb | refine Below.drew ?_ | refine below_drewN ?_ _)) hb3)); have la := Below.refl w3.heap.size w3; replace kr : Below w1.heap.size w1 w3 := Below.now (by repeat (first | exact kr | refine Below.drew ?_ | refine below_drewN ?_ _)) hb3; have t0 := (HX.out w3 kr).1; have t1 := (HX.out w3 kr).2; clear hb3)
    | (go_at_call 42; (with_reducible refine (HK.out _ (HN.out.later (by repeat (first | exact kr | refine Below.drew ?_ | refine below_drewN ?_ _)))).mono ?_); rintro e w3 ⟨xb, cb, rfl, hrb, hb3⟩; have LB := Lib.hid (owns_ints (l := Lk) hrb); clear hrb; (try (have q := la; clear q; replace la := Below.now (by repeat (first | exact la | refine Below.drew ?_ | refine below_drewN ?_ _)) hb3)); have lb := Below.refl w3.heap.size w3; replace kr : Below w1.heap.size w1 w3 := Below.now (by repeat (first | exact kr | refine Below.drew ?_ | refine below_drewN ?_ _)) hb3; have t0 := (HX.out w3 kr).1; have t1 := (HX.out w3 kr).2; clear hb3)
    | (go_at_call 47; refine (HSM.out _ _ _ _ _ (LA.out.later (by repeat (first | exact la | refine Below.drew ?_ | refine below_drewN ?_ _))) (LB.out.later (by repeat (first | exact lb | refine Below.drew ?_ | refine below_drewN ?_ _)))).mono ?_; rintro e w3 ⟨rfl, hb3⟩; replace kr : Below w1.heap.size w1 w3 := Below.now (by repeat (first | exact kr | refine Below.drew ?_ | refine below_drewN ?_ _)) hb3; have t0 := (HX.out w3 kr).1; have t1 := (HX.out w3 kr).2; clear hb3))
  all_goals
    go_wp2_with fail
    go_ret
    exact ⟨rfl, Below.now HB.out kr⟩
set_option maxHeartbeats 800000 in
theorem implRelated_any (m : Nat) (ln : List Nat) (a : Option Addr) (len cap i k : Nat) (kind : Int) (w : World) (hl : NatsIn w a ln) (hT : Tb m ln) (hlen : len = m * m) (hi : i < m) (hk : k < m) :
    Calls Tryz.prog 48 #[.agg #[.int .i64 m, .slice a len cap], .int .i64 i, .int .i64 k, .int .i64 kind] w fun e w' => e = .returned (.bool (relK m ln kind i k)) ∧ Below w.heap.size w w' := by
  by_cases h4 : kind = 4
  · subst h4
    have hb1 := alloc_belI w (.cells #[.int .i64 (m : Nat), .slice a len cap] 25)
    have HX : Hid (∀ W, Below (w.alloc (.cells #[.int .i64 (m : Nat), .slice a len cap] 25)).heap.size (w.alloc (.cells #[.int .i64 (m : Nat), .slice a len cap] 25)) W → W.cell? ⟨w.heap.size, 0, none⟩ = some (.int .i64 (m : Nat)) ∧ W.cell? ⟨w.heap.size, 1, none⟩ = some (.slice a len cap)) := Lib.hid (fun W hW => ⟨by rw [hW.cell (by simp)]; simp, by rw [hW.cell (by simp)]; simp⟩)
    have HB := Lib.hid hb1
    have HN := Lib.hid (hl.later hb1)
    have H1 := Lib.hid (fun W (h : NatsIn W a ln) => implRel_ne m ln a len cap i k 1 W h hT hlen hi hk (by omega))
    have H2 := Lib.hid (fun W (h : NatsIn W a ln) => implRel_ne m ln a len cap i k 2 W h hT hlen hi hk (by omega))
    have HR := Lib.hid (relK_four m ln i k)
    clear hl hT hlen hb1
    generalize relK m ln 1 i k = r1 at *
    generalize relK m ln 2 i k = r2 at *
    go_enter Tryz.func48, Tryz.ntmps48
    go_wp2_with fail
    generalize w.alloc (.cells #[.int .i64 (m : Nat), .slice a len cap] 25) = w1 at *
    refine (H1.out _ HN.out).mono ?_
    rintro e w2 ⟨rfl, hb2⟩
    have HB2 := Lib.hid hb2
    obtain ⟨z0, z1⟩ := HX.out _ hb2
    clear hb2
    cases r1
    · go_wp2_with fail
      go_ret
      exact ⟨ret_bool (by rw [HR.out]; rfl), Below.now HB.out HB2.out⟩
    · go_wp2_with fail
      refine (H2.out _ (HN.out.later HB2.out)).mono ?_
      rintro e w3 ⟨rfl, hb3⟩
      have HB3 := Lib.hid (Below.now HB2.out hb3)
      clear hb3 z0 z1
      go_wp2_with fail
      go_ret
      exact ⟨ret_bool (by rw [HR.out]; simp), Below.now HB.out HB3.out⟩
  · exact implRel_ne m ln a len cap i k kind w hl hT hlen hi hk h4
set_option maxHeartbeats 800000 in
theorem maxgrp_pred (m : Nat) (ln : List Nat) (a : Option Addr) (len cap bt be x : Nat) (w : World) (hx0 : w.cell? ⟨bt, 0, none⟩ = some (.int .i64 m)) (hx1 : w.cell? ⟨bt, 1, none⟩ = some (.slice a len cap)) (hy : w.cell? ⟨be, 0, none⟩ = some (.int .i64 (x : Nat)))
    (hn : NatsIn w a ln) (hT : Tb m ln) (hlen : len = m * m) (hx : x < m) :
    PredEl w.heap.size 58 #[.pointer (some ⟨bt, 0, none⟩), .pointer (some ⟨be, 0, none⟩)] (fun i => relK m ln 4 i x) m w := by
  intro z hz W hW
  have k0 : W.cell? ⟨bt, 0, none⟩ = some (.int .i64 m) := by rw [hW.cell (World.block_lt_of_cell? w _ hx0)]; exact hx0
  have k1 : W.cell? ⟨bt, 1, none⟩ = some (.slice a len cap) := by rw [hW.cell (World.block_lt_of_cell? w _ hx1)]; exact hx1
  have k2 : W.cell? ⟨be, 0, none⟩ = some (.int .i64 (x : Nat)) := by rw [hW.cell (World.block_lt_of_cell? w _ hy)]; exact hy
  have HP := Lib.hid (implRelated_any m ln a len cap z x 4 W (hn.later hW) hT hlen hz hx)
  clear hx0 hx1 hn hT hlen hW hy
  go_enter Tryz.func58, Tryz.ntmps58
  go_wp2_with fail
  refine HP.out.mono ?_
  rintro e w2 ⟨rfl, hb2⟩
  have HB := Lib.hid hb2
  clear hb2 HP
  go_wp2_with fail
  go_ret
  exact ⟨rfl, HB.out⟩
theorem mgF_yes {n : Int} {l : List Int} {e : Int} (h : decide (e ∈ idemF n l) = true) : mgF n l e = thoseL n l (fun i => relK n.toNat (l.map Int.toNat) 4 i e.toNat) := by unfold mgF; rw [h, if_pos rfl]
theorem mgF_no {n : Int} {l : List Int} {e : Int} (h : decide (e ∈ idemF n l) = false) : mgF n l e = [] := by unfold mgF; rw [h]; rfl
theorem idemF_len (n : Int) (l : List Int) : (idemF n l).length ≤ 1000 := thoseL_len _ _ _
set_option maxRecDepth 100000 in
set_option maxHeartbeats 2000000 in
theorem implMaximalGroup_any (n : Int) (l : List Int) (a : Option Addr) (cap : Nat) (x : Int) (w : World) (hl : IntsIn w a l) (hlen : l.length ≤ 2 ^ 47) :
    Calls Tryz.prog 19 #[.agg #[.int .i64 n, .slice a l.length cap], .int .i64 x] w (RetSl 3 1 (mgF n l x).length (intVals (mgF n l x)) w) := by
  have HL := Lib.hid hl
  have HID := Lib.hid (fun W h => implIdempotentsOf_any n l a cap W h hlen)
  have hil := idemF_len n l
  have HCN : Hid (∀ ay cy W, IntsIn W ay (idemF n l) → Calls Tryz.prog 43 #[.slice ay (idemF n l).length cy, .int .i64 x] W fun e w' => e = .returned (.bool (decide (x ∈ idemF n l))) ∧ w' = W) := Lib.hid (fun ay cy W h => containsI_any _ ay cy x W h (by omega))
  have HTH := Lib.hid (fun W (h : IntsIn W a l) base fn caps p hb hp he => those_any n l a cap W h hlen base fn caps p hb hp he)
  have hb1 : Below w.heap.size w ((w.alloc (.cells #[.int .i64 n, .slice a l.length cap] 25)).alloc (.cells #[.int .i64 x] 3)) := Below.now (alloc_belI _ _) (alloc_belI _ _)
  have HX : Hid (∀ W, Below ((w.alloc (.cells #[.int .i64 n, .slice a l.length cap] 25)).alloc (.cells #[.int .i64 x] 3)).heap.size ((w.alloc (.cells #[.int .i64 n, .slice a l.length cap] 25)).alloc (.cells #[.int .i64 x] 3)) W → (W.cell? ⟨w.heap.size, 0, none⟩ = some (.int .i64 n) ∧ W.cell? ⟨w.heap.size, 1, none⟩ = some (.slice a l.length cap)) ∧ W.cell? ⟨w.heap.size + 1, 0, none⟩ = some (.int .i64 x)) := Lib.hid (fun W hW => by
    have h1 : ((w.alloc (.cells #[.int .i64 n, .slice a l.length cap] 25)).alloc (.cells #[.int .i64 x] 3)).heap[w.heap.size]? = some (.cells #[.int .i64 n, .slice a l.length cap] 25 (0, 0)) := ((alloc_belI (w.alloc (.cells #[.int .i64 n, .slice a l.length cap] 25)) _).block w.heap.size (by simp)).trans (by unfold World.alloc; simp)
    have h2 : ((w.alloc (.cells #[.int .i64 n, .slice a l.length cap] 25)).alloc (.cells #[.int .i64 x] 3)).heap[w.heap.size + 1]? = some (.cells #[.int .i64 x] 3 (0, 0)) := by
      have := alloc_at (w.alloc (.cells #[.int .i64 n, .slice a l.length cap] 25)) (.cells #[.int .i64 x] 3)
      rw [show (w.alloc (.cells #[.int .i64 n, .slice a l.length cap] 25)).heap.size = w.heap.size + 1 by simp] at this
      exact this
    have h3 := (hW.block w.heap.size (by simp; omega)).trans h1
    have h4 := (hW.block (w.heap.size + 1) (by simp)).trans h2
    exact ⟨⟨by simp [World.cell?, h3], by simp [World.cell?, h3]⟩, by simp [World.cell?, h4]⟩)
  have HB := Lib.hid hb1
  have HL1 := Lib.hid (hl.later hb1)
  have HP : Hid (decide (x ∈ idemF n l) = true → ∀ W, Below ((w.alloc (.cells #[.int .i64 n, .slice a l.length cap] 25)).alloc (.cells #[.int .i64 x] 3)).heap.size ((w.alloc (.cells #[.int .i64 n, .slice a l.length cap] 25)).alloc (.cells #[.int .i64 x] 3)) W →
      Calls Tryz.prog 50 #[.agg #[.int .i64 n, .slice a l.length cap], .func (.func 58) #[] #[.pointer (some ⟨w.heap.size, 0, none⟩), .pointer (some ⟨w.heap.size + 1, 0, none⟩)]] W (RetSl 3 1 (mgF n l x).length (intVals (mgF n l x)) W)) := Lib.hid (fun hd W hW => by
    rw [mgF_yes hd]
    obtain ⟨⟨x0, x1⟩, x2⟩ := HX.out W hW
    refine those_any n l a cap W (HL1.out.later hW) hlen _ _ _ (fun i => relK n.toNat (l.map Int.toNat) 4 i x.toNat) (Nat.le_refl _) ?_ (enters_of Tryz.func58 (by kernel_rfl) rfl)
    intro ht
    obtain ⟨m, ln, rfl, rfl, hT⟩ := tabOk_out ht
    have h1 : x ∈ idemF (m : Nat) (ln.map Int.ofNat) := of_decide_eq_true hd
    obtain ⟨j, rfl, hj, _⟩ := TabG.el hT h1
    rw [map_toNat]
    exact maxgrp_pred m ln a (ln.map Int.ofNat).length cap w.heap.size (w.heap.size + 1) j W x0 x1 x2 (HL1.out.later hW) hT.toTb (by rw [List.length_map]; exact hT.len) hj)
  have HNO : Hid (decide (x ∈ idemF n l) = false → ∀ w', Below w.heap.size w w' → RetSl 3 1 (mgF n l x).length (intVals (mgF n l x)) w (.returned (.slice none 0 0)) w') := Lib.hid (fun hd w' hb => by rw [mgF_no hd]; exact retSl_nil _ _ _ hb)
  clear hl hb1 HTH
  generalize mgF n l x = G at *
  generalize idemF n l = E at *
  go_enter Tryz.func19, Tryz.ntmps19
  go_wp2_with fail
  generalize (w.alloc (.cells #[.int .i64 n, .slice a l.length cap] 25)).alloc (.cells #[.int .i64 x] 3) = w1 at *
  go_upto_region 1 with fail
  go_cut [9] (fun v wx => v = .bool (!decide (x ∈ E)) ∧ Below w1.heap.size w1 wx)
  case first =>
    have kr := Below.refl w1.heap.size w1
    obtain ⟨⟨z0, z1⟩, z2⟩ := HX.out _ kr
    go_region_held3 (fun w' => (w'.cell? ⟨w.heap.size, 0, none⟩ = some (.int .i64 n) ∧ w'.cell? ⟨w.heap.size, 1, none⟩ = some (.slice a l.length cap)) ∧ w'.cell? ⟨w.heap.size + 1, 0, none⟩ = some (.int .i64 x)) (go_keep) (first
      | (go_at_call 18; refine (HID.out _ (HL1.out.later (by repeat (first | exact kr | refine Below.drew ?_ | refine below_drewN ?_ _)))).mono ?_; rintro e w3 ⟨xa, ca, rfl, hra, hb3⟩; have LA := Lib.hid (owns_ints (l := E) hra); clear hra; have la := Below.refl w3.heap.size w3; replace kr : Below w1.heap.size w1 w3 := Below.now (by repeat (first | exact kr | refine Below.drew ?_ | refine below_drewN ?_ _)) hb3; have t0 := (HX.out w3 kr).1.1; have t1 := (HX.out w3 kr).1.2; have t2 := (HX.out w3 kr).2; clear hb3)
      | (go_at_call 43; refine (HCN.out _ _ _ (LA.out.later (by repeat (first | exact la | refine Below.drew ?_ | refine below_drewN ?_ _)))).mono ?_; rintro e w3 ⟨rfl, rfl⟩))
    all_goals
      go_wp2_with fail
      go_meet
      exact ⟨rfl, by repeat (first | exact kr | refine Below.drew ?_ | refine below_drewN ?_ _)⟩
  case rest =>
    obtain ⟨rfl, hb2⟩ := hcut
    have HB2 := Lib.hid hb2
    obtain ⟨⟨z0, z1⟩, z2⟩ := HX.out _ hb2
    cases hd : decide (x ∈ E)
    · have F := Lib.hid (HNO.out hd)
      go_wp2_with fail
      go_ret
      exact F.out _ (Below.now HB.out HB2.out)
    · have F := Lib.hid (HP.out hd _ hb2)
      clear hb2 hd
      go_wp2_with fail
      refine F.out.mono ?_
      rintro e w3 ⟨a2, c2, rfl, ho, hb3⟩
      have FE : Hid (RetSl 3 1 G.length (intVals G) w (.returned (.slice a2 G.length c2)) w3) := Lib.hid ⟨_, _, rfl, owns_mono ho (Below.now HB.out HB2.out).size, Below.now (Below.now HB.out HB2.out) hb3⟩
      clear ho hb3 z0 z1 z2
      go_wp2_with fail
      go_ret
      exact FE.out
end Go.Proofs.YtggfhephdcnpcaaGreat
