/-
  What the laws on groups ask, in plain words.
-/
import Derived.Test.YtngbimgabcacpaaGreatGro27
import Derived.Test.YtngbimgabcacpaaGreatGro29
import Derived.Test.YtngbimgabcacpaaGreatGro30
import Derived.Test.YtngbimgabcacpaaGreatGro28
import Derived.Test.YtngbimgabcacpaaGreatGro23
import Derived.Test.YtngbimgabcacpaaGreatGro26
import Derived.Test.YtngbimgabcacpaaGreatGro20
namespace Go.Proofs.YtngbimgabcacpaaGreat
open Go.RowKit
set_option linter.unusedVariables false
set_option linter.unusedSectionVars false
section
variable {m : Nat} {ln : List Nat} (h : Grp m ln)
include h
def Grp.mu (a b : Fin m) : Fin m := ⟨tm m ln a.1 b.1, h.tm_lt a.2 b.2⟩
def Grp.iv (a : Fin m) : Fin m := ⟨invN m ln a.1, (h.invN_spec a.2).1⟩
def Grp.un : Fin m := ⟨0, h.lo⟩
theorem Grp.mu_assoc (a b c : Fin m) : h.mu (h.mu a b) c = h.mu a (h.mu b c) := Fin.ext (h.assoc _ _ _ a.2 b.2 c.2)
theorem Grp.un_mu (a : Fin m) : h.mu h.un a = a := Fin.ext (h.left _ a.2)
theorem Grp.mu_un (a : Fin m) : h.mu a h.un = a := Fin.ext (h.right _ a.2)
theorem Grp.mu_iv (a : Fin m) : h.mu a (h.iv a) = h.un := Fin.ext (h.invN_spec a.2).2.1
theorem Grp.iv_mu (a : Fin m) : h.mu (h.iv a) a = h.un := Fin.ext (h.invN_spec a.2).2.2.1
theorem Grp.mu_iv_l (a b : Fin m) : h.mu a (h.mu (h.iv a) b) = b := by rw [← h.mu_assoc, h.mu_iv, h.un_mu]
theorem Grp.iv_mu_l (a b : Fin m) : h.mu (h.iv a) (h.mu a b) = b := by rw [← h.mu_assoc, h.iv_mu, h.un_mu]
theorem Grp.cancel_l {a b c : Fin m} (e : h.mu a b = h.mu a c) : b = c := by
  have := congrArg (h.mu (h.iv a)) e
  rw [h.iv_mu_l, h.iv_mu_l] at this
  exact this
theorem Grp.iv_of {a b : Fin m} (e : h.mu a b = h.un) : h.iv a = b := h.cancel_l (a := a) (by rw [h.mu_iv, e])
theorem Grp.iv_iv (a : Fin m) : h.iv (h.iv a) = a := h.iv_of (h.iv_mu a)
theorem Grp.iv_un : h.iv h.un = h.un := h.iv_of (h.mu_un _)
theorem Grp.iv_pr (a b : Fin m) : h.iv (h.mu a b) = h.mu (h.iv b) (h.iv a) := h.iv_of (by rw [h.mu_assoc, h.mu_iv_l, h.mu_iv])
/-- the conjugate of i by x -/
def Grp.co (x i : Fin m) : Fin m := h.mu (h.mu x i) (h.iv x)
theorem Grp.co_val (x i : Fin m) : (h.co x i).1 = cj m ln x.1 i.1 := rfl
theorem Grp.co_co (x y i : Fin m) : h.co x (h.co y i) = h.co (h.mu x y) i := by
  unfold Grp.co; simp only [h.iv_pr, h.mu_assoc]
theorem Grp.co_un (i : Fin m) : h.co h.un i = i := by unfold Grp.co; rw [h.un_mu, h.iv_un, h.mu_un]
theorem Grp.un_co (x : Fin m) : h.co x h.un = h.un := by unfold Grp.co; rw [h.mu_un, h.mu_iv]
theorem Grp.co_mu (x a b : Fin m) : h.mu (h.co x a) (h.co x b) = h.co x (h.mu a b) := by
  unfold Grp.co; simp only [h.mu_assoc, h.iv_mu_l]
theorem Grp.co_self {x i : Fin m} : h.co x i = i ↔ h.mu x i = h.mu i x := by
  unfold Grp.co
  constructor
  · intro e
    have := congrArg (fun z => h.mu z x) e
    simp only [h.mu_assoc, h.iv_mu, h.mu_un] at this
    exact this
  · intro e
    rw [e, h.mu_assoc, h.mu_iv, h.mu_un]

/-! ### orders -/
theorem Grp.pw_co {x i : Nat} (hx : x < m) (hi : i < m) (n : Nat) : pw m ln (cj m ln x i) n = cj m ln x (pw m ln i n) := by
  induction n with
  | zero => rw [pw_zero, pw_zero]; exact (congrArg Fin.val (h.un_co ⟨x, hx⟩)).symm
  | succ n ih =>
    rw [pw_succ, pw_succ, ih]
    exact congrArg Fin.val (h.co_mu ⟨x, hx⟩ ⟨pw m ln i n, h.pw_lt hi n⟩ ⟨i, hi⟩)
theorem Grp.co_zero {x i : Nat} (hx : x < m) (hi : i < m) (e : cj m ln x i = 0) : i = 0 := by
  have e2 : h.co ⟨x, hx⟩ ⟨i, hi⟩ = h.co ⟨x, hx⟩ h.un := by rw [h.un_co]; exact Fin.ext e
  have e3 := congrArg (h.co (h.iv ⟨x, hx⟩)) e2
  rw [h.co_co, h.co_co, h.iv_mu, h.co_un, h.co_un] at e3
  exact congrArg Fin.val e3
theorem Grp.ord_eq {i k : Nat} (hi : i < m) (hk : k < m) (he : ∀ n, pw m ln i n = 0 ↔ pw m ln k n = 0) : repN m ln i = repN m ln k := by
  obtain ⟨a1, a2, a3⟩ := h.order hi
  obtain ⟨b1, b2, b3⟩ := h.order hk
  rcases Nat.lt_trichotomy (repN m ln i) (repN m ln k) with h1 | h1 | h1
  · exact absurd ((he _).1 a2) (b3 _ a1 h1)
  · exact h1
  · exact absurd ((he _).2 b2) (a3 _ b1 h1)
theorem Grp.ord_co {x i : Nat} (hx : x < m) (hi : i < m) : repN m ln (cj m ln x i) = repN m ln i :=
  h.ord_eq (h.cj_lt hx hi) hi fun n => by
    rw [h.pw_co hx hi]
    exact ⟨h.co_zero hx (h.pw_lt hi n), fun e => by rw [e]; exact congrArg Fin.val (h.un_co ⟨x, hx⟩)⟩

/-! ### classes of conjugates -/
theorem Grp.isCj_iff {i y : Nat} : isCj m ln i m y = true ↔ ∃ x, x < m ∧ cj m ln x i = y := by
  unfold isCj cjs
  rw [List.contains_iff_mem, List.mem_map]
  constructor
  · rintro ⟨x, hx, e⟩; exact ⟨x, List.mem_range.1 hx, by omega⟩
  · rintro ⟨x, hx, e⟩; exact ⟨x, List.mem_range.2 hx, by omega⟩
theorem Grp.cj_fib {i x0 : Nat} (hi : i < m) (hx0 : x0 < m) : fibN (fun x => cj m ln x i) m (cj m ln x0 i) = fibN (fun x => cj m ln x i) m i := by
  refine Nat.le_antisymm ?_ ?_
  · refine listTo_inj_le (fun x => tm m ln (invN m ln x0) x) (fun x hx hf => ?_) (fun x y hx hy _ _ he => ?_)
    · have hf := of_decide_eq_true hf
      have e : h.co ⟨x, hx⟩ ⟨i, hi⟩ = h.co ⟨x0, hx0⟩ ⟨i, hi⟩ := Fin.ext hf
      refine ⟨h.tm_lt (h.invN_spec hx0).1 hx, decide_eq_true ?_⟩
      have e2 : h.co (h.mu (h.iv ⟨x0, hx0⟩) ⟨x, hx⟩) ⟨i, hi⟩ = ⟨i, hi⟩ := by rw [← h.co_co, e, h.co_co, h.iv_mu, h.co_un]
      exact congrArg Fin.val e2
    · have e : h.mu (h.iv ⟨x0, hx0⟩) ⟨x, hx⟩ = h.mu (h.iv ⟨x0, hx0⟩) ⟨y, hy⟩ := Fin.ext he
      exact congrArg Fin.val (h.cancel_l e)
  · refine listTo_inj_le (fun x => tm m ln x0 x) (fun x hx hf => ?_) (fun x y hx hy _ _ he => ?_)
    · have hf := of_decide_eq_true hf
      have e : h.co ⟨x, hx⟩ ⟨i, hi⟩ = ⟨i, hi⟩ := Fin.ext hf
      refine ⟨h.tm_lt hx0 hx, decide_eq_true ?_⟩
      have e2 : h.co (h.mu ⟨x0, hx0⟩ ⟨x, hx⟩) ⟨i, hi⟩ = h.co ⟨x0, hx0⟩ ⟨i, hi⟩ := by rw [← h.co_co, e]
      exact congrArg Fin.val e2
    · have e : h.mu ⟨x0, hx0⟩ ⟨x, hx⟩ = h.mu ⟨x0, hx0⟩ ⟨y, hy⟩ := Fin.ext he
      exact congrArg Fin.val (h.cancel_l e)
theorem Grp.cls_div {i : Nat} (hi : i < m) : m % (conjL m ln i).length = 0 := by
  have := fib_even (φ := fun x => cj m ln x i) (img := isCj m ln i m) (s := fibN (fun x => cj m ln x i) m i) (q := m) (m := m) (fun x hx => h.cj_lt hx hi)
    (fun y hy hc => by obtain ⟨x0, hx0, rfl⟩ := h.isCj_iff.1 hc; exact h.cj_fib hi hx0)
    (fun y hy hc => fib_zero fun x hx e => by
      rw [h.isCj_iff.2 ⟨x, hx, e⟩] at hc; cases hc)
  exact (mul_mod this).2
theorem Grp.cj_symm {i y : Nat} (hi : i < m) (hc : isCj m ln i m y = true) : isCj m ln y m i = true := by
  obtain ⟨x, hx, rfl⟩ := h.isCj_iff.1 hc
  refine h.isCj_iff.2 ⟨invN m ln x, (h.invN_spec hx).1, ?_⟩
  have e : h.co (h.iv ⟨x, hx⟩) (h.co ⟨x, hx⟩ ⟨i, hi⟩) = ⟨i, hi⟩ := by rw [h.co_co, h.iv_mu, h.co_un]
  exact congrArg Fin.val e
theorem Grp.cj_trans {i y z : Nat} (hi : i < m) (h1 : isCj m ln i m y = true) (h2 : isCj m ln y m z = true) : isCj m ln i m z = true := by
  obtain ⟨x, hx, rfl⟩ := h.isCj_iff.1 h1
  obtain ⟨w, hw, rfl⟩ := h.isCj_iff.1 h2
  refine h.isCj_iff.2 ⟨tm m ln w x, h.tm_lt hw hx, ?_⟩
  exact congrArg Fin.val (h.co_co ⟨w, hw⟩ ⟨x, hx⟩ ⟨i, hi⟩).symm
theorem Grp.cj_lt' {i y : Nat} (hi : i < m) (hc : isCj m ln i m y = true) : y < m := by
  obtain ⟨x, hx, rfl⟩ := h.isCj_iff.1 hc
  exact h.cj_lt hx hi
theorem Grp.conj_same {i y : Nat} (hi : i < m) (hc : isCj m ln i m y = true) : conjL m ln y = conjL m ln i := by
  unfold conjL
  refine listTo_congr fun x hx => ?_
  rw [Bool.eq_iff_iff]
  exact ⟨fun h1 => h.cj_trans hi hc h1, fun h1 => h.cj_trans (h.cj_lt' hi hc) (h.cj_symm hi hc) h1⟩
theorem Grp.conj_one {i : Nat} (hi : i < m) : ((conjL m ln i).length = 1) ↔ isCen m ln i = true := by
  unfold conjL
  rw [listTo_len_one hi (isCj_self h hi)]
  unfold isCen
  rw [all_range]
  unfold cenB
  constructor
  · intro h1 k hk
    rw [decide_eq_true_eq]
    have e : h.co ⟨k, hk⟩ ⟨i, hi⟩ = ⟨i, hi⟩ := Fin.ext (h1 _ (h.cj_lt hk hi) (h.isCj_iff.2 ⟨k, hk, rfl⟩))
    exact (congrArg Fin.val (h.co_self.1 e)).symm
  · intro h1 y hy hc
    obtain ⟨x, hx, rfl⟩ := h.isCj_iff.1 hc
    have e : h.mu ⟨x, hx⟩ ⟨i, hi⟩ = h.mu ⟨i, hi⟩ ⟨x, hx⟩ := Fin.ext (of_decide_eq_true (h1 x hx)).symm
    exact congrArg Fin.val (h.co_self.2 e)
/-- the first of a class -/
def Grp.fst (_ : Grp m ln) (i : Nat) : Nat := (nthZ (conjL m ln i) 0).toNat
theorem Grp.fst_spec {i : Nat} (hi : i < m) : h.fst i < m ∧ isCj m ln i m (h.fst i) = true ∧ nthZ (conjL m ln i) 0 = ((h.fst i : Nat) : Int) := by
  have hp := conjL_pos h hi
  have hm : nthZ (conjL m ln i) 0 ∈ conjL m ln i := by rw [nthZ_lt hp]; exact List.getElem_mem hp
  unfold conjL at hm
  obtain ⟨j, e, hj, hf⟩ := (listTo_mem _ _ _).1 hm
  have e2 : h.fst i = j := by
    show (nthZ (listTo (isCj m ln i m) m) 0).toNat = j
    rw [e]; rfl
  rw [e2]
  exact ⟨hj, hf, e⟩
theorem Grp.isFst_iff {i : Nat} (hi : i < m) : isFst m ln i = true ↔ h.fst i = i := by
  unfold isFst
  rw [(h.fst_spec hi).2.2, beq_iff_eq]
  omega
theorem Grp.fst_same {i y : Nat} (hi : i < m) (hy : y < m) : isCj m ln i m y = true ↔ h.fst y = h.fst i := by
  constructor
  · intro hc
    unfold Grp.fst
    rw [h.conj_same hi hc]
  · intro e
    have h1 := (h.fst_spec hi).2.1
    have h2 := (h.fst_spec hy).2.1
    rw [e] at h2
    exact h.cj_trans hi h1 (h.cj_symm hy h2)
end
theorem sum_filter (f : Nat → Nat) (p : Nat → Bool) : ∀ l : List Nat, ((l.filter p).map fun i => ((f i : Nat) : Int)).sum = ((((l.map fun i => if p i then f i else 0).sum : Nat)) : Int)
  | [] => rfl
  | a :: l => by
    cases h : p a
    · rw [List.filter_cons_of_neg (by simp [h]), sum_filter f p l]
      simp [h]
    · rw [List.filter_cons_of_pos (by simp [h])]
      simp only [List.map_cons, List.sum_cons, sum_filter f p l, h, if_true]
      omega
theorem filter_two (p q : Nat → Bool) (l : List Nat) : ((l.filter p).filter q) = l.filter fun x => p x && q x := by
  rw [List.filter_filter]
  refine List.filter_congr fun x _ => ?_
  rw [Bool.and_comm]
section
variable {m : Nat} {ln : List Nat} (h : Grp m ln)
include h
theorem Grp.cls_total : (szL m ln m).sum = (m : Int) := by
  unfold szL
  rw [sum_filter (fun i => (conjL m ln i).length) (isFst m ln)]
  congr 1
  have h1 := fib_sum (φ := h.fst) (q := m) (m := m) (fun x hx => (h.fst_spec hx).1)
  refine Eq.trans ?_ h1
  congr 1
  refine List.map_congr_left fun y hy => ?_
  have hy := List.mem_range.1 hy
  cases hf : isFst m ln y
  · rw [if_neg (by simp)]
    refine (fib_zero fun x hx e => ?_).symm
    have h2 := (h.fst_spec hx).2.1
    rw [e] at h2
    have h3 := (h.fst_same hx hy).1 h2
    rw [(h.isFst_iff hy).2 (by rw [h3, e])] at hf
    cases hf
  · rw [if_pos rfl]
    have h2 := (h.isFst_iff hy).1 hf
    unfold fibN conjL
    congr 1
    refine listTo_congr fun x hx => ?_
    rw [Bool.eq_iff_iff, decide_eq_true_eq, h.fst_same hy hx, h2]
theorem Grp.cls_ones : cntZ (szL m ln m) 1 = (listTo (isCen m ln) m).length := by
  unfold cntZ szL listTo
  rw [List.filter_map, List.length_map, List.length_map, filter_two]
  congr 1
  refine List.filter_congr fun x hx => ?_
  have hx := List.mem_range.1 hx
  rw [Bool.eq_iff_iff, Bool.and_eq_true]
  simp only [Function.comp, decide_eq_true_eq]
  rw [← h.conj_one hx, h.isFst_iff hx]
  constructor
  · rintro ⟨_, h2⟩; omega
  · intro h2
    have h3 : isCen m ln x = true := (h.conj_one hx).1 h2
    refine ⟨?_, by omega⟩
    obtain ⟨h4, h5, _⟩ := h.fst_spec hx
    have h6 := (listTo_len_one (f := isCj m ln x m) hx (isCj_self h hx)).1 h2
    exact h6 _ h4 h5
theorem Grp.cls_each {v : Int} (hv : v ∈ szL m ln m) : ∃ n : Nat, v = (n : Int) ∧ 1 ≤ n ∧ m % n = 0 := by
  unfold szL at hv
  obtain ⟨i, hi, rfl⟩ := List.mem_map.1 hv
  have hi := List.mem_range.1 (List.mem_filter.1 hi).1
  exact ⟨_, rfl, conjL_pos h hi, h.cls_div hi⟩

/-! ### the center is normal -/
theorem Grp.cen_mul {z : List Nat} (hz : ∀ x ∈ z, x < m ∧ isCen m ln x = true) {y : Nat} (hr : Reach m ln z y) : y < m ∧ ∀ x, x < m → tm m ln y x = tm m ln x y := by
  induction hr with
  | zero => exact ⟨h.lo, fun x hx => by rw [h.left x hx, h.right x hx]⟩
  | step hr hx ih =>
    rename_i y x
    obtain ⟨hxm, hxc⟩ := hz x hx
    refine ⟨h.tm_lt ih.1 hxm, fun k hk => ?_⟩
    unfold isCen at hxc
    have h1 := of_decide_eq_true (all_range.1 hxc k hk)
    have h2 := ih.2 k hk
    rw [h.assoc y x k ih.1 hxm hk, h1, ← h.assoc y k x ih.1 hk hxm, h2, h.assoc k y x hk ih.1 hxm]
theorem Grp.nor_of {z : List Nat} (hz : ∀ x ∈ z, x < m) (hc : ∀ y x, y < m → x < m → Reach m ln z y → Reach m ln z (cj m ln x y)) : (subN m ln z).all (norH m ln z) = true := by
  rw [List.all_eq_true]
  intro y hy
  have hy2 := List.mem_filter.1 hy
  have hym := List.mem_range.1 hy2.1
  unfold norH
  rw [all_range]
  intro x hx
  unfold norB
  rw [inSub_iff h.toTb hz]
  exact hc y x hym hx ((inSub_iff h.toTb hz y).1 hy2.2)
theorem Grp.nor_cen {z : List Nat} (hz : ∀ x ∈ z, x < m ∧ isCen m ln x = true) : (subN m ln z).all (norH m ln z) = true :=
  h.nor_of (fun x hx => (hz x hx).1) fun y x hy hx hr => by
    have h1 := (h.cen_mul hz hr).2 x hx
    have e : h.co ⟨x, hx⟩ ⟨y, hy⟩ = ⟨y, hy⟩ := h.co_self.2 (Fin.ext h1.symm)
    have e2 : cj m ln x y = y := congrArg Fin.val e
    rw [e2]; exact hr

/-! ### cosets -/
theorem Grp.cos_size {z : List Nat} (hz : ∀ x ∈ z, x < m) {c : Nat} (hc : c < m) : (listTo (fun x => cosP m ln z x c) m).length = (subL m ln z).length := by
  unfold subL
  have hci := (h.invN_spec hc).1
  refine Nat.le_antisymm ?_ ?_
  · refine listTo_inj_le (fun x => tm m ln x (invN m ln c)) (fun x hx hf => ⟨h.tm_lt hx hci, hf⟩) (fun x y hx hy _ _ he => ?_)
    have e : h.mu ⟨x, hx⟩ (h.iv ⟨c, hc⟩) = h.mu ⟨y, hy⟩ (h.iv ⟨c, hc⟩) := Fin.ext he
    have e2 := congrArg (fun w => h.mu w ⟨c, hc⟩) e
    simp only [h.mu_assoc, h.iv_mu, h.mu_un] at e2
    exact congrArg Fin.val e2
  · refine listTo_inj_le (fun x => tm m ln x c) (fun x hx hf => ⟨h.tm_lt hx hc, ?_⟩) (fun x y hx hy _ _ he => ?_)
    · unfold cosP
      have e : h.mu (h.mu ⟨x, hx⟩ ⟨c, hc⟩) (h.iv ⟨c, hc⟩) = ⟨x, hx⟩ := by rw [h.mu_assoc, h.mu_iv, h.mu_un]
      have e2 : tm m ln (tm m ln x c) (invN m ln c) = x := congrArg Fin.val e
      rw [e2]; exact hf
    · have e : h.mu ⟨x, hx⟩ ⟨c, hc⟩ = h.mu ⟨y, hy⟩ ⟨c, hc⟩ := Fin.ext he
      have e2 := congrArg (fun w => h.mu w (h.iv ⟨c, hc⟩)) e
      simp only [h.mu_assoc, h.mu_iv, h.mu_un] at e2
      exact congrArg Fin.val e2
theorem Grp.cosets {z : List Nat} (hz : ∀ x ∈ z, x < m) : m = (numF (cosP m ln z) m).length * (subL m ln z).length ∧ ∀ n : Nat, n < (numF (cosP m ln z) m).length → cntZ (numO (cosP m ln z) m) (n : Nat) = (subL m ln z).length :=
  num_even (fun i hi => cosP_refl h hz hi) (fun i k hi hk => cosP_symm h hz hi hk) (fun i j k hi hj hk => cosP_trans h hz hi hj hk) (fun i hi => h.cos_size hz hi)
theorem Grp.sub_div {z : List Nat} (hz : ∀ x ∈ z, x < m) : m % (subL m ln z).length = 0 := (mul_mod (h.cosets hz).1).1

/-! ### one element's subgroup -/
theorem Grp.reach_one {i y : Nat} (hi : i < m) : Reach m ln [i] y ↔ ∃ n, n < repN m ln i ∧ pw m ln i n = y := by
  constructor
  · intro hr
    induction hr with
    | zero => exact ⟨0, (h.order hi).1, rfl⟩
    | step hr hx ih =>
      rename_i y x
      obtain ⟨n, hn, hp⟩ := ih
      rw [List.mem_singleton] at hx
      rw [hx, ← hp, ← pw_succ]
      by_cases h1 : n + 1 < repN m ln i
      · exact ⟨n + 1, h1, rfl⟩
      · have h2 : n + 1 = repN m ln i := by omega
        refine ⟨0, (h.order hi).1, ?_⟩
        rw [h2, (h.order hi).2.1, pw_zero]
  · rintro ⟨n, _, rfl⟩
    exact Reach.pow h.toTabOk (fun x hx => by rw [List.mem_singleton.1 hx]; exact hi) (by
      have := Reach.step (m := m) (ln := ln) (z := [i]) .zero (List.mem_singleton.2 rfl)
      rwa [h.left i hi] at this) n
theorem Grp.sub_one {i : Nat} (hi : i < m) : (subL m ln [i]).length = repN m ln i := by
  have hz : ∀ x ∈ [i], x < m := fun x hx => by rw [List.mem_singleton.1 hx]; exact hi
  have e := listTo_true (repN m ln i)
  unfold subL
  refine Nat.le_antisymm ?_ ?_
  · rw [← e]
    have hex : ∀ y, y < m → inSub m ln [i] y = true → ∃ n, n < repN m ln i ∧ pw m ln i n = y := fun y hy hf => (h.reach_one hi).1 ((inSub_iff h.toTb hz y).1 hf)
    have hfn : ∀ y, y < m → inSub m ln [i] y = true → pw m ln i (firstN (fun n => decide (pw m ln i n = y)) (repN m ln i)) = y ∧ firstN (fun n => decide (pw m ln i n = y)) (repN m ln i) < repN m ln i := fun y hy hf => by
      obtain ⟨n, hn, e⟩ := hex y hy hf
      obtain ⟨h1, h2, _⟩ := firstN_spec (p := fun n => decide (pw m ln i n = y)) (m := repN m ln i) (n := n) (by omega) (decide_eq_true e)
      exact ⟨of_decide_eq_true h1, by omega⟩
    refine listTo_inj_le (fun y => firstN (fun n => decide (pw m ln i n = y)) (repN m ln i)) (fun y hy hf => ⟨(hfn y hy hf).2, rfl⟩) (fun x y hx hy h1 h2 he => ?_)
    have a := (hfn x hx h1).1
    have b := (hfn y hy h2).1
    have he : firstN (fun n => decide (pw m ln i n = x)) (repN m ln i) = firstN (fun n => decide (pw m ln i n = y)) (repN m ln i) := he
    rw [he] at a
    rw [← a, b]
  · rw [← e]
    refine listTo_inj_le (fun n => pw m ln i n) (fun n hn _ => ⟨h.pw_lt hi n, (inSub_iff h.toTb hz _).2 ((h.reach_one hi).2 ⟨n, hn, rfl⟩)⟩) (fun a b ha hb _ _ he => ?_)
    have he : pw m ln i a = pw m ln i b := he
    rcases Nat.lt_trichotomy a b with h1 | h1 | h1
    · have := h.repN_min hi hb
      rw [repB_iff.2 ⟨a, h1, he⟩] at this; cases this
    · exact h1
    · have := h.repN_min hi ha
      rw [repB_iff.2 ⟨b, h1, he.symm⟩] at this; cases this

/-! ### commutators -/
theorem Grp.cm_mem {x y : Nat} (hx : x < m) (hy : y < m) : Reach m ln (cmL m ln m) (cmV m ln x y) := by
  have h1 : cmV m ln x y ∈ cmL m ln m := by
    unfold cmL
    exact List.mem_flatMap.2 ⟨x, List.mem_range.2 hx, List.mem_map.2 ⟨y, List.mem_range.2 hy, rfl⟩⟩
  have := Reach.step (m := m) (ln := ln) (z := cmL m ln m) .zero h1
  rwa [h.left _ (h.cmV_lt hx hy)] at this
theorem Grp.cm_cj {x y : Nat} (hx : x < m) (hy : y < m) : cj m ln x y = tm m ln (cmV m ln x y) y := by
  have e : h.co ⟨x, hx⟩ ⟨y, hy⟩ = h.mu (h.mu (h.co ⟨x, hx⟩ ⟨y, hy⟩) (h.iv ⟨y, hy⟩)) ⟨y, hy⟩ := by rw [h.mu_assoc, h.iv_mu, h.mu_un]
  exact congrArg Fin.val e
theorem Grp.reach_same {z z' : List Nat} (hz : ∀ x ∈ z, x < m) (h1 : ∀ x ∈ z, Reach m ln z' x) (hz' : ∀ x ∈ z', x < m) {y : Nat} (hr : Reach m ln z y) : Reach m ln z' y := by
  induction hr with
  | zero => exact .zero
  | step hr hx ih => exact Reach.mul h.toTabOk hz' ih (h1 _ hx)
/-- the subgroup of the commutators is normal, as a list of its elements -/
theorem Grp.nor_cm : (subN m ln (subN m ln (cmL m ln m))).all (norH m ln (subN m ln (cmL m ln m))) = true := by
  have hz := cmL_lt h
  have hs : ∀ x ∈ subN m ln (cmL m ln m), x < m := fun x hx => subN_lt hx
  have hmem : ∀ x, x ∈ subN m ln (cmL m ln m) ↔ Reach m ln (cmL m ln m) x := fun x => by
    unfold subN
    rw [List.mem_filter, List.mem_range, inSub_iff h.toTb hz]
    exact ⟨fun h1 => h1.2, fun h1 => ⟨h1.lt h.toTb hz, h1⟩⟩
  have hto : ∀ {y}, Reach m ln (cmL m ln m) y → Reach m ln (subN m ln (cmL m ln m)) y := fun {y} hr =>
    h.reach_same hz (fun x hx => by
      have hx2 : x ∈ subN m ln (cmL m ln m) := (hmem x).2 (by
        have := Reach.step (m := m) (ln := ln) (z := cmL m ln m) .zero hx
        rwa [h.left _ (hz x hx)] at this)
      have := Reach.step (m := m) (ln := ln) (z := subN m ln (cmL m ln m)) .zero hx2
      rwa [h.left _ (hz x hx)] at this) hs hr
  refine h.nor_of hs fun y x hy hx hr => ?_
  rw [h.cm_cj hx hy]
  exact Reach.mul h.toTabOk hs (hto (h.cm_mem hx hy)) hr
theorem Grp.cm_one : (subL m ln (cmL m ln m)).length = 1 ↔ ∀ x y, x < m → y < m → tm m ln x y = tm m ln y x := by
  have hz := cmL_lt h
  unfold subL
  rw [listTo_len_one (j := 0) h.lo ((inSub_iff h.toTb hz 0).2 .zero)]
  constructor
  · intro h1 x y hx hy
    have h2 := h1 _ (h.cmV_lt hx hy) ((inSub_iff h.toTb hz _).2 (h.cm_mem hx hy))
    have h3 : cj m ln x y = y := by rw [h.cm_cj hx hy, h2, h.left y hy]
    have e : h.co ⟨x, hx⟩ ⟨y, hy⟩ = ⟨y, hy⟩ := Fin.ext h3
    exact congrArg Fin.val (h.co_self.1 e)
  · intro h1 y hy hf
    have hr := (inSub_iff h.toTb hz y).1 hf
    clear hf hy
    induction hr with
    | zero => rfl
    | step hr hx ih =>
      rename_i y v
      rw [ih, h.left _ (hz _ hx)]
      unfold cmL at hx
      obtain ⟨a, ha, hx⟩ := List.mem_flatMap.1 hx
      obtain ⟨b, hb, rfl⟩ := List.mem_map.1 hx
      have ha := List.mem_range.1 ha
      have hb := List.mem_range.1 hb
      have e : h.co ⟨a, ha⟩ ⟨b, hb⟩ = ⟨b, hb⟩ := h.co_self.2 (Fin.ext (h1 a b ha hb))
      have e2 : h.mu (h.co ⟨a, ha⟩ ⟨b, hb⟩) (h.iv ⟨b, hb⟩) = h.un := by rw [e, h.mu_iv]
      exact congrArg Fin.val e2

/-! ### one class of ideals -/
theorem Grp.rel3 {i k : Nat} (hi : i < m) (hk : k < m) : relK m ln 3 i k = true := by
  rw [relK_not4 (by decide), decide_eq_true_eq]
  refine listTo_congr fun x hx => ?_
  rw [inId_3 (by decide) (by decide), inId_3 (by decide) (by decide)]
  have key : ∀ i, i < m → idB m ln i m x = true := fun i hi => by
    refine idB_iff.2 ⟨0, h.lo, tm m ln (invN m ln i) x, h.tm_lt (h.invN_spec hi).1 hx, ?_⟩
    rw [h.left i hi]
    exact congrArg Fin.val (h.mu_iv_l ⟨i, hi⟩ ⟨x, hx⟩)
  rw [key i hi, key k hk]
theorem Grp.one_class (c : Nat) (h0 : 1 ≤ c) (hc : c ≤ m) : numF (relK m ln 3) c = [0] := by
  induction c with
  | zero => omega
  | succ c ih =>
    by_cases h1 : c = 0
    · subst h1; simp [numF]
    · rw [numF_succ, ih (by omega) (by omega)]
      simp [h.rel3 (i := c) (k := 0) (by omega) (by omega)]
end
end Go.Proofs.YtngbimgabcacpaaGreat
namespace Go.Proofs.YtngbimgabcacpaaGreat
open Go.RowKit
set_option linter.unusedVariables false
/-- commutative, in plain words -/
def comB (m : Nat) (ln : List Nat) : Bool := (List.range m).all (isCen m ln)
theorem comB_iff {m : Nat} {ln : List Nat} : comB m ln = true ↔ ∀ x y, x < m → y < m → tm m ln x y = tm m ln y x := by
  unfold comB isCen cenB
  rw [all_range]
  constructor
  · intro h x y hx hy; exact of_decide_eq_true (all_range.1 (h x hx) y hy)
  · intro h x hx; exact all_range.2 fun y hy => decide_eq_true (h x y hx hy)
end Go.Proofs.YtngbimgabcacpaaGreat
namespace Go.Proofs.YtngbimgabcacpaaGreat
open Go.RowKit
set_option linter.unusedVariables false
/-- a table that is a group -/
def GrpG (m : Nat) (l : List Int) : Prop := ∃ ln : List Nat, l = ln.map Int.ofNat ∧ Grp m ln
theorem GrpG.tab {m : Nat} {l : List Int} (h : GrpG m l) : TabG m l := by
  obtain ⟨ln, e, h⟩ := h
  exact ⟨ln, e, h.toTabOk⟩
theorem GrpG.of {n : Int} {l : List Int} (h : groupB n l = true) : ∃ m : Nat, n = (m : Int) ∧ GrpG m l := by
  obtain ⟨m, ln, h1, h2, h3⟩ := groupB_out h
  exact ⟨m, h1, ln, h2, h3⟩
theorem GrpG.grp {m : Nat} {l : List Int} (h : GrpG m l) : groupB (m : Nat) l = true := by
  obtain ⟨ln, rfl, h⟩ := h
  have ht := TabG.tab ⟨ln, rfl, h.toTabOk⟩
  unfold groupB
  rw [ht, Bool.true_and]
  have e : unitsOfF (m : Nat) (ln.map Int.ofNat) = listTo (isUnit m ln) m := (TabG.forms h.toTabOk).2.2.1
  have e2 : listTo (isUnit m ln) m = listTo (fun _ => true) m := listTo_congr fun x hx => h.unit x hx
  have e3 : (unitsOfF (m : Nat) (ln.map Int.ofNat)).length = m := by rw [e, e2, listTo_true]
  first
    | (rw [e3]; simp)
    | (simp only [decide_eq_true_eq]; rw [e3])
    | simp [e3]
theorem GrpG.one : GrpG 1 [0] := by
  refine ⟨[0], rfl, ⟨⟨⟨by decide, by decide, by decide, by decide⟩, by decide, by decide, ?_⟩, by decide⟩⟩
  have h : ∀ i, i < 1 → ∀ j, j < 1 → ∀ k, k < 1 → tm 1 [0] (tm 1 [0] i j) k = tm 1 [0] i (tm 1 [0] j k) := by decide
  exact fun i j k hi hj hk => h i hi j hj k hk
theorem sum_perm {l l' : List Int} (h : l.Perm l') : l.sum = l'.sum := by
  induction h with
  | nil => rfl
  | cons x _ ih => simp only [List.sum_cons, ih]
  | swap x y l => simp only [List.sum_cons]; omega
  | trans _ _ h1 h2 => rw [h1, h2]
theorem cntZ_perm {l l' : List Int} (h : l.Perm l') (x : Int) : cntZ l x = cntZ l' x := (h.filter _).length_eq
theorem sum_le_of {l : List Int} (h : ∀ x ∈ l, 0 ≤ x) : 0 ≤ l.sum := by
  induction l with
  | nil => simp
  | cons a l ih =>
    have h1 := h a List.mem_cons_self
    have h2 := ih fun x hx => h x (List.mem_cons_of_mem _ hx)
    simp only [List.sum_cons]; omega
/-- the sum of the first ones -/
def sumZ (l : List Int) (j : Nat) : Int := (l.take j).sum
theorem sumZ_succ {l : List Int} {j : Nat} (hj : j < l.length) : sumZ l (j + 1) = sumZ l j + nthZ l j := by
  unfold sumZ
  rw [List.take_add_one, List.getElem?_eq_getElem hj, List.sum_append, nthZ_lt hj]
  simp
theorem sumZ_all {l : List Int} {j : Nat} (hj : ¬ j < l.length) : sumZ l j = l.sum := by
  unfold sumZ; rw [List.take_of_length_le (by omega)]
theorem sumZ_le {l : List Int} (h : ∀ x ∈ l, 0 ≤ x) (j : Nat) : 0 ≤ sumZ l j ∧ sumZ l j ≤ l.sum := by
  have e := List.take_append_drop j l
  have h1 : 0 ≤ (l.take j).sum := sum_le_of fun x hx => h x (List.mem_of_mem_take hx)
  have h2 : 0 ≤ (l.drop j).sum := sum_le_of fun x hx => h x (List.mem_of_mem_drop hx)
  have h3 : l.sum = (l.take j).sum + (l.drop j).sum := by rw [← List.sum_append, e]
  unfold sumZ
  omega
/-- the facts of the classes of conjugates -/
structure ConG (m : Nat) (l Z S : List Int) : Prop where
  each : ∀ x ∈ S, ∃ n : Nat, x = (n : Int) ∧ 1 ≤ n ∧ n ≤ 40 ∧ m % n = 0
  sorted : ∀ i, i + 1 < S.length → nthZ S i ≤ nthZ S (i + 1)
  total : S.sum = (m : Int)
  ones : cntZ S 1 = Z.length
  normal : normB (m : Nat) l Z = true
/-- those of one element's class -/
structure ConE (m : Nat) (l Z : List Int) (i : Nat) (C : List Int) : Prop where
  self : ((i : Nat) : Int) ∈ C
  el : ∀ x ∈ C, ∃ j : Nat, x = (j : Int) ∧ j < m ∧ ordV (m : Nat) l (j : Nat) = ordV (m : Nat) l (i : Nat) ∧ conjF (m : Nat) l (j : Nat) = C
  one : decide (C.length = 1) = decide (((i : Nat) : Int) ∈ Z)
theorem GrpG.inv {m i : Nat} {l : List Int} (h : GrpG m l) (hi : i < m) : invOk (m : Nat) l (i : Nat) = true := invOk_yes h.grp (by unfold inB; simp; omega)
theorem GrpG.cen {m : Nat} {ln : List Nat} (h : Grp m ln) : centerOfF (m : Nat) (ln.map Int.ofNat) = listTo (isCen m ln) m := by
  rw [centerOfF_yes (GrpG.grp ⟨ln, rfl, h⟩), thoseL_yes (TabG.tab ⟨ln, rfl, h.toTabOk⟩)]
  rw [map_toNat', Int.toNat_natCast]
theorem GrpG.con {m : Nat} {l : List Int} (h : GrpG m l) : ConG m l (centerOfF (m : Nat) l) (clsF (m : Nat) l) := by
  have hg := h.grp
  obtain ⟨ln, rfl, h⟩ := h
  have ep : (clsF (m : Nat) (ln.map Int.ofNat)).Perm (szL m ln m) := by
    rw [clsF_yes hg]; exact List.mergeSort_perm _ _
  refine ⟨fun x hx => ?_, fun i hi => ?_, ?_, ?_, ?_⟩
  · obtain ⟨n, rfl, h1, h2⟩ := h.cls_each (ep.mem_iff.1 hx)
    refine ⟨n, rfl, h1, ?_, h2⟩
    have h3 := h.lo
    have h4 := h.hi
    have h5 : n ≤ m := Nat.le_of_dvd h3 (Nat.dvd_of_mod_eq_zero h2)
    omega
  · have h1 : (clsF (m : Nat) (ln.map Int.ofNat)).Pairwise (· ≤ ·) := by rw [clsF_yes hg]; exact sortL_le _
    rw [nthZ_lt (by omega : i < _), nthZ_lt hi]
    exact List.pairwise_iff_getElem.1 h1 i (i + 1) (by omega) hi (Nat.lt_succ_self i)
  · rw [sum_perm ep, h.cls_total]
  · rw [cntZ_perm ep, h.cls_ones, GrpG.cen h]
  · have e : centerOfF (m : Nat) (ln.map Int.ofNat) = ((List.range m).filter (isCen m ln)).map Int.ofNat := GrpG.cen h
    have hz : ∀ x ∈ (List.range m).filter (isCen m ln), x < m ∧ isCen m ln x = true := fun x hx => ⟨List.mem_range.1 (List.mem_filter.1 hx).1, (List.mem_filter.1 hx).2⟩
    rw [e, normB_yes (subOk_yes hg (by
      unfold rngB
      rw [List.all_eq_true]
      intro x hx
      obtain ⟨y, hy, rfl⟩ := List.mem_map.1 hx
      have := (hz y hy).1
      unfold inB
      simp; omega))]
    exact h.nor_cen hz
theorem GrpG.conE {m i : Nat} {l : List Int} (h : GrpG m l) (hi : i < m) : ConE m l (centerOfF (m : Nat) l) i (conjF (m : Nat) l (i : Nat)) := by
  have hin : ∀ j, j < m → invOk (m : Nat) l (j : Nat) = true := fun j hj => h.inv hj
  obtain ⟨ln, rfl, h⟩ := h
  rw [conjF_yes (hin i hi)]
  refine ⟨?_, fun x hx => ?_, ?_⟩
  · unfold conjL; exact listTo_at.2 ⟨hi, isCj_self h hi⟩
  · unfold conjL at hx
    obtain ⟨j, rfl, hj, hc⟩ := (listTo_mem _ _ _).1 hx
    refine ⟨j, rfl, hj, ?_, ?_⟩
    · rw [ordV_yes (hin j hj), ordV_yes (hin i hi)]
      obtain ⟨y, hy, rfl⟩ := h.isCj_iff.1 hc
      rw [h.ord_co hy hi]
    · rw [conjF_yes (hin j hj), h.conj_same hi hc]
  · rw [GrpG.cen h, decide_eq_decide, h.conj_one hi, listTo_at]
    exact ⟨fun h1 => ⟨hi, h1⟩, fun h1 => h1.2⟩
/-- the facts of a group that FnGroups asks -/
structure GrpE (m : Nat) (l : List Int) (i k : Nat) (H C : List Int) (o : Nat) : Prop where
  lo : 1 ≤ o ∧ o ≤ 40
  ord : ordV (m : Nat) l (i : Nat) = (o : Int)
  div : m % o = 0
  hdiv : m % H.length = 0
  hpos : 0 < H.length
  hi : ((i : Nat) : Int) ∈ H
  hk : ((k : Nat) : Int) ∈ H
  clen : C.length = m
  one : (subF (m : Nat) l [((i : Nat) : Int)]).length = o
  cnt : ∀ n : Nat, n * o < m → cntZ C (n : Nat) = o
theorem map_two (i k : Nat) : [((i : Nat) : Int), ((k : Nat) : Int)] = [i, k].map Int.ofNat := rfl
theorem map_one (i : Nat) : [((i : Nat) : Int)] = [i].map Int.ofNat := rfl
theorem GrpG.el {m i k : Nat} {l : List Int} (h : GrpG m l) (hi : i < m) (hk : k < m) : ∃ o, GrpE m l i k (subF (m : Nat) l [((i : Nat) : Int), ((k : Nat) : Int)]) (cosF (m : Nat) l [((i : Nat) : Int)]) o := by
  have hg := h.grp
  have hin := h.inv hi
  obtain ⟨ln, rfl, h⟩ := h
  have hr2 : subOk (m : Nat) (ln.map Int.ofNat) ([i, k].map Int.ofNat) = true := subOk_yes hg (by unfold rngB inB; simp; omega)
  have hr1 : subOk (m : Nat) (ln.map Int.ofNat) ([i].map Int.ofNat) = true := subOk_yes hg (by unfold rngB inB; simp; omega)
  have hz2 : ∀ x ∈ [i, k], x < m := fun x hx => by
    rcases List.mem_cons.1 hx with rfl | hx
    · exact hi
    · rw [List.mem_singleton.1 hx]; exact hk
  have hz1 : ∀ x ∈ [i], x < m := fun x hx => by rw [List.mem_singleton.1 hx]; exact hi
  have hone : ∀ (z : List Nat), (∀ x ∈ z, x < m) → ∀ x ∈ z, ((x : Nat) : Int) ∈ subL m ln z := fun z hz x hx => by
    unfold subL
    refine listTo_at.2 ⟨hz x hx, (inSub_iff h.toTb hz x).2 ?_⟩
    have := Reach.step (m := m) (ln := ln) (z := z) .zero hx
    rwa [h.left x (hz x hx)] at this
  obtain ⟨c1, c2⟩ := h.cosets hz1
  rw [h.sub_one hi] at c1 c2
  obtain ⟨o1, _, _⟩ := h.order hi
  refine ⟨repN m ln i, ⟨⟨o1, ?_⟩, ordV_yes hin, (mul_mod c1).1, ?_, ?_, ?_, ?_, ?_, ?_, ?_⟩⟩
  · have := h.repN_le hi
    have := h.hi
    omega
  · rw [map_two, subF_yes hr2]; exact h.sub_div hz2
  · rw [map_two, subF_yes hr2]; exact List.length_pos_of_mem (hone _ hz2 i List.mem_cons_self)
  · rw [map_two, subF_yes hr2]; exact hone _ hz2 i List.mem_cons_self
  · rw [map_two, subF_yes hr2]; exact hone _ hz2 k (List.mem_cons_of_mem _ List.mem_cons_self)
  · rw [map_one, cosF_yes hr1, numO_len]
  · rw [map_one, subF_yes hr1, h.sub_one hi]
  · intro n hn
    rw [map_one, cosF_yes hr1]
    refine c2 n ?_
    refine Nat.lt_of_not_le fun hle => ?_
    have := Nat.mul_le_mul_right (repN m ln i) hle
    omega
theorem GrpG.invP {m i : Nat} {l : List Int} (h : GrpG m l) (hi : i < m) : ∃ x : Nat, invV (m : Nat) l (i : Nat) = (x : Int) ∧ x < m ∧ tm m (l.map Int.toNat) i x = 0 := by
  have hin := h.inv hi
  obtain ⟨ln, rfl, h⟩ := h
  obtain ⟨h1, h2, _, h4⟩ := h.invN_spec hi
  exact ⟨invN m ln i, by rw [invV_yes hin, h4], h1, by rw [map_toNat']; exact h2⟩
theorem GrpG.com {m : Nat} {l : List Int} (h : GrpG m l) : normB (m : Nat) l (commF (m : Nat) l) = true ∧ decide ((commF (m : Nat) l).length = 1) = comB m (l.map Int.toNat) := by
  have hg := h.grp
  obtain ⟨ln, rfl, h⟩ := h
  rw [map_toNat', commF_yes hg, ← subN_map, normB_yes (subOk_yes hg (by
    unfold rngB
    rw [List.all_eq_true]
    intro x hx
    obtain ⟨y, hy, rfl⟩ := List.mem_map.1 hx
    have := subN_lt hy
    unfold inB
    simp; omega))]
  refine ⟨h.nor_cm, ?_⟩
  rw [subN_map, Bool.eq_iff_iff, decide_eq_true_eq, h.cm_one, comB_iff]
theorem GrpG.cls {m : Nat} {l : List Int} (h : GrpG m l) : cntF (clzF (m : Nat) l 3) = 1 := by
  have ht := h.tab.tab
  obtain ⟨ln, rfl, h⟩ := h
  rw [clzF_yes ht (by decide), num_count, h.one_class m h.lo (Nat.le_refl _)]
  rfl
end Go.Proofs.YtngbimgabcacpaaGreat
