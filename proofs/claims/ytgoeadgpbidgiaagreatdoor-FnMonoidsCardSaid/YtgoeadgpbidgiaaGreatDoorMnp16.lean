/-
  slices.IndexFunc and slices.ContainsFunc at integers, for every function value that keeps what was there.
-/
import Derived.Test.YtgoeadgpbidgiaaGreatDoorMnp15
import Derived.Test.YtgoeadgpbidgiaaGreatDoorMnp13
import Derived.Test.YtgoeadgpbidgiaaGreatDoorMnp07
import Derived.Lib.SlicesCompact
import Derived.Shelf.Abstract
namespace Go.Proofs.YtgoeadgpbidgiaaGreatDoor
open Go.RowKit
set_option linter.unusedVariables false
/-- the rules of a system, as sides -/
def SR (R : List RulD) : Rs := fun l r => ∃ p ∈ R, p.1.data.toList = l ∧ p.2.data.toList = r
theorem lessS_wt {a b : ByteArray} (h : lessS a b = true) : wt a.data.toList < wt b.data.toList := by
  unfold lessS ltW blW at h
  rcases of_decide_eq_true h with h | ⟨h1, h2⟩
  · exact wt_short h
  · exact wt_lex h1 h2
theorem sys_dwn {k : Int} {R : List RulD} (hs : sysP k R) : Dwn (SR R) := by
  rintro _ _ ⟨p, hp, rfl, rfl⟩
  exact lessS_wt (hs.2 p hp)
theorem ba_lists {a b : ByteArray} (h : a.data.toList = b.data.toList) : a = b := by
  cases a; cases b
  simp only [ByteArray.mk.injEq] at h ⊢
  exact Array.ext' h
theorem step_stp {R : List RulD} {w : ByteArray} {s : Nat × Nat} (hm : s ∈ stepsF R w) : Stp (SR R) w.data.toList (applyF R w s).data.toList := by
  obtain ⟨h1, h2, h3⟩ := mem_stepsF.1 hm
  refine ⟨w.data.toList.take s.2, _, _, w.data.toList.drop (s.2 + (nthR R s.1).1.size), ⟨nthR R s.1, nthR_mem h2, rfl, rfl⟩, split_at h3, ?_⟩
  unfold applyF
  rw [replF_list]
/-- the word behind a step at a place that is told by what stands ahead of it -/
theorem apply_at {R : List RulD} {w : ByteArray} {i : Nat} {x y : List UInt8} (h : w.data.toList = x ++ ((nthR R i).1.data.toList ++ y)) :
    preAt w x.length (nthR R i).1 = true ∧ (applyF R w (i, x.length)).data.toList = x ++ ((nthR R i).2.data.toList ++ y) := by
  have e1 : (nthR R i).1.data.toList.length = (nthR R i).1.size := rfl
  constructor
  · unfold preAt
    rw [h, List.drop_left, List.isPrefixOf_iff_prefix]
    exact List.prefix_append _ _
  · unfold applyF
    rw [replF_list]
    show w.data.toList.take x.length ++ ((nthR R i).2.data.toList ++ w.data.toList.drop (x.length + (nthR R i).1.size)) = _
    rw [h, List.take_left, ← e1, ← List.drop_drop, List.drop_left, List.drop_left]
theorem stp_step {R : List RulD} (hne : ∀ r ∈ R, r.1.size ≠ 0) {w : ByteArray} {v : List UInt8} (h : Stp (SR R) w.data.toList v) : ∃ s ∈ stepsF R w, (applyF R w s).data.toList = v := by
  obtain ⟨x, _, _, y, ⟨p, hp, rfl, rfl⟩, h1, rfl⟩ := h
  obtain ⟨i, hi, rfl⟩ := mem_nthR hp
  obtain ⟨h2, h3⟩ := apply_at h1
  have e1 : (nthR R i).1.data.toList.length = (nthR R i).1.size := rfl
  have e2 : w.data.toList.length = w.size := rfl
  have h4 := hne _ hp
  rw [h1] at e2
  simp only [List.length_append] at e2
  exact ⟨(i, x.length), mem_stepsF.2 ⟨by show x.length < _; omega, hi, h2⟩, h3⟩
theorem sys_ne {k : Int} {R : List RulD} (hs : rulesP k R) : ∀ r ∈ R, r.1.size ≠ 0 := fun r hr => (hs.2 r hr).2
theorem norm_nf {R : List RulD} (hne : ∀ r ∈ R, r.1.size ≠ 0) {w x : ByteArray} (h : NormIs R w x) : Nf (SR R) w.data.toList x.data.toList := by
  induction h with
  | done h =>
    refine ⟨.refl _, fun v hv => ?_⟩
    obtain ⟨s, hs, _⟩ := stp_step hne hv
    rw [List.head?_eq_none_iff] at h
    rw [h] at hs
    cases hs
  | step h _ ih => exact ⟨.step (step_stp (head_mem h)) ih.1, ih.2⟩
/-- the pairs of a system are connected -/
def PairConn (R : List RulD) (E : Rs) (p : PairD) : Prop := Conn E (wt p.1.data.toList) (leftP R p).data.toList (rightP R p).data.toList
theorem mem_pairs {R : List RulD} {i j : Nat} (hi : i < R.length) (hj : j < R.length) {p : PairD} (h : p ∈ inF R i j ∨ p ∈ acF R i j) : p ∈ pairsF R := by
  unfold pairsF pairAt
  simp only [List.mem_flatMap, List.mem_range]
  exact ⟨i, hi, j, hj, List.mem_append.2 h⟩
/-- one rule inside of another one: the pair, and its sides -/
theorem pair_in {R : List RulD} {i j : Nat} (hij : i ≠ j) (hj : (nthR R j).1.size ≠ 0) {x y : List UInt8} (h : (nthR R i).1.data.toList = x ++ ((nthR R j).1.data.toList ++ y)) :
    inP R i j x.length ∈ inF R i j ∧ (leftP R (inP R i j x.length)).data.toList = (nthR R i).2.data.toList ∧ (rightP R (inP R i j x.length)).data.toList = x ++ ((nthR R j).2.data.toList ++ y) := by
  obtain ⟨h2, h3⟩ := apply_at h
  have e1 : (nthR R j).1.data.toList.length = (nthR R j).1.size := rfl
  have e2 : (nthR R i).1.data.toList.length = (nthR R i).1.size := rfl
  rw [h] at e2
  simp only [List.length_append] at e2
  refine ⟨?_, ?_, h3⟩
  · unfold inF
    rw [if_neg hij]
    exact List.mem_map.2 ⟨_, mem_places.2 ⟨by omega, h2⟩, rfl⟩
  · have h4 := (apply_at (R := R) (w := (nthR R i).1) (i := i) (x := []) (y := []) (by simp)).2
    simp only [List.nil_append, List.append_nil, List.length_nil] at h4
    exact h4
theorem pair_ac {R : List RulD} {i j : Nat} {x t y : List UInt8} (h1 : (nthR R i).1.data.toList = x ++ t) (h2 : (nthR R j).1.data.toList = t ++ y) (ht : t ≠ []) (hx : x ≠ []) (hy : y ≠ []) :
    acP R i j t.length ∈ acF R i j ∧ (acP R i j t.length).1.data.toList = x ++ (t ++ y) ∧ (leftP R (acP R i j t.length)).data.toList = (nthR R i).2.data.toList ++ y ∧ (rightP R (acP R i j t.length)).data.toList = x ++ (nthR R j).2.data.toList := by
  have e1 : (nthR R i).1.data.toList.length = (nthR R i).1.size := rfl
  have e2 : (nthR R j).1.data.toList.length = (nthR R j).1.size := rfl
  have f1 := e1
  have f2 := e2
  rw [h1] at f1
  rw [h2] at f2
  simp only [List.length_append] at f1 f2
  have lx : 0 < x.length := List.length_pos_iff.2 hx
  have lt : 0 < t.length := List.length_pos_iff.2 ht
  have ly : 0 < y.length := List.length_pos_iff.2 hy
  have ew : (acP R i j t.length).1.data.toList = x ++ (t ++ y) := by
    show ((nthR R i).1 ++ (nthR R j).1.extract t.length (nthR R j).1.size).data.toList = _
    rw [ByteArray.data_append, Array.toList_append, extract_lt, List.take_of_length_le (Nat.le_of_eq e2), h1, h2, List.drop_left, List.append_assoc]
  have ep : (acP R i j t.length).2.2.2 = x.length := by show (nthR R i).1.size - t.length = _; omega
  refine ⟨?_, ew, ?_, ?_⟩
  · unfold acF
    refine List.mem_map.2 ⟨_, mem_over.2 ⟨⟨by omega, by omega⟩, lt, ?_⟩, rfl⟩
    unfold ovAt
    rw [beq_iff_eq, h1, h2, show (nthR R i).1.size - t.length = x.length by omega, List.drop_left, List.take_left]
  · have h4 := (apply_at (R := R) (w := (acP R i j t.length).1) (i := i) (x := []) (y := y) (by rw [ew, h1]; simp)).2
    simp only [List.nil_append, List.length_nil] at h4
    exact h4
  · have h4 := (apply_at (R := R) (w := (acP R i j t.length).1) (i := j) (x := x) (y := []) (by rw [ew, h2]; simp)).2
    unfold rightP
    rw [ep]
    simp only [List.append_nil] at h4
    exact h4
/-- pairs that are connected make the rules critical ones -/
theorem crit_of_pairs {R : List RulD} (hne : ∀ r ∈ R, r.1.size ≠ 0) {E : Rs} (h : ∀ p ∈ pairsF R, PairConn R E p) : Crit (SR R) E := by
  refine ⟨?_, ?_⟩
  · rintro _ _ _ _ x y ⟨p1, hp1, rfl, rfl⟩ ⟨p2, hp2, rfl, rfl⟩ e
    obtain ⟨i, hi, rfl⟩ := mem_nthR hp1
    obtain ⟨j, hj, rfl⟩ := mem_nthR hp2
    by_cases hij : i = j
    · subst hij
      have := congrArg List.length e
      simp only [List.length_append] at this
      have hx : x = [] := List.eq_nil_of_length_eq_zero (by omega)
      have hy : y = [] := List.eq_nil_of_length_eq_zero (by omega)
      subst hx hy
      simpa using Conn.refl _
    · obtain ⟨h1, h2, h3⟩ := pair_in hij (hne _ hp2) e
      have h4 := h _ (mem_pairs hi hj (.inl h1))
      unfold PairConn at h4
      rw [h2, h3] at h4
      exact h4
  · rintro _ _ _ _ x t y ⟨p1, hp1, rfl, rfl⟩ ⟨p2, hp2, rfl, rfl⟩ e1 e2 ht hx hy
    obtain ⟨i, hi, rfl⟩ := mem_nthR hp1
    obtain ⟨j, hj, rfl⟩ := mem_nthR hp2
    obtain ⟨h1, h2, h3, h4⟩ := pair_ac e1 e2 ht hx hy
    have h5 := h _ (mem_pairs hi hj (.inr h1))
    unfold PairConn at h5
    rw [h2, h3, h4] at h5
    exact h5
theorem open_nil {R : List RulD} (h : openF R = []) {p : PairD} (hp : p ∈ pairsF R) : Joined R p := by
  refine Classical.byContradiction fun hn => ?_
  unfold openF openL at h
  rw [List.filter_eq_nil_iff] at h
  have := h p hp
  simp [hn] at this
theorem joined_conn {k : Int} {R : List RulD} (hs : sysP k R) {p : PairD} (hp : p ∈ pairsF R) (hj : Joined R p) : PairConn R (SR R) p := by
  obtain ⟨x, h1, h2⟩ := hj
  have hok := pairOk hs hp
  have hd := sys_dwn hs
  have n1 := norm_nf (sys_ne hs.1) h1
  have n2 := norm_nf (sys_ne hs.1) h2
  exact (Conn.red hd n1.1 (hd.stp (step_stp hok.one))).trans (Conn.red hd n2.1 (hd.stp (step_stp hok.two))).symm
theorem comp_crit {k : Int} {R : List RulD} (h : ComplP k R) : Crit (SR R) (SR R) :=
  crit_of_pairs (sys_ne h.1.1) fun p hp => joined_conn h.1 hp (open_nil h.2 hp)
/-- critical pairs that are connected by the rules are joined: the system is complete -/
theorem comp_of_crit {k : Int} {R : List RulD} (hs : sysP k R) (hc : Crit (SR R) (SR R)) : ComplP k R := by
  refine ⟨hs, ?_⟩
  unfold openF openL
  rw [List.filter_eq_nil_iff]
  intro p hp
  have hok := pairOk hs hp
  have hd := sys_dwn hs
  obtain ⟨x, hx, _⟩ := NormIs.ex hs _ _ (Nat.lt_succ_self _) (step_word hs hok.word hok.one)
  obtain ⟨y, hy, _⟩ := NormIs.ex hs _ _ (Nat.lt_succ_self _) (step_word hs hok.word hok.two)
  have c := local_all hd hc (step_stp hok.one) (step_stp hok.two)
  have e := ba_lists (conf_conn hd hc c (norm_nf (sys_ne hs.1) hx) (norm_nf (sys_ne hs.1) hy))
  subst e
  have : Joined R p := ⟨x, hx, hy⟩
  simp [this]
end Go.Proofs.YtgoeadgpbidgiaaGreatDoor
namespace Go.Proofs.YtgoeadgpbidgiaaGreatDoor
open Go.RowKit
set_option linter.unusedVariables false
theorem irr_iff {R : List RulD} {v : List UInt8} : Irr (SR R) v ↔ ∀ p ∈ R, ∀ x y, v ≠ x ++ (p.1.data.toList ++ y) := by
  constructor
  · intro h p hp x y e
    exact h _ ⟨x, _, _, y, ⟨p, hp, rfl, rfl⟩, e, rfl⟩
  · rintro h u ⟨x, _, _, y, ⟨p, hp, rfl, rfl⟩, e, rfl⟩
    exact h p hp x y e
theorem irr_pre {R : List RulD} {u t : List UInt8} (h : Irr (SR R) (u ++ t)) : Irr (SR R) u := by
  rw [irr_iff] at *
  intro p hp x y e
  exact h p hp x (y ++ t) (by rw [e]; simp [List.append_assoc])
theorem okX_irr {R : List RulD} {w : ByteArray} {x : Nat} (h : Irr (SR R) (w ++ letterN x).data.toList) : okX R w x = true := by
  unfold okX
  rw [Bool.not_eq_true', Bool.eq_false_iff]
  intro he
  obtain ⟨r, hr, hs⟩ := endsR_iff.1 he
  unfold sufBB at hs
  obtain ⟨t, ht⟩ := List.isSuffixOf_iff_suffix.1 hs
  rw [irr_iff] at h
  exact h r hr t [] (by rw [List.append_nil]; exact ht.symm)
theorem irr_snoc {R : List RulD} (hne : ∀ r ∈ R, r.1.size ≠ 0) {w : ByteArray} {x : Nat} (h : Irr (SR R) w.data.toList) (hx : okX R w x = true) : Irr (SR R) (w ++ letterN x).data.toList := by
  rw [irr_iff] at *
  intro p hp a b e
  rw [app_lt] at e
  rcases List.eq_nil_or_concat b with rfl | ⟨b', y, rfl⟩
  · unfold okX at hx
    rw [Bool.not_eq_true', Bool.eq_false_iff] at hx
    refine hx (endsR_iff.2 ⟨p, hp, ?_⟩)
    unfold sufBB
    rw [List.isSuffixOf_iff_suffix, app_lt]
    exact ⟨a, by rw [e]; simp⟩
  · rw [List.concat_eq_append] at e
    have e2 : w.data.toList ++ [lt97 x] = (a ++ (p.1.data.toList ++ b')) ++ [y] := by rw [e]; simp [List.append_assoc]
    obtain ⟨h1, _⟩ := List.append_inj' e2 rfl
    exact h p hp a b' h1
theorem wordsF_irr {R : List RulD} (hne : ∀ r ∈ R, r.1.size ≠ 0) (k : Nat) : ∀ (m : Nat) (w : ByteArray), Irr (SR R) w.data.toList → ∀ u ∈ wordsF R k m w, Irr (SR R) u.data.toList
  | 0, w, hw, u, hu => by rw [List.mem_singleton.1 hu]; exact hw
  | m + 1, w, hw, u, hu => by
    obtain ⟨x, _, h2⟩ := List.mem_flatMap.1 hu
    split at h2
    · rename_i hx
      exact wordsF_irr hne k m _ (irr_snoc hne hw hx) u h2
    · cases h2
theorem irr_wordsF {R : List RulD} {k : Nat} : ∀ (t : List UInt8) (w u : ByteArray), (∀ y ∈ t, ∃ x, x < k ∧ y = lt97 x) → u.data.toList = w.data.toList ++ t → Irr (SR R) u.data.toList → u ∈ wordsF R k t.length w
  | [], w, u, _, e, _ => by
    have : u = w := ba_ext0 (by rw [e]; simp)
    rw [this]; exact List.mem_singleton.2 rfl
  | y :: t, w, u, hy, e, h => by
    obtain ⟨x, hx, rfl⟩ := hy y List.mem_cons_self
    have h1 : Irr (SR R) (w ++ letterN x).data.toList := by
      rw [app_lt]
      exact irr_pre (t := t) (by rw [List.append_assoc]; simpa [e] using h)
    refine List.mem_flatMap.2 ⟨x, List.mem_range.2 hx, ?_⟩
    rw [if_pos (okX_irr h1)]
    exact irr_wordsF t (w ++ letterN x) u (fun z hz => hy z (List.mem_cons_of_mem _ hz)) (by rw [e, app_lt, List.append_assoc]; rfl) h
theorem let_lt97 {k : Nat} {v : List UInt8} (h : okLt (k : Int) v) : ∀ y ∈ v, ∃ x, x < k ∧ y = lt97 x := fun y hy => by
  have h1 := letB_true (h y hy)
  refine ⟨y.toNat - 97, by omega, ?_⟩
  apply UInt8.toNat_inj.1
  have h2 := y.toNat_lt
  unfold lt97
  simp
  omega
/-- the words are the irreducible ones -/
theorem mem_out {R : List RulD} {k h : Nat} (hne : ∀ r ∈ R, r.1.size ≠ 0) (hL : LeftsP R) (hk : k ≤ 4) (hh : HtIs R k ⟨#[]⟩ (h : Int)) (hi : Irr (SR R) []) (u : ByteArray) : u ∈ outTo R k (h + 1) ↔ okLt (k : Int) u.data.toList ∧ Irr (SR R) u.data.toList := by
  constructor
  · intro hu
    obtain ⟨m, hm, h2⟩ := mem_outTo hu
    exact ⟨wordsF_ok hk m _ (fun y hy => by cases hy) u h2, wordsF_irr hne k m _ hi u h2⟩
  · rintro ⟨h1, h2⟩
    have hu := irr_wordsF (k := k) u.data.toList ⟨#[]⟩ u (let_lt97 h1) (by simp) h2
    have hlen : u.data.toList.length ≤ h := by
      refine Nat.le_of_not_lt fun hlt => ?_
      have e : u.data.toList = u.data.toList.take (h + 1) ++ u.data.toList.drop (h + 1) := (List.take_append_drop _ _).symm
      have h3 : Irr (SR R) (⟨(u.data.toList.take (h + 1)).toArray⟩ : ByteArray).data.toList := by
        show Irr (SR R) (u.data.toList.take (h + 1))
        rw [e] at h2
        exact irr_pre h2
      have h4 := irr_wordsF (k := k) (u.data.toList.take (h + 1)) ⟨#[]⟩ ⟨(u.data.toList.take (h + 1)).toArray⟩ (fun y hy => let_lt97 h1 y (List.mem_of_mem_take hy)) (by simp) h3
      rw [List.length_take, Nat.min_eq_left (by omega)] at h4
      have h5 := wordsF_len hL k (h + 1) ⟨#[]⟩
      rcases hh with ⟨h6, _⟩ | ⟨n, h6, _, h7⟩
      · omega
      · obtain rfl : h = n := by omega
        rw [h7] at h5
        rw [List.eq_nil_of_length_eq_zero h5] at h4
        cases h4
    exact List.mem_flatMap.2 ⟨_, List.mem_range.2 (by omega), hu⟩
theorem out_nodup {R : List RulD} {k : Nat} (hk : k ≤ 4) (n : Nat) : (outTo R k n).Nodup := by
  unfold outTo
  rw [List.Nodup, List.pairwise_flatMap]
  refine ⟨fun m _ => ?_, ?_⟩
  · refine (wordsF_rise hk m _).imp fun {a b} hab e => ?_
    subst e
    have h1 := less_app a.data.toList [] []
    simp only [List.append_nil] at h1
    unfold ltB at hab
    rw [h1] at hab
    cases hab
  · refine List.pairwise_lt_range.imp fun {m m'} hlt a ha b hb e => ?_
    subst e
    have h1 := wordsF_size R k m _ a ha
    have h2 := wordsF_size R k m' _ a hb
    omega
theorem out_head (R : List RulD) (k n : Nat) : nthS (outTo R k (n + 1)) 0 = ⟨#[]⟩ := by
  unfold outTo
  rw [List.range_succ_eq_map, List.flatMap_cons]
  rfl
theorem prodTo_pre1 (R : List RulD) (L : List ByteArray) (i : Nat) : ∀ (d j : Nat), prodTo R L i j <+: prodTo R L i (j + d)
  | 0, j => List.prefix_refl _
  | d + 1, j => by
    refine (prodTo_pre1 R L i d j).trans ?_
    rw [← Nat.add_assoc, prodTo_step]
    exact List.prefix_append _ _
theorem prodTo_pre2 (R : List RulD) (L : List ByteArray) : ∀ (d i : Nat), prodTo R L i 0 <+: prodTo R L (i + d) 0
  | 0, i => List.prefix_refl _
  | d + 1, i => by
    refine (prodTo_pre2 R L d i).trans ?_
    rw [← Nat.add_assoc, ← prodTo_next]
    have := prodTo_pre1 R L (i + d) L.length 0
    rwa [Nat.zero_add] at this
theorem prodF_at (R : List RulD) (L : List ByteArray) {i j : Nat} (hi : i < L.length) (hj : j < L.length) : (prodF R L)[i * L.length + j]? = some (idxB L (nfC R (nthS L i ++ nthS L j))) := by
  have h1 := prodTo_pre1 R L i (L.length - (j + 1)) (j + 1)
  rw [show j + 1 + (L.length - (j + 1)) = L.length by omega, prodTo_next] at h1
  have h2 := prodTo_pre2 R L (L.length - (i + 1)) (i + 1)
  rw [show i + 1 + (L.length - (i + 1)) = L.length by omega, prodTo_done] at h2
  obtain ⟨t, ht⟩ := h1.trans h2
  have hl := prodTo_len R L i j
  rw [← ht, prodTo_step, List.append_assoc, List.getElem?_append_right (by omega), hl]
  simp
theorem nodup_nth {L : List ByteArray} (h : L.Nodup) {p q : Nat} (hp : p < L.length) (hq : q < L.length) (e : nthS L p = nthS L q) : p = q := by
  rw [nthS_lt hp, nthS_lt hq] at e
  have h1 := List.pairwise_iff_getElem.1 h
  rcases Nat.lt_trichotomy p q with h2 | h2 | h2
  · exact absurd e (h1 p q hp hq h2)
  · exact h2
  · exact absurd e.symm (h1 q p hq hp h2)
theorem idxB_mem {L : List ByteArray} {v : ByteArray} (h : v ∈ L) : ∃ p, p < L.length ∧ idxB L v = (p : Int) ∧ nthS L p = v := by
  have hf : ∃ p, idxTo L v L.length = some p := by
    obtain ⟨q, hq, e⟩ := List.getElem_of_mem h
    cases hc : idxTo L v L.length with
    | some p => exact ⟨p, rfl⟩
    | none =>
      unfold idxTo at hc
      rw [List.find?_eq_none] at hc
      have := hc q (List.mem_range.2 hq)
      rw [nthS_lt hq, e] at this
      simp at this
  obtain ⟨p, hp⟩ := hf
  have h1 := hp
  unfold idxTo at h1
  have h2 := List.find?_some h1
  have h3 := List.mem_range.1 (List.mem_of_find?_eq_some h1)
  refine ⟨p, h3, ?_, ?_⟩
  · unfold idxB; rw [hp]
  · exact bytes_eq.1 h2
/-- what is known of the words of a complete system and of their table -/
structure MonG (k : Int) (R : List RulD) (L : List ByteArray) (ln : List Nat) : Prop where
  few : L.length ≤ 40
  pos : 0 < L.length
  nd : L.Nodup
  head : nthS L 0 = ⟨#[]⟩
  word : ∀ u ∈ L, wordOkB k u = true ∧ u.size ≤ 8
  mem : ∀ u : ByteArray, u ∈ L ↔ okLt k u.data.toList ∧ Irr (SR R) u.data.toList
  len : ln.length = L.length * L.length
  prod : ∀ i j, i < L.length → j < L.length → tm L.length ln i j < L.length ∧ NormIs R (nthS L i ++ nthS L j) (nthS L (tm L.length ln i j))
theorem nth_mem {L : List ByteArray} {i : Nat} (h : i < L.length) : nthS L i ∈ L := by rw [nthS_lt h]; exact List.getElem_mem h
theorem GoM.mon {k : Int} {R : List RulD} {L : List ByteArray} {P : List Int} (hm : MonIs k R L P true) : ∃ ln, P = ln.map Int.ofNat ∧ MonG k R L ln := by
  rcases hm with ⟨_, _, _, h⟩ | ⟨hg, hal, rfl, _⟩
  · cases h
  have hw := hg.words hal
  have hc := hg.1
  have hne := sys_ne hc.1.1
  rcases hal with ⟨_, _, h3⟩ | ⟨kn, h, rfl, h2, _, rfl, _, _⟩
  · cases h3
  have G := sysG_of hc.1
  have hi : Irr (SR R) [] := by
    rw [irr_iff]
    intro p hp x y e
    have h1 := hne p hp
    have h2 := congrArg List.length e
    have h3 : p.1.data.toList.length = p.1.size := rfl
    simp only [List.length_append, List.length_nil] at h2
    omega
  have hmem := mem_out hne G.ne G.k4 h2 hi
  have hpos : 0 < (outTo R kn (h + 1)).length := by
    have : (⟨#[]⟩ : ByteArray) ∈ outTo R kn (h + 1) := (hmem _).2 ⟨fun y hy => (by cases hy), hi⟩
    exact List.length_pos_of_mem this
  have hnd := out_nodup (R := R) (k := kn) G.k4 (h + 1)
  have hhd := out_head R kn h
  generalize outTo R kn (h + 1) = L at *
  have key : ∀ i j, i < L.length → j < L.length → ∃ p, p < L.length ∧ idxB L (nfC R (nthS L i ++ nthS L j)) = (p : Int) ∧ NormIs R (nthS L i ++ nthS L j) (nthS L p) := fun i j hi' hj => by
    obtain ⟨hok, _⟩ := hw.pair hi' hj
    obtain ⟨x, hx, hxo⟩ := NormIs.ex hc.1 _ _ (Nat.lt_succ_self _) hok
    have hx2 : x ∈ L := (hmem x).2 ⟨(wordOk_iff.1 hxo).2.2, (norm_nf hne hx).2⟩
    obtain ⟨p, hp, e1, e2⟩ := idxB_mem hx2
    exact ⟨p, hp, by rw [nfC_eq hx]; exact e1, by rw [e2]; exact hx⟩
  have hlen : (prodF R L).length = L.length * L.length := by
    have := prodTo_len R L L.length 0
    rw [prodTo_done] at this
    omega
  have hat : ∀ i j, i < L.length → j < L.length → tm L.length ((prodF R L).map Int.toNat) i j < L.length ∧ NormIs R (nthS L i ++ nthS L j) (nthS L (tm L.length ((prodF R L).map Int.toNat) i j)) := fun i j hi' hj => by
    obtain ⟨p, hp, e1, e2⟩ := key i j hi' hj
    have e3 : tm L.length ((prodF R L).map Int.toNat) i j = p := by
      unfold tm
      rw [List.getD_eq_getElem?_getD, List.getElem?_map, prodF_at R L hi' hj, e1]
      simp
    rw [e3]
    exact ⟨hp, e2⟩
  refine ⟨(prodF R L).map Int.toNat, ?_, ⟨hw.few, hpos, hnd, hhd, hw.word, hmem, by rw [List.length_map]; exact hlen, hat⟩⟩
  rw [List.map_map]
  symm
  conv => rhs; rw [← List.map_id (prodF R L)]
  apply List.map_congr_left
  intro x hx
  unfold prodF rowTo at hx
  simp only [List.mem_flatMap, List.mem_map, List.mem_range] at hx
  obtain ⟨i, hi', j, hj, rfl⟩ := hx
  obtain ⟨p, _, e1, _⟩ := key i j hi' hj
  rw [e1]
  simp
theorem MonG.tab {k : Int} {R : List RulD} {L : List ByteArray} {ln : List Nat} (h : MonG k R L ln) (hc : ComplP k R) : TabOk L.length ln := by
  have hne := sys_ne hc.1.1
  have hd := sys_dwn hc.1
  have hcr := comp_crit hc
  have hnf : ∀ {u x : ByteArray}, NormIs R u x → Nf (SR R) u.data.toList x.data.toList := fun hx => norm_nf hne hx
  have hirr : ∀ i, i < L.length → Irr (SR R) (nthS L i).data.toList := fun i hi => ((h.mem _).1 (nth_mem hi)).2
  have eq_of : ∀ {p q : Nat} {u : List UInt8}, p < L.length → q < L.length → Nf (SR R) u (nthS L p).data.toList → Nf (SR R) u (nthS L q).data.toList → p = q := fun {p q u} hp hq a b =>
    nodup_nth h.nd hp hq (ba_lists (Nf.uniq hd hcr _ u (Nat.lt_succ_self _) _ _ a b))
  refine ⟨⟨h.pos, h.few, h.len, ?_⟩, ?_, ?_, ?_⟩
  · intro x hx
    obtain ⟨i, hi, rfl⟩ := List.getElem_of_mem hx
    rw [h.len] at hi
    have hm := h.pos
    have h1 : i / L.length < L.length := Nat.div_lt_of_lt_mul hi
    have h2 : i % L.length < L.length := Nat.mod_lt _ hm
    have h3 := (h.prod _ _ h1 h2).1
    have e : i / L.length * L.length + i % L.length = i := by rw [Nat.mul_comm]; exact Nat.div_add_mod i L.length
    unfold tm at h3
    rw [e, List.getD_eq_getElem?_getD, List.getElem?_eq_getElem (by rw [h.len]; exact hi)] at h3
    exact h3
  · intro i hi
    obtain ⟨h1, h2⟩ := h.prod 0 i h.pos hi
    have h3 := hnf h2
    rw [h.head, ByteArray.data_append, Array.toList_append] at h3
    refine eq_of h1 hi h3 ?_
    have e : (⟨#[]⟩ : ByteArray).data.toList ++ (nthS L i).data.toList = (nthS L i).data.toList := rfl
    rw [e]
    exact ⟨.refl _, hirr i hi⟩
  · intro i hi
    obtain ⟨h1, h2⟩ := h.prod i 0 hi h.pos
    have h3 := hnf h2
    rw [h.head, ByteArray.data_append, Array.toList_append] at h3
    refine eq_of h1 hi h3 ?_
    have e : (nthS L i).data.toList ++ (⟨#[]⟩ : ByteArray).data.toList = (nthS L i).data.toList := List.append_nil _
    rw [e]
    exact ⟨.refl _, hirr i hi⟩
  · intro i j l hi hj hl
    obtain ⟨a1, a2⟩ := h.prod i j hi hj
    obtain ⟨b1, b2⟩ := h.prod j l hj hl
    obtain ⟨c1, c2⟩ := h.prod _ l a1 hl
    obtain ⟨d1, d2⟩ := h.prod i _ hi b1
    have A := hnf a2
    have B := hnf b2
    have C := hnf c2
    have D := hnf d2
    rw [ByteArray.data_append, Array.toList_append] at A B C D
    refine eq_of (u := (nthS L i).data.toList ++ ((nthS L j).data.toList ++ (nthS L l).data.toList)) c1 d1 ⟨?_, C.2⟩ ⟨?_, D.2⟩
    · have h1 := A.1.ctx [] (nthS L l).data.toList
      simp only [List.nil_append] at h1
      rw [← List.append_assoc]
      exact h1.trans C.1
    · have h1 := B.1.ctx (nthS L i).data.toList []
      simp only [List.append_nil] at h1
      exact h1.trans D.1
theorem mon_table {k : Int} {R : List RulD} {L : List ByteArray} {P : List Int} (hm : MonIs k R L P true) : ∃ ln, P = ln.map Int.ofNat ∧ TabOk L.length ln ∧ MonG k R L ln := by
  have hg : ComplP k R := by
    rcases hm with ⟨_, _, _, h⟩ | ⟨hg, _⟩
    · cases h
    · exact hg.1
  obtain ⟨ln, h1, h2⟩ := GoM.mon hm
  exact ⟨ln, h1, h2.tab hg, h2⟩
/-- a valid table -/
def TabG (m : Nat) (l : List Int) : Prop := ∃ ln : List Nat, l = ln.map Int.ofNat ∧ TabOk m ln
theorem TabOk.rows {m : Nat} {ln : List Nat} (h : TabOk m ln) : rowsOk m ln = true := by
  refine all_range.2 fun i hi => ?_
  unfold rowOk idn
  rw [Bool.and_eq_true, Bool.and_eq_true, decide_eq_true_eq, decide_eq_true_eq]
  refine ⟨⟨h.left i hi, h.right i hi⟩, all_range.2 fun j hj => all_range.2 fun k hk => ?_⟩
  unfold asc
  rw [decide_eq_true_eq]
  exact h.assoc i j k hi hj hk
theorem TabG.tab {m : Nat} {l : List Int} (h : TabG m l) : tabB (m : Nat) l = true := by
  obtain ⟨ln, rfl, h⟩ := h
  exact tabB_rows h.toTb h.rows
end Go.Proofs.YtgoeadgpbidgiaaGreatDoor
namespace Go.Proofs.YtgoeadgpbidgiaaGreatDoor
open Go.RowKit
set_option linter.unusedVariables false
theorem sorted_extZ : ∀ (l l' : List Int), l.Pairwise (· < ·) → l'.Pairwise (· < ·) → (∀ x, x ∈ l ↔ x ∈ l') → l = l'
  | [], [], _, _, _ => rfl
  | [], b :: l', _, _, h => absurd ((h b).2 (by simp)) (by simp)
  | a :: l, [], _, _, h => absurd ((h a).1 (by simp)) (by simp)
  | a :: l, b :: l', h1, h2, h => by
    rw [List.pairwise_cons] at h1 h2
    have e : a = b := by
      have ha := (h a).1 (by simp)
      have hb := (h b).2 (by simp)
      rcases List.mem_cons.1 ha with e | ha
      · exact e
      · rcases List.mem_cons.1 hb with e | hb
        · exact e.symm
        · have := h1.1 b hb; have := h2.1 a ha; omega
    subst e
    congr 1
    refine sorted_extZ l l' h1.2 h2.2 fun x => ⟨fun hx => ?_, fun hx => ?_⟩
    · rcases List.mem_cons.1 ((h x).1 (by simp [hx])) with e | hx'
      · have := h1.1 x hx; omega
      · exact hx'
    · rcases List.mem_cons.1 ((h x).2 (by simp [hx])) with e | hx'
      · have := h2.1 x hx; omega
      · exact hx'
theorem at_bang {zs : List Int} {j : Nat} (h : j < zs.length) : zs.toArray[j]! = zs[j] := by
  rw [getElem!_pos _ _ (by simpa using h)]; simp
theorem mono_at {zs : List Int} (h : zs.Pairwise (· ≤ ·)) {i j : Nat} (hij : i ≤ j) (hj : j < zs.length) : zs[i]'(by omega) ≤ zs[j] := by
  rcases Nat.lt_or_ge i j with hlt | hge
  · exact (List.pairwise_iff_getElem.1 h) i j (by omega) hj hlt
  · have : i = j := by omega
    subst this; exact Int.le_refl _
theorem compact_lt {zs : List Int} (h : zs.Pairwise (· ≤ ·)) : (Go.Lib.compact zs).Pairwise (· < ·) := by
  unfold Go.Lib.compact Go.Lib.compactUpTo
  rw [List.pairwise_map]
  have h0 : ((List.range zs.length).filter (Go.Lib.keeps zs.toArray)).Pairwise (· < ·) := List.Pairwise.filter _ List.pairwise_lt_range
  refine List.Pairwise.imp_of_mem (fun {i j} hi hj hij => ?_) h0
  have hi' := List.mem_filter.1 hi
  have hj' := List.mem_filter.1 hj
  have hjl := List.mem_range.1 hj'.1
  have hk : zs.toArray[j]! ≠ zs.toArray[j - 1]! := by
    have := hj'.2
    simp only [Go.Lib.keeps, decide_eq_true_eq] at this
    rcases this with e | e
    · omega
    · exact e
  rw [at_bang (by omega), at_bang (by omega)] at hk ⊢
  have h1 := mono_at h (i := i) (j := j - 1) (by omega) (by omega)
  have h2 := mono_at h (i := j - 1) (j := j) (by omega) (by omega)
  omega
theorem compact_mem (zs : List Int) (x : Int) : x ∈ Go.Lib.compact zs ↔ x ∈ zs := by
  unfold Go.Lib.compact Go.Lib.compactUpTo
  constructor
  · intro h
    obtain ⟨i, hi, rfl⟩ := List.mem_map.1 h
    have := List.mem_range.1 (List.mem_filter.1 hi).1
    rw [at_bang this]
    exact List.getElem_mem this
  · intro h
    have key : ∀ i, i < zs.length → zs.toArray[i]! ∈ List.map (zs.toArray[·]!) ((List.range zs.length).filter (Go.Lib.keeps zs.toArray)) := by
      intro i
      induction i with
      | zero => exact fun h => List.mem_map.2 ⟨0, List.mem_filter.2 ⟨List.mem_range.2 h, by simp [Go.Lib.keeps]⟩, rfl⟩
      | succ i ih =>
        intro hi
        by_cases he : zs.toArray[i + 1]! = zs.toArray[i]!
        · rw [he]; exact ih (by omega)
        · exact List.mem_map.2 ⟨i + 1, List.mem_filter.2 ⟨List.mem_range.2 hi, by simp only [Go.Lib.keeps, decide_eq_true_eq]; exact .inr he⟩, rfl⟩
    obtain ⟨i, hi, rfl⟩ := List.getElem_of_mem h
    rw [← at_bang hi]
    exact key i hi
def sortL (l : List Int) : List Int := l.mergeSort fun x y => decide (x ≤ y)
def collL (l : List Int) : List Int := Go.Lib.compact (sortL l)
theorem sortL_len (l : List Int) : (sortL l).length = l.length := by simp [sortL]
theorem sortL_le (l : List Int) : (sortL l).Pairwise (· ≤ ·) := by
  have := List.pairwise_mergeSort (le := fun x y : Int => decide (x ≤ y)) (fun a b c h1 h2 => by simp at *; omega) (fun a b => by simp; omega) l
  exact this.imp fun h => by simpa using h
theorem sortL_mem (l : List Int) (x : Int) : x ∈ sortL l ↔ x ∈ l := by unfold sortL; exact List.mem_mergeSort
theorem listTo_mem (f : Nat → Bool) (m : Nat) (x : Int) : x ∈ listTo f m ↔ ∃ j : Nat, x = j ∧ j < m ∧ f j = true := by
  unfold listTo
  simp only [List.mem_map, List.mem_filter, List.mem_range, Int.ofNat_eq_natCast]
  constructor
  · rintro ⟨j, h, rfl⟩; exact ⟨j, rfl, h⟩
  · rintro ⟨j, rfl, h⟩; exact ⟨j, h, rfl⟩
theorem collL_len (l : List Int) : (collL l).length ≤ l.length := by
  unfold collL Go.Lib.compact Go.Lib.compactUpTo
  rw [List.length_map]
  exact Nat.le_trans (List.length_filter_le _ _) (by simp [sortL])
end Go.Proofs.YtgoeadgpbidgiaaGreatDoor
namespace Go.Proofs.YtgoeadgpbidgiaaGreatDoor
open Go.RowKit
set_option linter.unusedVariables false
set_option maxHeartbeats 400000 in
theorem implTimes_any (m : Nat) (ln : List Nat) (a : Option Addr) (len cap i k : Nat) (w : World) (hl : NatsIn w a ln) (hT : Tb m ln) (hlen : len = m * m) (hi : i < m) (hk : k < m) :
    Calls Tryz.prog 61 #[.agg #[.int .i64 m, .slice a len cap], .int .i64 i, .int .i64 k] w fun e w' => e = .returned (.int .i64 (tm m ln i k : Nat)) ∧ Below w.heap.size w w' := by
  have h1 : i * m + k < len := by rw [hlen]; exact ix_lt hi hk
  have h2 := mul_le hT.hi hi
  have h3 : len ≤ 1600 := by rw [hlen]; exact sq_le hT.hi
  clear hlen
  obtain ⟨b, off, rfl, hb, hc⟩ := hT.cell hl
  have hc1 := hc i k hi hk
  have HT := Lib.hid hT
  clear hc hT hl
  go_enter Tryz.func61, Tryz.ntmps61
  go_wp2
  go_ret
  exact ⟨rfl, (Below.refl _ _).alloc (Nat.le_refl _) _⟩
end Go.Proofs.YtgoeadgpbidgiaaGreatDoor
namespace Go.Proofs.YtgoeadgpbidgiaaGreatDoor
open Go.RowKit
set_option linter.unusedVariables false
/-- a function value that answers p for the numbers of a list in every world that is as w below block B, and keeps what lay there -/
def PredInts (B : Nat) (g : Nat) (caps : Array Value) (p : Int → Bool) (l : List Int) (w : World) : Prop :=
  ∀ j, j < l.length → ∀ W, Below B w W → Calls Tryz.prog g (#[.int .i64 (nthZ l j)] ++ caps) W fun e W' => e = .returned (.bool (p (nthZ l j))) ∧ Below W.heap.size W W'
/-- the first place with a property, or -1 -/
def idxZ (p : Int → Bool) (l : List Int) : Int := match l.findIdx? p with | some i => i | none => -1
/-- none of the first j has it -/
def noneTo (p : Int → Bool) (l : List Int) (j : Nat) : Prop := ∀ i, i < j → p (nthZ l i) = false
theorem noneTo_zero (p : Int → Bool) (l : List Int) : noneTo p l 0 := fun _ h => absurd h (Nat.not_lt_zero _)
theorem noneTo_succ {p : Int → Bool} {l : List Int} {j : Nat} (h : noneTo p l j) (hj : p (nthZ l j) = false) : noneTo p l (j + 1) := fun i hi => by
  by_cases e : i = j
  · rw [e]; exact hj
  · exact h i (by omega)
theorem idxZ_at {p : Int → Bool} {l : List Int} {j : Nat} (h : noneTo p l j) (hlt : j < l.length) (hj : p (nthZ l j) = true) : idxZ p l = j := by
  have : l.findIdx? p = some j := by
    rw [List.findIdx?_eq_some_iff_getElem]
    refine ⟨hlt, by rw [← nthZ_lt hlt]; exact hj, fun i hi => ?_⟩
    have := h i hi
    rw [nthZ_lt (by omega)] at this
    simp [this]
  simp [idxZ, this]
theorem idxZ_none {p : Int → Bool} {l : List Int} {j : Nat} (h : noneTo p l j) (hlt : ¬ j < l.length) : idxZ p l = -1 := by
  have : l.findIdx? p = none := by
    rw [List.findIdx?_eq_none_iff]
    intro x hx
    obtain ⟨i, hi, rfl⟩ := List.getElem_of_mem hx
    rw [← nthZ_lt hi]
    exact h i (by omega)
  simp [idxZ, this]
theorem idxZ_nonneg (p : Int → Bool) (l : List Int) : decide (0 ≤ idxZ p l) = l.any p := by
  unfold idxZ
  cases h : l.findIdx? p
  · rw [List.findIdx?_eq_none_iff] at h
    have : l.any p = false := by rw [List.any_eq_false]; intro x hx; simp [h x hx]
    simp [this]
  · rename_i i
    rw [List.findIdx?_eq_some_iff_getElem] at h
    obtain ⟨hi, hp, _⟩ := h
    have : l.any p = true := by rw [List.any_eq_true]; exact ⟨l[i], List.getElem_mem hi, hp⟩
    simp [this]
set_option maxHeartbeats 400000 in
theorem indexFuncInts_any (g : Nat) (caps : Array Value) (p : Int → Bool) (l : List Int) (a : Option Addr) (cap : Nat) (w : World) (hl : IntsIn w a l) (hlen : l.length ≤ 2 ^ 47)
    (B : Nat) (hB : B ≤ w.heap.size) (hf : PredInts B g caps p l w) (eg : ∀ args w, (callFunc g args).run Tryz.prog w = .ok (.enter g args) w) :
    Calls Tryz.prog 148 #[.slice a l.length cap, .func (.func g) #[] caps] w fun e w' => e = .returned (.int .i64 (idxZ p l)) ∧ Below w.heap.size w w' := by
  have HF := Lib.hid hf
  clear hf
  go_enter Tryz.func148, Tryz.ntmps148
  go_wp2
  go_loopw [8] (fun i wr => ∃ j : Nat, j ≤ l.length ∧ i = .int .i64 j ∧ noneTo p l j ∧ Below w.heap.size w wr) (fun i _ => l.length - (intOf i).toNat)
  case atStart => exact ⟨0, Nat.zero_le _, rfl, noneTo_zero _ _, Below.refl _ _⟩
  case round =>
    obtain ⟨j, hj, rfl, hall, hbel⟩ := hrel
    have H := Lib.hid hall
    clear hall
    by_cases hlt : j < l.length
    · obtain ⟨b, off, rfl, hb, hc⟩ := hl.cell hlt
      have h1 : wr.cell? ⟨b, off + j, none⟩ = some (.int .i64 (nthZ l j)) := by rw [hbel.cell hb]; exact hc j hlt
      clear hc
      cases hp : p (nthZ l j)
      · have F := Lib.hid (noneTo_succ H.out hp)
        go_wp2_with fail
        refine (HF.out j hlt _ (hbel.mono hB)).mono ?_
        rintro e w2 ⟨rfl, hb2⟩
        have hbel2 := Below.now hbel hb2
        clear hb2 h1 hbel
        go_wp2_with fail
        go_roundw
        case rel => exact ⟨j + 1, by omega, by go_num, F.out, hbel2⟩
        case measure => simp [intOf]; omega
      · have F := Lib.hid (idxZ_at H.out hlt hp)
        go_wp2_with fail
        refine (HF.out j hlt _ (hbel.mono hB)).mono ?_
        rintro e w2 ⟨rfl, hb2⟩
        have hbel2 := Below.now hbel hb2
        clear hb2 h1 hbel
        go_wp2_with fail
        go_ret
        exact ⟨ret_int F.out.symm, hbel2⟩
    · have F := Lib.hid (idxZ_none H.out hlt)
      go_wp2_with fail
      go_ret
      exact ⟨ret_int F.out.symm, hbel⟩
set_option maxHeartbeats 400000 in
theorem containsFuncInts_any (g : Nat) (caps : Array Value) (p : Int → Bool) (l : List Int) (a : Option Addr) (cap : Nat) (w : World) (hl : IntsIn w a l) (hlen : l.length ≤ 2 ^ 47)
    (B : Nat) (hB : B ≤ w.heap.size) (hf : PredInts B g caps p l w) (eg : ∀ args w, (callFunc g args).run Tryz.prog w = .ok (.enter g args) w) :
    Calls Tryz.prog 106 #[.slice a l.length cap, .func (.func g) #[] caps] w fun e w' => e = .returned (.bool (l.any p)) ∧ Below w.heap.size w w' := by
  have HC := Lib.hid (indexFuncInts_any g caps p l a cap w hl hlen B hB hf eg)
  have HI := Lib.hid (idxZ_nonneg p l)
  clear hf eg hl
  go_enter Tryz.func106, Tryz.ntmps106
  go_wp2_with fail
  refine HC.out.mono ?_
  rintro e w2 ⟨rfl, hb2⟩
  go_wp2_with fail
  go_ret
  exact ⟨ret_bool HI.out, hb2⟩
/-- the closure of allWithin -/
theorem allWithinPred (lo hi : Int) (l : List Int) (w : World) (b1 b2 : Nat) (hb1 : b1 < w.heap.size) (hb2 : b2 < w.heap.size)
    (h1 : w.cell? ⟨b1, 0, none⟩ = some (.int .i64 lo)) (h2 : w.cell? ⟨b2, 0, none⟩ = some (.int .i64 hi)) :
    PredInts w.heap.size 107 #[.pointer (some ⟨b1, 0, none⟩), .pointer (some ⟨b2, 0, none⟩)] (fun x => !inB x lo hi) l w := by
  intro j hj W hW
  have g1 : W.cell? ⟨b1, 0, none⟩ = some (.int .i64 lo) := by rw [hW.cell hb1]; exact h1
  have g2 : W.cell? ⟨b2, 0, none⟩ = some (.int .i64 hi) := by rw [hW.cell hb2]; exact h2
  clear h1 h2 hW hb1 hb2
  go_enter Tryz.func107, Tryz.ntmps107
  go_wp2_with (go_at_call 53; refine (within_any _ _ _ _).mono ?_; rintro e w' ⟨rfl, rfl⟩)
  go_ret
  exact ⟨rfl, Below.refl _ _⟩
theorem any_not_all {α : Type} (l : List α) (p : α → Bool) : (!l.any fun x => !p x) = l.all p := by simp [List.all_eq_not_any_not]
set_option maxHeartbeats 400000 in
theorem allWithin_any (lo hi : Int) (l : List Int) (a : Option Addr) (cap : Nat) (w : World) (hl : IntsIn w a l) (hlen : l.length ≤ 2 ^ 47) :
    Calls Tryz.prog 60 #[.slice a l.length cap, .int .i64 lo, .int .i64 hi] w fun e w' => e = .returned (.bool (l.all fun x => inB x lo hi)) ∧ Below w.heap.size w w' := by
  have HA := Lib.hid (any_not_all l fun x => inB x lo hi)
  have HC : Hid (∀ W b1 b2, IntsIn W a l → PredInts W.heap.size 107 #[.pointer (some ⟨b1, 0, none⟩), .pointer (some ⟨b2, 0, none⟩)] (fun x => !inB x lo hi) l W → _) :=
    fun W b1 b2 h1 h2 => containsFuncInts_any 107 #[.pointer (some ⟨b1, 0, none⟩), .pointer (some ⟨b2, 0, none⟩)] (fun x => !inB x lo hi) l a cap W h1 hlen W.heap.size (Nat.le_refl _) h2 (enters_of Tryz.func107 (by kernel_rfl) rfl)
  have HL := Lib.hid hl
  clear hl
  go_enter Tryz.func60, Tryz.ntmps60
  go_wp2_with fail
  refine (HC.out _ _ _ (HL.out.later (((Below.refl _ _).alloc (Nat.le_refl _) _).alloc (by simp) _)) (allWithinPred lo hi l _ _ _ (by simp; omega) (by simp) (by simp) (by simp))).mono ?_
  rintro e w2 ⟨rfl, hb2⟩
  have hbel := Below.now (((Below.refl w.heap.size w).alloc (Nat.le_refl _) _).alloc (by simp) _) hb2
  clear hb2
  go_wp2_with fail
  go_ret
  exact ⟨ret_bool HA.out, hbel⟩
end Go.Proofs.YtgoeadgpbidgiaaGreatDoor
