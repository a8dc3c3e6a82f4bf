/-
  The table of a complete system is a valid one: its words are the irreducible ones, and products are normal forms.
-/
import Derived.Test.YtggfhephdcnpcaaGreatGrp28
import Derived.Test.YtggfhephdcnpcaaGreatGrp17
import Derived.Test.YtggfhephdcnpcaaGreatGrp07
namespace Go.Proofs.YtggfhephdcnpcaaGreat
open Go.RowKit
set_option linter.unusedVariables false
theorem irr_iff {R : List RulD} {v : List UInt8} : Irr (SR R) v ↔ ∀ p ∈ R, ∀ x y, v ≠ x ++ (p.1.data.toList ++ y) := by
  constructor
  · intro h p hp x y e
    exact h _ ⟨x, _, _, y, ⟨p, hp, rfl, rfl⟩, e, rfl⟩
  · rintro h u ⟨x, _, _, y, ⟨p, hp, rfl, rfl⟩, e, rfl⟩
    exact h p hp x y e
theorem irr_pre {R : List RulD} {u t : List UInt8} (h : Irr (SR R) (u ++ t)) : Irr (SR R) u := by
  rw [irr_iff] at *
  intro p hp x y e
  exact h p hp x (y ++ t) (by rw [e]; simp [List.append_assoc])
theorem okX_irr {R : List RulD} {w : ByteArray} {x : Nat} (h : Irr (SR R) (w ++ letterN x).data.toList) : okX R w x = true := by
  unfold okX
  rw [Bool.not_eq_true', Bool.eq_false_iff]
  intro he
  obtain ⟨r, hr, hs⟩ := endsR_iff.1 he
  unfold sufBB at hs
  obtain ⟨t, ht⟩ := List.isSuffixOf_iff_suffix.1 hs
  rw [irr_iff] at h
  exact h r hr t [] (by rw [List.append_nil]; exact ht.symm)
theorem irr_snoc {R : List RulD} (hne : ∀ r ∈ R, r.1.size ≠ 0) {w : ByteArray} {x : Nat} (h : Irr (SR R) w.data.toList) (hx : okX R w x = true) : Irr (SR R) (w ++ letterN x).data.toList := by
  rw [irr_iff] at *
  intro p hp a b e
  rw [app_lt] at e
  rcases List.eq_nil_or_concat b with rfl | ⟨b', y, rfl⟩
  · unfold okX at hx
    rw [Bool.not_eq_true', Bool.eq_false_iff] at hx
    refine hx (endsR_iff.2 ⟨p, hp, ?_⟩)
    unfold sufBB
    rw [List.isSuffixOf_iff_suffix, app_lt]
    exact ⟨a, by rw [e]; simp⟩
  · rw [List.concat_eq_append] at e
    have e2 : w.data.toList ++ [lt97 x] = (a ++ (p.1.data.toList ++ b')) ++ [y] := by rw [e]; simp [List.append_assoc]
    obtain ⟨h1, _⟩ := List.append_inj' e2 rfl
    exact h p hp a b' h1
theorem wordsF_irr {R : List RulD} (hne : ∀ r ∈ R, r.1.size ≠ 0) (k : Nat) : ∀ (m : Nat) (w : ByteArray), Irr (SR R) w.data.toList → ∀ u ∈ wordsF R k m w, Irr (SR R) u.data.toList
  | 0, w, hw, u, hu => by rw [List.mem_singleton.1 hu]; exact hw
  | m + 1, w, hw, u, hu => by
    obtain ⟨x, _, h2⟩ := List.mem_flatMap.1 hu
    split at h2
    · rename_i hx
      exact wordsF_irr hne k m _ (irr_snoc hne hw hx) u h2
    · cases h2
theorem irr_wordsF {R : List RulD} {k : Nat} : ∀ (t : List UInt8) (w u : ByteArray), (∀ y ∈ t, ∃ x, x < k ∧ y = lt97 x) → u.data.toList = w.data.toList ++ t → Irr (SR R) u.data.toList → u ∈ wordsF R k t.length w
  | [], w, u, _, e, _ => by
    have : u = w := ba_ext0 (by rw [e]; simp)
    rw [this]; exact List.mem_singleton.2 rfl
  | y :: t, w, u, hy, e, h => by
    obtain ⟨x, hx, rfl⟩ := hy y List.mem_cons_self
    have h1 : Irr (SR R) (w ++ letterN x).data.toList := by
      rw [app_lt]
      exact irr_pre (t := t) (by rw [List.append_assoc]; simpa [e] using h)
    refine List.mem_flatMap.2 ⟨x, List.mem_range.2 hx, ?_⟩
    rw [if_pos (okX_irr h1)]
    exact irr_wordsF t (w ++ letterN x) u (fun z hz => hy z (List.mem_cons_of_mem _ hz)) (by rw [e, app_lt, List.append_assoc]; rfl) h
theorem let_lt97 {k : Nat} {v : List UInt8} (h : okLt (k : Int) v) : ∀ y ∈ v, ∃ x, x < k ∧ y = lt97 x := fun y hy => by
  have h1 := letB_true (h y hy)
  refine ⟨y.toNat - 97, by omega, ?_⟩
  apply UInt8.toNat_inj.1
  have h2 := y.toNat_lt
  unfold lt97
  simp
  omega
/-- the words are the irreducible ones -/
theorem mem_out {R : List RulD} {k h : Nat} (hne : ∀ r ∈ R, r.1.size ≠ 0) (hL : LeftsP R) (hk : k ≤ 4) (hh : HtIs R k ⟨#[]⟩ (h : Int)) (hi : Irr (SR R) []) (u : ByteArray) : u ∈ outTo R k (h + 1) ↔ okLt (k : Int) u.data.toList ∧ Irr (SR R) u.data.toList := by
  constructor
  · intro hu
    obtain ⟨m, hm, h2⟩ := mem_outTo hu
    exact ⟨wordsF_ok hk m _ (fun y hy => by cases hy) u h2, wordsF_irr hne k m _ hi u h2⟩
  · rintro ⟨h1, h2⟩
    have hu := irr_wordsF (k := k) u.data.toList ⟨#[]⟩ u (let_lt97 h1) (by simp) h2
    have hlen : u.data.toList.length ≤ h := by
      refine Nat.le_of_not_lt fun hlt => ?_
      have e : u.data.toList = u.data.toList.take (h + 1) ++ u.data.toList.drop (h + 1) := (List.take_append_drop _ _).symm
      have h3 : Irr (SR R) (⟨(u.data.toList.take (h + 1)).toArray⟩ : ByteArray).data.toList := by
        show Irr (SR R) (u.data.toList.take (h + 1))
        rw [e] at h2
        exact irr_pre h2
      have h4 := irr_wordsF (k := k) (u.data.toList.take (h + 1)) ⟨#[]⟩ ⟨(u.data.toList.take (h + 1)).toArray⟩ (fun y hy => let_lt97 h1 y (List.mem_of_mem_take hy)) (by simp) h3
      rw [List.length_take, Nat.min_eq_left (by omega)] at h4
      have h5 := wordsF_len hL k (h + 1) ⟨#[]⟩
      rcases hh with ⟨h6, _⟩ | ⟨n, h6, _, h7⟩
      · omega
      · obtain rfl : h = n := by omega
        rw [h7] at h5
        rw [List.eq_nil_of_length_eq_zero h5] at h4
        cases h4
    exact List.mem_flatMap.2 ⟨_, List.mem_range.2 (by omega), hu⟩
theorem out_nodup {R : List RulD} {k : Nat} (hk : k ≤ 4) (n : Nat) : (outTo R k n).Nodup := by
  unfold outTo
  rw [List.Nodup, List.pairwise_flatMap]
  refine ⟨fun m _ => ?_, ?_⟩
  · refine (wordsF_rise hk m _).imp fun {a b} hab e => ?_
    subst e
    have h1 := less_app a.data.toList [] []
    simp only [List.append_nil] at h1
    unfold ltB at hab
    rw [h1] at hab
    cases hab
  · refine List.pairwise_lt_range.imp fun {m m'} hlt a ha b hb e => ?_
    subst e
    have h1 := wordsF_size R k m _ a ha
    have h2 := wordsF_size R k m' _ a hb
    omega
theorem out_head (R : List RulD) (k n : Nat) : nthS (outTo R k (n + 1)) 0 = ⟨#[]⟩ := by
  unfold outTo
  rw [List.range_succ_eq_map, List.flatMap_cons]
  rfl
theorem prodTo_pre1 (R : List RulD) (L : List ByteArray) (i : Nat) : ∀ (d j : Nat), prodTo R L i j <+: prodTo R L i (j + d)
  | 0, j => List.prefix_refl _
  | d + 1, j => by
    refine (prodTo_pre1 R L i d j).trans ?_
    rw [← Nat.add_assoc, prodTo_step]
    exact List.prefix_append _ _
theorem prodTo_pre2 (R : List RulD) (L : List ByteArray) : ∀ (d i : Nat), prodTo R L i 0 <+: prodTo R L (i + d) 0
  | 0, i => List.prefix_refl _
  | d + 1, i => by
    refine (prodTo_pre2 R L d i).trans ?_
    rw [← Nat.add_assoc, ← prodTo_next]
    have := prodTo_pre1 R L (i + d) L.length 0
    rwa [Nat.zero_add] at this
theorem prodF_at (R : List RulD) (L : List ByteArray) {i j : Nat} (hi : i < L.length) (hj : j < L.length) : (prodF R L)[i * L.length + j]? = some (idxB L (nfC R (nthS L i ++ nthS L j))) := by
  have h1 := prodTo_pre1 R L i (L.length - (j + 1)) (j + 1)
  rw [show j + 1 + (L.length - (j + 1)) = L.length by omega, prodTo_next] at h1
  have h2 := prodTo_pre2 R L (L.length - (i + 1)) (i + 1)
  rw [show i + 1 + (L.length - (i + 1)) = L.length by omega, prodTo_done] at h2
  obtain ⟨t, ht⟩ := h1.trans h2
  have hl := prodTo_len R L i j
  rw [← ht, prodTo_step, List.append_assoc, List.getElem?_append_right (by omega), hl]
  simp
theorem nodup_nth {L : List ByteArray} (h : L.Nodup) {p q : Nat} (hp : p < L.length) (hq : q < L.length) (e : nthS L p = nthS L q) : p = q := by
  rw [nthS_lt hp, nthS_lt hq] at e
  have h1 := List.pairwise_iff_getElem.1 h
  rcases Nat.lt_trichotomy p q with h2 | h2 | h2
  · exact absurd e (h1 p q hp hq h2)
  · exact h2
  · exact absurd e.symm (h1 q p hq hp h2)
theorem idxB_mem {L : List ByteArray} {v : ByteArray} (h : v ∈ L) : ∃ p, p < L.length ∧ idxB L v = (p : Int) ∧ nthS L p = v := by
  have hf : ∃ p, idxTo L v L.length = some p := by
    obtain ⟨q, hq, e⟩ := List.getElem_of_mem h
    cases hc : idxTo L v L.length with
    | some p => exact ⟨p, rfl⟩
    | none =>
      unfold idxTo at hc
      rw [List.find?_eq_none] at hc
      have := hc q (List.mem_range.2 hq)
      rw [nthS_lt hq, e] at this
      simp at this
  obtain ⟨p, hp⟩ := hf
  have h1 := hp
  unfold idxTo at h1
  have h2 := List.find?_some h1
  have h3 := List.mem_range.1 (List.mem_of_find?_eq_some h1)
  refine ⟨p, h3, ?_, ?_⟩
  · unfold idxB; rw [hp]
  · exact bytes_eq.1 h2
/-- what is known of the words of a complete system and of their table -/
structure MonG (k : Int) (R : List RulD) (L : List ByteArray) (ln : List Nat) : Prop where
  few : L.length ≤ 40
  pos : 0 < L.length
  nd : L.Nodup
  head : nthS L 0 = ⟨#[]⟩
  word : ∀ u ∈ L, wordOkB k u = true ∧ u.size ≤ 8
  mem : ∀ u : ByteArray, u ∈ L ↔ okLt k u.data.toList ∧ Irr (SR R) u.data.toList
  len : ln.length = L.length * L.length
  prod : ∀ i j, i < L.length → j < L.length → tm L.length ln i j < L.length ∧ NormIs R (nthS L i ++ nthS L j) (nthS L (tm L.length ln i j))
theorem nth_mem {L : List ByteArray} {i : Nat} (h : i < L.length) : nthS L i ∈ L := by rw [nthS_lt h]; exact List.getElem_mem h
theorem GoM.mon {k : Int} {R : List RulD} {L : List ByteArray} {P : List Int} (hm : MonIs k R L P true) : ∃ ln, P = ln.map Int.ofNat ∧ MonG k R L ln := by
  rcases hm with ⟨_, _, _, h⟩ | ⟨hg, hal, rfl, _⟩
  · cases h
  have hw := hg.words hal
  have hc := hg.1
  have hne := sys_ne hc.1.1
  rcases hal with ⟨_, _, h3⟩ | ⟨kn, h, rfl, h2, _, rfl, _, _⟩
  · cases h3
  have G := sysG_of hc.1
  have hi : Irr (SR R) [] := by
    rw [irr_iff]
    intro p hp x y e
    have h1 := hne p hp
    have h2 := congrArg List.length e
    have h3 : p.1.data.toList.length = p.1.size := rfl
    simp only [List.length_append, List.length_nil] at h2
    omega
  have hmem := mem_out hne G.ne G.k4 h2 hi
  have hpos : 0 < (outTo R kn (h + 1)).length := by
    have : (⟨#[]⟩ : ByteArray) ∈ outTo R kn (h + 1) := (hmem _).2 ⟨fun y hy => (by cases hy), hi⟩
    exact List.length_pos_of_mem this
  have hnd := out_nodup (R := R) (k := kn) G.k4 (h + 1)
  have hhd := out_head R kn h
  generalize outTo R kn (h + 1) = L at *
  have key : ∀ i j, i < L.length → j < L.length → ∃ p, p < L.length ∧ idxB L (nfC R (nthS L i ++ nthS L j)) = (p : Int) ∧ NormIs R (nthS L i ++ nthS L j) (nthS L p) := fun i j hi' hj => by
    obtain ⟨hok, _⟩ := hw.pair hi' hj
    obtain ⟨x, hx, hxo⟩ := NormIs.ex hc.1 _ _ (Nat.lt_succ_self _) hok
    have hx2 : x ∈ L := (hmem x).2 ⟨(wordOk_iff.1 hxo).2.2, (norm_nf hne hx).2⟩
    obtain ⟨p, hp, e1, e2⟩ := idxB_mem hx2
    exact ⟨p, hp, by rw [nfC_eq hx]; exact e1, by rw [e2]; exact hx⟩
  have hlen : (prodF R L).length = L.length * L.length := by
    have := prodTo_len R L L.length 0
    rw [prodTo_done] at this
    omega
  have hat : ∀ i j, i < L.length → j < L.length → tm L.length ((prodF R L).map Int.toNat) i j < L.length ∧ NormIs R (nthS L i ++ nthS L j) (nthS L (tm L.length ((prodF R L).map Int.toNat) i j)) := fun i j hi' hj => by
    obtain ⟨p, hp, e1, e2⟩ := key i j hi' hj
    have e3 : tm L.length ((prodF R L).map Int.toNat) i j = p := by
      unfold tm
      rw [List.getD_eq_getElem?_getD, List.getElem?_map, prodF_at R L hi' hj, e1]
      simp
    rw [e3]
    exact ⟨hp, e2⟩
  refine ⟨(prodF R L).map Int.toNat, ?_, ⟨hw.few, hpos, hnd, hhd, hw.word, hmem, by rw [List.length_map]; exact hlen, hat⟩⟩
  rw [List.map_map]
  symm
  conv => rhs; rw [← List.map_id (prodF R L)]
  apply List.map_congr_left
  intro x hx
  unfold prodF rowTo at hx
  simp only [List.mem_flatMap, List.mem_map, List.mem_range] at hx
  obtain ⟨i, hi', j, hj, rfl⟩ := hx
  obtain ⟨p, _, e1, _⟩ := key i j hi' hj
  rw [e1]
  simp
theorem MonG.tab {k : Int} {R : List RulD} {L : List ByteArray} {ln : List Nat} (h : MonG k R L ln) (hc : ComplP k R) : TabOk L.length ln := by
  have hne := sys_ne hc.1.1
  have hd := sys_dwn hc.1
  have hcr := comp_crit hc
  have hnf : ∀ {u x : ByteArray}, NormIs R u x → Nf (SR R) u.data.toList x.data.toList := fun hx => norm_nf hne hx
  have hirr : ∀ i, i < L.length → Irr (SR R) (nthS L i).data.toList := fun i hi => ((h.mem _).1 (nth_mem hi)).2
  have eq_of : ∀ {p q : Nat} {u : List UInt8}, p < L.length → q < L.length → Nf (SR R) u (nthS L p).data.toList → Nf (SR R) u (nthS L q).data.toList → p = q := fun {p q u} hp hq a b =>
    nodup_nth h.nd hp hq (ba_lists (Nf.uniq hd hcr _ u (Nat.lt_succ_self _) _ _ a b))
  refine ⟨⟨h.pos, h.few, h.len, ?_⟩, ?_, ?_, ?_⟩
  · intro x hx
    obtain ⟨i, hi, rfl⟩ := List.getElem_of_mem hx
    rw [h.len] at hi
    have hm := h.pos
    have h1 : i / L.length < L.length := Nat.div_lt_of_lt_mul hi
    have h2 : i % L.length < L.length := Nat.mod_lt _ hm
    have h3 := (h.prod _ _ h1 h2).1
    have e : i / L.length * L.length + i % L.length = i := by rw [Nat.mul_comm]; exact Nat.div_add_mod i L.length
    unfold tm at h3
    rw [e, List.getD_eq_getElem?_getD, List.getElem?_eq_getElem (by rw [h.len]; exact hi)] at h3
    exact h3
  · intro i hi
    obtain ⟨h1, h2⟩ := h.prod 0 i h.pos hi
    have h3 := hnf h2
    rw [h.head, ByteArray.data_append, Array.toList_append] at h3
    refine eq_of h1 hi h3 ?_
    have e : (⟨#[]⟩ : ByteArray).data.toList ++ (nthS L i).data.toList = (nthS L i).data.toList := rfl
    rw [e]
    exact ⟨.refl _, hirr i hi⟩
  · intro i hi
    obtain ⟨h1, h2⟩ := h.prod i 0 hi h.pos
    have h3 := hnf h2
    rw [h.head, ByteArray.data_append, Array.toList_append] at h3
    refine eq_of h1 hi h3 ?_
    have e : (nthS L i).data.toList ++ (⟨#[]⟩ : ByteArray).data.toList = (nthS L i).data.toList := List.append_nil _
    rw [e]
    exact ⟨.refl _, hirr i hi⟩
  · intro i j l hi hj hl
    obtain ⟨a1, a2⟩ := h.prod i j hi hj
    obtain ⟨b1, b2⟩ := h.prod j l hj hl
    obtain ⟨c1, c2⟩ := h.prod _ l a1 hl
    obtain ⟨d1, d2⟩ := h.prod i _ hi b1
    have A := hnf a2
    have B := hnf b2
    have C := hnf c2
    have D := hnf d2
    rw [ByteArray.data_append, Array.toList_append] at A B C D
    refine eq_of (u := (nthS L i).data.toList ++ ((nthS L j).data.toList ++ (nthS L l).data.toList)) c1 d1 ⟨?_, C.2⟩ ⟨?_, D.2⟩
    · have h1 := A.1.ctx [] (nthS L l).data.toList
      simp only [List.nil_append] at h1
      rw [← List.append_assoc]
      exact h1.trans C.1
    · have h1 := B.1.ctx (nthS L i).data.toList []
      simp only [List.append_nil] at h1
      exact h1.trans D.1
theorem mon_table {k : Int} {R : List RulD} {L : List ByteArray} {P : List Int} (hm : MonIs k R L P true) : ∃ ln, P = ln.map Int.ofNat ∧ TabOk L.length ln ∧ MonG k R L ln := by
  have hg : ComplP k R := by
    rcases hm with ⟨_, _, _, h⟩ | ⟨hg, _⟩
    · cases h
    · exact hg.1
  obtain ⟨ln, h1, h2⟩ := GoM.mon hm
  exact ⟨ln, h1, h2.tab hg, h2⟩
/-- a valid table -/
def TabG (m : Nat) (l : List Int) : Prop := ∃ ln : List Nat, l = ln.map Int.ofNat ∧ TabOk m ln
theorem TabOk.rows {m : Nat} {ln : List Nat} (h : TabOk m ln) : rowsOk m ln = true := by
  refine all_range.2 fun i hi => ?_
  unfold rowOk idn
  rw [Bool.and_eq_true, Bool.and_eq_true, decide_eq_true_eq, decide_eq_true_eq]
  refine ⟨⟨h.left i hi, h.right i hi⟩, all_range.2 fun j hj => all_range.2 fun k hk => ?_⟩
  unfold asc
  rw [decide_eq_true_eq]
  exact h.assoc i j k hi hj hk
theorem TabG.tab {m : Nat} {l : List Int} (h : TabG m l) : tabB (m : Nat) l = true := by
  obtain ⟨ln, rfl, h⟩ := h
  exact tabB_rows h.toTb h.rows
end Go.Proofs.YtggfhephdcnpcaaGreat
