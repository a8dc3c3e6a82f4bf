/-
  Spheres, antipodes and units: counts over the distances.
-/
import Derived.Test.YtmgdglghjlggnaaGreatGway21
import Derived.Test.YtmgdglghjlggnaaGreatGway15
import Derived.Test.YtmgdglghjlggnaaGreatGway04
import Derived.Test.YtmgdglghjlggnaaGreatGway17
import Derived.Test.YtmgdglghjlggnaaGreatGway05
import Derived.Test.YtmgdglghjlggnaaGreatGway09
import Derived.Test.YtmgdglghjlggnaaGreatGway06
namespace Go.Proofs.YtmgdglghjlggnaaGreat
open Go.RowKit
set_option linter.unusedVariables false
theorem irr_iff {R : List RulD} {v : List UInt8} : Irr (SR R) v ↔ ∀ p ∈ R, ∀ x y, v ≠ x ++ (p.1.data.toList ++ y) := by
  constructor
  · intro h p hp x y e
    exact h _ ⟨x, _, _, y, ⟨p, hp, rfl, rfl⟩, e, rfl⟩
  · rintro h u ⟨x, _, _, y, ⟨p, hp, rfl, rfl⟩, e, rfl⟩
    exact h p hp x y e
theorem irr_pre {R : List RulD} {u t : List UInt8} (h : Irr (SR R) (u ++ t)) : Irr (SR R) u := by
  rw [irr_iff] at *
  intro p hp x y e
  exact h p hp x (y ++ t) (by rw [e]; simp [List.append_assoc])
theorem okX_irr {R : List RulD} {w : ByteArray} {x : Nat} (h : Irr (SR R) (w ++ letterN x).data.toList) : okX R w x = true := by
  unfold okX
  rw [Bool.not_eq_true', Bool.eq_false_iff]
  intro he
  obtain ⟨r, hr, hs⟩ := endsR_iff.1 he
  unfold sufBB at hs
  obtain ⟨t, ht⟩ := List.isSuffixOf_iff_suffix.1 hs
  rw [irr_iff] at h
  exact h r hr t [] (by rw [List.append_nil]; exact ht.symm)
theorem irr_snoc {R : List RulD} (hne : ∀ r ∈ R, r.1.size ≠ 0) {w : ByteArray} {x : Nat} (h : Irr (SR R) w.data.toList) (hx : okX R w x = true) : Irr (SR R) (w ++ letterN x).data.toList := by
  rw [irr_iff] at *
  intro p hp a b e
  rw [app_lt] at e
  rcases List.eq_nil_or_concat b with rfl | ⟨b', y, rfl⟩
  · unfold okX at hx
    rw [Bool.not_eq_true', Bool.eq_false_iff] at hx
    refine hx (endsR_iff.2 ⟨p, hp, ?_⟩)
    unfold sufBB
    rw [List.isSuffixOf_iff_suffix, app_lt]
    exact ⟨a, by rw [e]; simp⟩
  · rw [List.concat_eq_append] at e
    have e2 : w.data.toList ++ [lt97 x] = (a ++ (p.1.data.toList ++ b')) ++ [y] := by rw [e]; simp [List.append_assoc]
    obtain ⟨h1, _⟩ := List.append_inj' e2 rfl
    exact h p hp a b' h1
theorem wordsF_irr {R : List RulD} (hne : ∀ r ∈ R, r.1.size ≠ 0) (k : Nat) : ∀ (m : Nat) (w : ByteArray), Irr (SR R) w.data.toList → ∀ u ∈ wordsF R k m w, Irr (SR R) u.data.toList
  | 0, w, hw, u, hu => by rw [List.mem_singleton.1 hu]; exact hw
  | m + 1, w, hw, u, hu => by
    obtain ⟨x, _, h2⟩ := List.mem_flatMap.1 hu
    split at h2
    · rename_i hx
      exact wordsF_irr hne k m _ (irr_snoc hne hw hx) u h2
    · cases h2
theorem irr_wordsF {R : List RulD} {k : Nat} : ∀ (t : List UInt8) (w u : ByteArray), (∀ y ∈ t, ∃ x, x < k ∧ y = lt97 x) → u.data.toList = w.data.toList ++ t → Irr (SR R) u.data.toList → u ∈ wordsF R k t.length w
  | [], w, u, _, e, _ => by
    have : u = w := ba_ext0 (by rw [e]; simp)
    rw [this]; exact List.mem_singleton.2 rfl
  | y :: t, w, u, hy, e, h => by
    obtain ⟨x, hx, rfl⟩ := hy y List.mem_cons_self
    have h1 : Irr (SR R) (w ++ letterN x).data.toList := by
      rw [app_lt]
      exact irr_pre (t := t) (by rw [List.append_assoc]; simpa [e] using h)
    refine List.mem_flatMap.2 ⟨x, List.mem_range.2 hx, ?_⟩
    rw [if_pos (okX_irr h1)]
    exact irr_wordsF t (w ++ letterN x) u (fun z hz => hy z (List.mem_cons_of_mem _ hz)) (by rw [e, app_lt, List.append_assoc]; rfl) h
theorem let_lt97 {k : Nat} {v : List UInt8} (h : okLt (k : Int) v) : ∀ y ∈ v, ∃ x, x < k ∧ y = lt97 x := fun y hy => by
  have h1 := letB_true (h y hy)
  refine ⟨y.toNat - 97, by omega, ?_⟩
  apply UInt8.toNat_inj.1
  have h2 := y.toNat_lt
  unfold lt97
  simp
  omega
/-- the words are the irreducible ones -/
theorem mem_out {R : List RulD} {k h : Nat} (hne : ∀ r ∈ R, r.1.size ≠ 0) (hL : LeftsP R) (hk : k ≤ 4) (hh : HtIs R k ⟨#[]⟩ (h : Int)) (hi : Irr (SR R) []) (u : ByteArray) : u ∈ outTo R k (h + 1) ↔ okLt (k : Int) u.data.toList ∧ Irr (SR R) u.data.toList := by
  constructor
  · intro hu
    obtain ⟨m, hm, h2⟩ := mem_outTo hu
    exact ⟨wordsF_ok hk m _ (fun y hy => by cases hy) u h2, wordsF_irr hne k m _ hi u h2⟩
  · rintro ⟨h1, h2⟩
    have hu := irr_wordsF (k := k) u.data.toList ⟨#[]⟩ u (let_lt97 h1) (by simp) h2
    have hlen : u.data.toList.length ≤ h := by
      refine Nat.le_of_not_lt fun hlt => ?_
      have e : u.data.toList = u.data.toList.take (h + 1) ++ u.data.toList.drop (h + 1) := (List.take_append_drop _ _).symm
      have h3 : Irr (SR R) (⟨(u.data.toList.take (h + 1)).toArray⟩ : ByteArray).data.toList := by
        show Irr (SR R) (u.data.toList.take (h + 1))
        rw [e] at h2
        exact irr_pre h2
      have h4 := irr_wordsF (k := k) (u.data.toList.take (h + 1)) ⟨#[]⟩ ⟨(u.data.toList.take (h + 1)).toArray⟩ (fun y hy => let_lt97 h1 y (List.mem_of_mem_take hy)) (by simp) h3
      rw [List.length_take, Nat.min_eq_left (by omega)] at h4
      have h5 := wordsF_len hL k (h + 1) ⟨#[]⟩
      rcases hh with ⟨h6, _⟩ | ⟨n, h6, _, h7⟩
      · omega
      · obtain rfl : h = n := by omega
        rw [h7] at h5
        rw [List.eq_nil_of_length_eq_zero h5] at h4
        cases h4
    exact List.mem_flatMap.2 ⟨_, List.mem_range.2 (by omega), hu⟩
theorem out_nodup {R : List RulD} {k : Nat} (hk : k ≤ 4) (n : Nat) : (outTo R k n).Nodup := by
  unfold outTo
  rw [List.Nodup, List.pairwise_flatMap]
  refine ⟨fun m _ => ?_, ?_⟩
  · refine (wordsF_rise hk m _).imp fun {a b} hab e => ?_
    subst e
    have h1 := less_app a.data.toList [] []
    simp only [List.append_nil] at h1
    unfold ltB at hab
    rw [h1] at hab
    cases hab
  · refine List.pairwise_lt_range.imp fun {m m'} hlt a ha b hb e => ?_
    subst e
    have h1 := wordsF_size R k m _ a ha
    have h2 := wordsF_size R k m' _ a hb
    omega
theorem out_head (R : List RulD) (k n : Nat) : nthS (outTo R k (n + 1)) 0 = ⟨#[]⟩ := by
  unfold outTo
  rw [List.range_succ_eq_map, List.flatMap_cons]
  rfl
theorem prodTo_pre1 (R : List RulD) (L : List ByteArray) (i : Nat) : ∀ (d j : Nat), prodTo R L i j <+: prodTo R L i (j + d)
  | 0, j => List.prefix_refl _
  | d + 1, j => by
    refine (prodTo_pre1 R L i d j).trans ?_
    rw [← Nat.add_assoc, prodTo_step]
    exact List.prefix_append _ _
theorem prodTo_pre2 (R : List RulD) (L : List ByteArray) : ∀ (d i : Nat), prodTo R L i 0 <+: prodTo R L (i + d) 0
  | 0, i => List.prefix_refl _
  | d + 1, i => by
    refine (prodTo_pre2 R L d i).trans ?_
    rw [← Nat.add_assoc, ← prodTo_next]
    have := prodTo_pre1 R L (i + d) L.length 0
    rwa [Nat.zero_add] at this
theorem prodF_at (R : List RulD) (L : List ByteArray) {i j : Nat} (hi : i < L.length) (hj : j < L.length) : (prodF R L)[i * L.length + j]? = some (idxB L (nfC R (nthS L i ++ nthS L j))) := by
  have h1 := prodTo_pre1 R L i (L.length - (j + 1)) (j + 1)
  rw [show j + 1 + (L.length - (j + 1)) = L.length by omega, prodTo_next] at h1
  have h2 := prodTo_pre2 R L (L.length - (i + 1)) (i + 1)
  rw [show i + 1 + (L.length - (i + 1)) = L.length by omega, prodTo_done] at h2
  obtain ⟨t, ht⟩ := h1.trans h2
  have hl := prodTo_len R L i j
  rw [← ht, prodTo_step, List.append_assoc, List.getElem?_append_right (by omega), hl]
  simp
theorem nodup_nth {L : List ByteArray} (h : L.Nodup) {p q : Nat} (hp : p < L.length) (hq : q < L.length) (e : nthS L p = nthS L q) : p = q := by
  rw [nthS_lt hp, nthS_lt hq] at e
  have h1 := List.pairwise_iff_getElem.1 h
  rcases Nat.lt_trichotomy p q with h2 | h2 | h2
  · exact absurd e (h1 p q hp hq h2)
  · exact h2
  · exact absurd e.symm (h1 q p hq hp h2)
theorem idxB_mem {L : List ByteArray} {v : ByteArray} (h : v ∈ L) : ∃ p, p < L.length ∧ idxB L v = (p : Int) ∧ nthS L p = v := by
  have hf : ∃ p, idxTo L v L.length = some p := by
    obtain ⟨q, hq, e⟩ := List.getElem_of_mem h
    cases hc : idxTo L v L.length with
    | some p => exact ⟨p, rfl⟩
    | none =>
      unfold idxTo at hc
      rw [List.find?_eq_none] at hc
      have := hc q (List.mem_range.2 hq)
      rw [nthS_lt hq, e] at this
      simp at this
  obtain ⟨p, hp⟩ := hf
  have h1 := hp
  unfold idxTo at h1
  have h2 := List.find?_some h1
  have h3 := List.mem_range.1 (List.mem_of_find?_eq_some h1)
  refine ⟨p, h3, ?_, ?_⟩
  · unfold idxB; rw [hp]
  · exact bytes_eq.1 h2
/-- what is known of the words of a complete system and of their table -/
structure MonG (k : Int) (R : List RulD) (L : List ByteArray) (ln : List Nat) : Prop where
  few : L.length ≤ 40
  pos : 0 < L.length
  nd : L.Nodup
  head : nthS L 0 = ⟨#[]⟩
  word : ∀ u ∈ L, wordOkB k u = true ∧ u.size ≤ 8
  mem : ∀ u : ByteArray, u ∈ L ↔ okLt k u.data.toList ∧ Irr (SR R) u.data.toList
  len : ln.length = L.length * L.length
  prod : ∀ i j, i < L.length → j < L.length → tm L.length ln i j < L.length ∧ NormIs R (nthS L i ++ nthS L j) (nthS L (tm L.length ln i j))
theorem nth_mem {L : List ByteArray} {i : Nat} (h : i < L.length) : nthS L i ∈ L := by rw [nthS_lt h]; exact List.getElem_mem h
theorem GoM.mon {k : Int} {R : List RulD} {L : List ByteArray} {P : List Int} (hm : MonIs k R L P true) : ∃ ln, P = ln.map Int.ofNat ∧ MonG k R L ln := by
  rcases hm with ⟨_, _, _, h⟩ | ⟨hg, hal, rfl, _⟩
  · cases h
  have hw := hg.words hal
  have hc := hg.1
  have hne := sys_ne hc.1.1
  rcases hal with ⟨_, _, h3⟩ | ⟨kn, h, rfl, h2, _, rfl, _, _⟩
  · cases h3
  have G := sysG_of hc.1
  have hi : Irr (SR R) [] := by
    rw [irr_iff]
    intro p hp x y e
    have h1 := hne p hp
    have h2 := congrArg List.length e
    have h3 : p.1.data.toList.length = p.1.size := rfl
    simp only [List.length_append, List.length_nil] at h2
    omega
  have hmem := mem_out hne G.ne G.k4 h2 hi
  have hpos : 0 < (outTo R kn (h + 1)).length := by
    have : (⟨#[]⟩ : ByteArray) ∈ outTo R kn (h + 1) := (hmem _).2 ⟨fun y hy => (by cases hy), hi⟩
    exact List.length_pos_of_mem this
  have hnd := out_nodup (R := R) (k := kn) G.k4 (h + 1)
  have hhd := out_head R kn h
  generalize outTo R kn (h + 1) = L at *
  have key : ∀ i j, i < L.length → j < L.length → ∃ p, p < L.length ∧ idxB L (nfC R (nthS L i ++ nthS L j)) = (p : Int) ∧ NormIs R (nthS L i ++ nthS L j) (nthS L p) := fun i j hi' hj => by
    obtain ⟨hok, _⟩ := hw.pair hi' hj
    obtain ⟨x, hx, hxo⟩ := NormIs.ex hc.1 _ _ (Nat.lt_succ_self _) hok
    have hx2 : x ∈ L := (hmem x).2 ⟨(wordOk_iff.1 hxo).2.2, (norm_nf hne hx).2⟩
    obtain ⟨p, hp, e1, e2⟩ := idxB_mem hx2
    exact ⟨p, hp, by rw [nfC_eq hx]; exact e1, by rw [e2]; exact hx⟩
  have hlen : (prodF R L).length = L.length * L.length := by
    have := prodTo_len R L L.length 0
    rw [prodTo_done] at this
    omega
  have hat : ∀ i j, i < L.length → j < L.length → tm L.length ((prodF R L).map Int.toNat) i j < L.length ∧ NormIs R (nthS L i ++ nthS L j) (nthS L (tm L.length ((prodF R L).map Int.toNat) i j)) := fun i j hi' hj => by
    obtain ⟨p, hp, e1, e2⟩ := key i j hi' hj
    have e3 : tm L.length ((prodF R L).map Int.toNat) i j = p := by
      unfold tm
      rw [List.getD_eq_getElem?_getD, List.getElem?_map, prodF_at R L hi' hj, e1]
      simp
    rw [e3]
    exact ⟨hp, e2⟩
  refine ⟨(prodF R L).map Int.toNat, ?_, ⟨hw.few, hpos, hnd, hhd, hw.word, hmem, by rw [List.length_map]; exact hlen, hat⟩⟩
  rw [List.map_map]
  symm
  conv => rhs; rw [← List.map_id (prodF R L)]
  apply List.map_congr_left
  intro x hx
  unfold prodF rowTo at hx
  simp only [List.mem_flatMap, List.mem_map, List.mem_range] at hx
  obtain ⟨i, hi', j, hj, rfl⟩ := hx
  obtain ⟨p, _, e1, _⟩ := key i j hi' hj
  rw [e1]
  simp
theorem MonG.tab {k : Int} {R : List RulD} {L : List ByteArray} {ln : List Nat} (h : MonG k R L ln) (hc : ComplP k R) : TabOk L.length ln := by
  have hne := sys_ne hc.1.1
  have hd := sys_dwn hc.1
  have hcr := comp_crit hc
  have hnf : ∀ {u x : ByteArray}, NormIs R u x → Nf (SR R) u.data.toList x.data.toList := fun hx => norm_nf hne hx
  have hirr : ∀ i, i < L.length → Irr (SR R) (nthS L i).data.toList := fun i hi => ((h.mem _).1 (nth_mem hi)).2
  have eq_of : ∀ {p q : Nat} {u : List UInt8}, p < L.length → q < L.length → Nf (SR R) u (nthS L p).data.toList → Nf (SR R) u (nthS L q).data.toList → p = q := fun {p q u} hp hq a b =>
    nodup_nth h.nd hp hq (ba_lists (Nf.uniq hd hcr _ u (Nat.lt_succ_self _) _ _ a b))
  refine ⟨⟨h.pos, h.few, h.len, ?_⟩, ?_, ?_, ?_⟩
  · intro x hx
    obtain ⟨i, hi, rfl⟩ := List.getElem_of_mem hx
    rw [h.len] at hi
    have hm := h.pos
    have h1 : i / L.length < L.length := Nat.div_lt_of_lt_mul hi
    have h2 : i % L.length < L.length := Nat.mod_lt _ hm
    have h3 := (h.prod _ _ h1 h2).1
    have e : i / L.length * L.length + i % L.length = i := by rw [Nat.mul_comm]; exact Nat.div_add_mod i L.length
    unfold tm at h3
    rw [e, List.getD_eq_getElem?_getD, List.getElem?_eq_getElem (by rw [h.len]; exact hi)] at h3
    exact h3
  · intro i hi
    obtain ⟨h1, h2⟩ := h.prod 0 i h.pos hi
    have h3 := hnf h2
    rw [h.head, ByteArray.data_append, Array.toList_append] at h3
    refine eq_of h1 hi h3 ?_
    have e : (⟨#[]⟩ : ByteArray).data.toList ++ (nthS L i).data.toList = (nthS L i).data.toList := rfl
    rw [e]
    exact ⟨.refl _, hirr i hi⟩
  · intro i hi
    obtain ⟨h1, h2⟩ := h.prod i 0 hi h.pos
    have h3 := hnf h2
    rw [h.head, ByteArray.data_append, Array.toList_append] at h3
    refine eq_of h1 hi h3 ?_
    have e : (nthS L i).data.toList ++ (⟨#[]⟩ : ByteArray).data.toList = (nthS L i).data.toList := List.append_nil _
    rw [e]
    exact ⟨.refl _, hirr i hi⟩
  · intro i j l hi hj hl
    obtain ⟨a1, a2⟩ := h.prod i j hi hj
    obtain ⟨b1, b2⟩ := h.prod j l hj hl
    obtain ⟨c1, c2⟩ := h.prod _ l a1 hl
    obtain ⟨d1, d2⟩ := h.prod i _ hi b1
    have A := hnf a2
    have B := hnf b2
    have C := hnf c2
    have D := hnf d2
    rw [ByteArray.data_append, Array.toList_append] at A B C D
    refine eq_of (u := (nthS L i).data.toList ++ ((nthS L j).data.toList ++ (nthS L l).data.toList)) c1 d1 ⟨?_, C.2⟩ ⟨?_, D.2⟩
    · have h1 := A.1.ctx [] (nthS L l).data.toList
      simp only [List.nil_append] at h1
      rw [← List.append_assoc]
      exact h1.trans C.1
    · have h1 := B.1.ctx (nthS L i).data.toList []
      simp only [List.append_nil] at h1
      exact h1.trans D.1
theorem mon_table {k : Int} {R : List RulD} {L : List ByteArray} {P : List Int} (hm : MonIs k R L P true) : ∃ ln, P = ln.map Int.ofNat ∧ TabOk L.length ln ∧ MonG k R L ln := by
  have hg : ComplP k R := by
    rcases hm with ⟨_, _, _, h⟩ | ⟨hg, _⟩
    · cases h
    · exact hg.1
  obtain ⟨ln, h1, h2⟩ := GoM.mon hm
  exact ⟨ln, h1, h2.tab hg, h2⟩
/-- a valid table -/
def TabG (m : Nat) (l : List Int) : Prop := ∃ ln : List Nat, l = ln.map Int.ofNat ∧ TabOk m ln
theorem TabOk.rows {m : Nat} {ln : List Nat} (h : TabOk m ln) : rowsOk m ln = true := by
  refine all_range.2 fun i hi => ?_
  unfold rowOk idn
  rw [Bool.and_eq_true, Bool.and_eq_true, decide_eq_true_eq, decide_eq_true_eq]
  refine ⟨⟨h.left i hi, h.right i hi⟩, all_range.2 fun j hj => all_range.2 fun k hk => ?_⟩
  unfold asc
  rw [decide_eq_true_eq]
  exact h.assoc i j k hi hj hk
theorem TabG.tab {m : Nat} {l : List Int} (h : TabG m l) : tabB (m : Nat) l = true := by
  obtain ⟨ln, rfl, h⟩ := h
  exact tabB_rows h.toTb h.rows
end Go.Proofs.YtmgdglghjlggnaaGreat
namespace Go.Proofs.YtmgdglghjlggnaaGreat
open Go.RowKit
set_option linter.unusedVariables false
/-- valid images of a valid table -/
structure ImgsOk (m : Nat) (ln zn : List Nat) : Prop where
  tab : TabOk m ln
  rng : ∀ x ∈ zn, x < m
  one : 1 ≤ zn.length
  few : zn.length ≤ 4
theorem ImgsOk.img {m : Nat} {ln zn : List Nat} (h : ImgsOk m ln zn) : imgB (m : Nat) (ln.map Int.ofNat) (zn.map Int.ofNat) = true := by
  have ht : tabB ((m : Nat) : Int) (ln.map Int.ofNat) = true := TabG.tab ⟨ln, rfl, h.tab⟩
  have h1 := h.one
  have h4 := h.few
  have hi : inB (((zn.map Int.ofNat).length : Nat) : Int) 1 4 = true := by rw [List.length_map]; simp [inB]; omega
  rw [imgB_yes ht hi]
  unfold rngB
  rw [List.all_eq_true]
  intro x hx
  obtain ⟨y, hy, rfl⟩ := List.mem_map.1 hx
  have := h.rng y hy
  simp [inB]; omega
def reachL (m : Nat) (S : List ByteArray) : List Int := ((List.range m).filter fun i => !isHy (nthS S i)).map Int.ofNat
def RetRb (m : Nat) (ln zn : List Nat) (w : World) (e : Ending) (w' : World) : Prop := ∃ S, ShortP m ln zn S ∧ RetSl 3 1 (reachL m S).length (intVals (reachL m S)) w e w'
set_option maxHeartbeats 800000 in
theorem reach_pred (m : Nat) (S : List ByteArray) (a : Option Addr) (cap bw : Nat) (w : World) (hb : w.cell? ⟨bw, 0, none⟩ = some (.slice a m cap)) (hS : StrsIn w a S) (hl : S.length = m) (hm : m ≤ 40) :
    PredEl w.heap.size 32 #[.pointer (some ⟨bw, 0, none⟩)] (fun i => !isHy (nthS S i)) m w := by
  intro i hi W hW
  have k0 : W.cell? ⟨bw, 0, none⟩ = some (.slice a m cap) := by rw [hW.cell (World.block_lt_of_cell? w _ hb)]; exact hb
  obtain ⟨b, off, rfl, _, hc⟩ := (hS.later hW).cell (i := i) (by omega)
  have k1 := hc i (by omega)
  have hi2 : (i : Int) < (m : Int) := by omega
  obtain ⟨s, hs⟩ : ∃ s, nthS S i = s := ⟨_, rfl⟩
  have HQ : Hid ((!isHy (nthS S i)) = !(s.toList == [45])) := Lib.hid (by rw [hs]; rfl)
  rw [hs] at k1
  clear hb hS hW hc hs
  go_enter Tryz.func32, Tryz.ntmps32
  go_wp2_with fail
  go_ret
  exact ⟨congrArg (fun b => Ending.returned (Value.bool b)) HQ.out.symm, Below.refl _ _⟩
set_option maxRecDepth 20000 in
set_option maxHeartbeats 2000000 in
theorem implReachedBy_any (m : Nat) (ln zn : List Nat) (l z : List Int) (a : Option Addr) (cap : Nat) (az : Option Addr) (cz : Nat) (w : World) (hle : l = ln.map Int.ofNat) (hze : z = zn.map Int.ofNat) (h : ImgsOk m ln zn) (hl : IntsIn w a l) (hz : IntsIn w az z) :
    Calls Tryz.prog 11 #[.agg #[.int .i64 (m : Nat), .slice a l.length cap], .slice az z.length cz] w (RetRb m ln zn w) := by
  have hm1 := h.tab.lo
  have hm2 := h.tab.hi
  have hzl : z.length = zn.length := by rw [hze, List.length_map]
  have hll : l.length = m * m := by rw [hle, List.length_map]; exact h.tab.len
  have hsq := sq_le hm2
  have hz4 := h.few
  have HIM : Hid (∀ W, IntsIn W a l → IntsIn W az z → Calls Tryz.prog 24 #[.agg #[.int .i64 (m : Nat), .slice a l.length cap], .slice az z.length cz] W fun e w' => e = .returned (.bool true) ∧ Below W.heap.size W w') := Lib.hid (fun W h1 h2 => by
    have := implImagesOk_any (m : Nat) l a cap z az cz W h1 (by omega) h2 (by omega)
    rw [show imgB (m : Nat) l z = true by rw [hle, hze]; exact h.img] at this
    exact this)
  have HSH : Hid (∀ W, IntsIn W a l → IntsIn W az z → Calls Tryz.prog 30 #[.agg #[.int .i64 (m : Nat), .slice a l.length cap], .slice az z.length cz] W (RetSh m ln zn W)) := Lib.hid (fun W h1 h2 => by
    have := shortest_any m ln zn a l.length cap az cz W (by unfold NatsIn; rw [← hle]; exact h1) h.tab.toTb hll (by unfold NatsIn; rw [← hze]; exact h2) h.rng h.few
    rw [← hzl] at this
    exact this)
  have HTH : Hid (∀ W gb S a2 c2, IntsIn W a l → W.cell? ⟨gb, 0, none⟩ = some (.slice a2 m c2) → StrsIn W a2 S → S.length = m → Calls Tryz.prog 31 #[.agg #[.int .i64 (m : Nat), .slice a l.length cap], .func (.func 32) #[] #[.pointer (some ⟨gb, 0, none⟩)]] W (RetSl 3 1 (reachL m S).length (intVals (reachL m S)) W)) := Lib.hid (fun W gb S a2 c2 h1 h2 h3 h4 => by
    have ht : tabB ((m : Nat) : Int) l = true := by rw [hle]; exact TabG.tab ⟨ln, rfl, h.tab⟩
    have := those_any (m : Nat) l a cap W h1 (by omega) _ _ #[.pointer (some ⟨gb, 0, none⟩)] (fun i => !isHy (nthS S i)) (Nat.le_refl _) (fun _ => by rw [Int.toNat_natCast]; exact reach_pred m S a2 c2 gb W h2 h3 h4 hm2) (enters_of Tryz.func32 (by kernel_rfl) rfl)
    rw [show thoseL (m : Nat) l (fun i => !isHy (nthS S i)) = reachL m S by unfold thoseL reachL; rw [if_pos ht, Int.toNat_natCast]] at this
    exact this)
  have HB := Lib.hid (alloc_belowS w (.cells #[.int .i64 (m : Nat), .slice a l.length cap] 25))
  have HX : Hid (∀ W, Below (w.alloc (.cells #[.int .i64 (m : Nat), .slice a l.length cap] 25)).heap.size (w.alloc (.cells #[.int .i64 (m : Nat), .slice a l.length cap] 25)) W → W.cell? ⟨w.heap.size, 0, none⟩ = some (.int .i64 (m : Nat)) ∧ W.cell? ⟨w.heap.size, 1, none⟩ = some (.slice a l.length cap)) := Lib.hid (fun W hW => ⟨by rw [hW.cell (by simp)]; simp, by rw [hW.cell (by simp)]; simp⟩)
  have HN := Lib.hid (hl.later HB.out)
  have HZ := Lib.hid (hz.later HB.out)
  clear hl hz hle hze h hzl hll hsq
  go_enter Tryz.func11, Tryz.ntmps11
  go_upto_region 1 with fail
  generalize w.alloc (.cells #[.int .i64 (m : Nat), .slice a l.length cap] 25) = w1 at *
  obtain ⟨z0, z1⟩ := HX.out w1 (Below.refl _ _)
  go_wp2_with fail
  refine (HIM.out _ HN.out HZ.out).mono ?_
  rintro e w2 ⟨rfl, hb2⟩
  have HB2 := Lib.hid hb2
  clear z0 z1 hb2
  obtain ⟨z0, z1⟩ := HX.out _ HB2.out
  go_wp2_with fail
  refine (HSH.out _ (HN.out.later HB2.out) (HZ.out.later HB2.out)).mono ?_
  rintro e w3 ⟨S, hsh, a2, c2, rfl, ho, hb3⟩
  have HSP := Lib.hid hsh
  have HB3 := Lib.hid (Below.now HB2.out hb3)
  have HSI := Lib.hid (owns_strs ho)
  clear z0 z1 hb3 hsh ho
  go_upto_region 4 with fail
  have HB4 := Lib.hid (alloc_belowS w3 (.cells #[.slice a2 m c2] 52))
  obtain ⟨z0, z1⟩ := HX.out _ (Below.now HB3.out HB4.out)
  have HC4 : Hid ((w3.alloc (.cells #[.slice a2 m c2] 52)).cell? ⟨w3.heap.size, 0, none⟩ = some (.slice a2 m c2)) := Lib.hid (by simp)
  generalize w3.alloc (.cells #[.slice a2 m c2] 52) = w4 at *
  go_wp2_with fail
  refine (HTH.out _ _ S a2 c2 (HN.out.later (Below.now HB3.out HB4.out)) HC4.out (HSI.out.later HB4.out) HSP.out.len).mono ?_
  rintro e w5 ⟨a5, c5, rfl, ho5, hb5⟩
  have F : Hid (RetRb m ln zn w (.returned (.slice a5 (reachL m S).length c5)) w5) := Lib.hid ⟨S, HSP.out, a5, c5, rfl, owns_mono ho5 (by have := HB.out.size; have := HB3.out.size; have := HB4.out.size; omega), Below.now HB.out (Below.now (Below.now HB3.out HB4.out) hb5)⟩
  clear ho5 hb5 z0 z1
  generalize (reachL m S).length = rn at *
  go_wp2_with fail
  go_ret
  exact F.out
/-- the word of an element -/
def RetSw (m : Nat) (ln zn : List Nat) (i : Nat) (w : World) (e : Ending) (w' : World) : Prop := ∃ S, ShortP m ln zn S ∧ Below w.heap.size w w' ∧
  ((isHy (nthS S i) = false ∧ (nthS S i).size ≤ 16 ∧ e = .returned (.tuple #[.string (nthS S i), .bool true])) ∨ (¬ (isHy (nthS S i) = false ∧ (nthS S i).size ≤ 16) ∧ e = .returned (.tuple #[.string ⟨#[]⟩, .bool false])))
set_option maxRecDepth 20000 in
set_option maxHeartbeats 2000000 in
theorem implShortestWord_any (m : Nat) (ln zn : List Nat) (l z : List Int) (a : Option Addr) (cap : Nat) (az : Option Addr) (cz i : Nat) (w : World) (hle : l = ln.map Int.ofNat) (hze : z = zn.map Int.ofNat) (h : ImgsOk m ln zn) (hl : IntsIn w a l) (hz : IntsIn w az z) (hi : i < m) :
    Calls Tryz.prog 13 #[.agg #[.int .i64 (m : Nat), .slice a l.length cap], .slice az z.length cz, .int .i64 (i : Nat)] w (RetSw m ln zn i w) := by
  have hm1 := h.tab.lo
  have hm2 := h.tab.hi
  have hzl : z.length = zn.length := by rw [hze, List.length_map]
  have hll : l.length = m * m := by rw [hle, List.length_map]; exact h.tab.len
  have hsq := sq_le hm2
  have hz4 := h.few
  have HIM : Hid (∀ W, IntsIn W a l → IntsIn W az z → Calls Tryz.prog 24 #[.agg #[.int .i64 (m : Nat), .slice a l.length cap], .slice az z.length cz] W fun e w' => e = .returned (.bool true) ∧ Below W.heap.size W w') := Lib.hid (fun W h1 h2 => by
    have := implImagesOk_any (m : Nat) l a cap z az cz W h1 (by omega) h2 (by omega)
    rw [show imgB (m : Nat) l z = true by rw [hle, hze]; exact h.img] at this
    exact this)
  have HSH : Hid (∀ W, IntsIn W a l → IntsIn W az z → Calls Tryz.prog 30 #[.agg #[.int .i64 (m : Nat), .slice a l.length cap], .slice az z.length cz] W (RetSh m ln zn W)) := Lib.hid (fun W h1 h2 => by
    have := shortest_any m ln zn a l.length cap az cz W (by unfold NatsIn; rw [← hle]; exact h1) h.tab.toTb hll (by unfold NatsIn; rw [← hze]; exact h2) h.rng h.few
    rw [← hzl] at this
    exact this)
  have HHA := Lib.hid (fun W v => has_any m (i : Nat) v W hm1 hm2)
  have hib : inB (i : Nat) 0 ((m : Int) - 1) = true := by simp [inB]; omega
  have HB := Lib.hid (alloc_belowS w (.cells #[.int .i64 (m : Nat), .slice a l.length cap] 25))
  have HX : Hid (∀ W, Below (w.alloc (.cells #[.int .i64 (m : Nat), .slice a l.length cap] 25)).heap.size (w.alloc (.cells #[.int .i64 (m : Nat), .slice a l.length cap] 25)) W → W.cell? ⟨w.heap.size, 0, none⟩ = some (.int .i64 (m : Nat)) ∧ W.cell? ⟨w.heap.size, 1, none⟩ = some (.slice a l.length cap)) := Lib.hid (fun W hW => ⟨by rw [hW.cell (by simp)]; simp, by rw [hW.cell (by simp)]; simp⟩)
  have HN := Lib.hid (hl.later HB.out)
  have HZ := Lib.hid (hz.later HB.out)
  clear hl hz hle hze h hzl hll hsq
  go_enter Tryz.func13, Tryz.ntmps13
  go_upto_region 1 with fail
  generalize w.alloc (.cells #[.int .i64 (m : Nat), .slice a l.length cap] 25) = w1 at *
  obtain ⟨z0, z1⟩ := HX.out w1 (Below.refl _ _)
  go_wp2_with fail
  refine (HIM.out _ HN.out HZ.out).mono ?_
  rintro e w2 ⟨rfl, hb2⟩
  have HB2 := Lib.hid hb2
  clear z0 z1 hb2
  obtain ⟨z0, z1⟩ := HX.out _ HB2.out
  go_wp2_with fail
  refine (HHA.out _ _).mono ?_
  rintro e w3 ⟨rfl, hb3⟩
  rw [hib]
  have HB3 := Lib.hid (Below.now HB2.out hb3)
  clear z0 z1 hb3 HB2
  obtain ⟨z0, z1⟩ := HX.out _ HB3.out
  go_wp2_with fail
  refine (HSH.out _ (HN.out.later HB3.out) (HZ.out.later HB3.out)).mono ?_
  rintro e w4 ⟨S, hsh, a2, c2, rfl, ho, hb4⟩
  have HSP := Lib.hid hsh
  have HB4 := Lib.hid (Below.now HB.out (Below.now HB3.out hb4))
  obtain ⟨b, off, rfl, _, hc⟩ := (owns_strs ho).cell (i := i) (by rw [hsh.len]; exact hi)
  have k1 := hc i (by rw [hsh.len]; exact hi)
  have hi2 : (i : Int) < (m : Int) := by omega
  have F : Hid (∀ e, ((isHy (nthS S i) = false ∧ (nthS S i).size ≤ 16 ∧ e = .returned (.tuple #[.string (nthS S i), .bool true])) ∨ (¬ (isHy (nthS S i) = false ∧ (nthS S i).size ≤ 16) ∧ e = .returned (.tuple #[.string ⟨#[]⟩, .bool false]))) → RetSw m ln zn i w e w4) := Lib.hid (fun e he => ⟨S, HSP.out, HB4.out, he⟩)
  have HQ : Hid (isHy (nthS S i) = ((nthS S i).toList == [45])) := Lib.hid rfl
  clear z0 z1 hb4 hsh ho hc
  generalize nthS S i = s at *
  cases hq : (s.toList == [45])
  · by_cases h16 : s.size ≤ 16
    · have h16b : ¬ (16 : Int) < (s.size : Int) := by omega
      have F2 := Lib.hid (F.out _ (.inl ⟨by rw [HQ.out]; exact hq, h16, rfl⟩))
      go_wp2_with fail
      refine bodyPost_ret (v := .tuple #[.string s, .bool true]) ?_ rfl F2.out
      simp [results, Tryz.results13, go_sem]
    · have h16b : (16 : Int) < (s.size : Int) := by omega
      have F2 := Lib.hid (F.out _ (.inr ⟨fun hh => h16 hh.2, rfl⟩))
      go_wp2_with fail
      refine bodyPost_ret (v := .tuple #[.string ⟨#[]⟩, .bool false]) ?_ rfl F2.out
      simp [results, Tryz.results13, go_sem]
  · have F2 := Lib.hid (F.out _ (.inr ⟨fun hh => (by have h1 := hh.1; rw [HQ.out, hq] at h1; exact Bool.noConfusion h1), rfl⟩))
    go_wp2_with fail
    refine bodyPost_ret (v := .tuple #[.string ⟨#[]⟩, .bool false]) ?_ rfl F2.out
    simp [results, Tryz.results13, go_sem]
set_option maxRecDepth 20000 in
set_option maxHeartbeats 2000000 in
theorem implValueOf_any (m : Nat) (ln zn : List Nat) (l z : List Int) (a : Option Addr) (cap : Nat) (az : Option Addr) (cz : Nat) (v : ByteArray) (w : World) (hle : l = ln.map Int.ofNat) (hze : z = zn.map Int.ofNat) (h : ImgsOk m ln zn) (hl : IntsIn w a l) (hz : IntsIn w az z) (hw : wordOkB (zn.length : Nat) v = true) :
    Calls Tryz.prog 16 #[.agg #[.int .i64 (m : Nat), .slice a l.length cap], .slice az z.length cz, .string v] w fun e w' => e = .returned (.tuple #[.int .i64 (valF m ln zn v : Nat), .bool true]) ∧ Below w.heap.size w w' := by
  have hm1 := h.tab.lo
  have hm2 := h.tab.hi
  have hzl : z.length = zn.length := by rw [hze, List.length_map]
  have hll : l.length = m * m := by rw [hle, List.length_map]; exact h.tab.len
  have hsq := sq_le hm2
  have hz4 := h.few
  have hv16 := (wordOk_iff.1 hw).2.1
  have HIM : Hid (∀ W, IntsIn W a l → IntsIn W az z → Calls Tryz.prog 24 #[.agg #[.int .i64 (m : Nat), .slice a l.length cap], .slice az z.length cz] W fun e w' => e = .returned (.bool true) ∧ Below W.heap.size W w') := Lib.hid (fun W h1 h2 => by
    have := implImagesOk_any (m : Nat) l a cap z az cz W h1 (by omega) h2 (by omega)
    rw [show imgB (m : Nat) l z = true by rw [hle, hze]; exact h.img] at this
    exact this)
  have HVA : Hid (∀ W, IntsIn W a l → IntsIn W az z → Calls Tryz.prog 38 #[.agg #[.int .i64 (m : Nat), .slice a l.length cap], .slice az z.length cz, .string v] W fun e w' => e = .returned (.int .i64 (valF m ln zn v : Nat)) ∧ Below W.heap.size W w') := Lib.hid (fun W h1 h2 => by
    have := implValue_any m ln zn a l.length cap az cz v W (by unfold NatsIn; rw [← hle]; exact h1) h.tab.toTb hll (by unfold NatsIn; rw [← hze]; exact h2) h.rng (letIn_of hw rfl) (by omega)
    rw [← hzl] at this
    exact this)
  have HWO : Hid (∀ W, Calls Tryz.prog 39 #[.int .i64 (z.length : Nat), .string v] W fun e w' => e = .returned (.bool true) ∧ W = w') := Lib.hid (fun W => by
    have := implWordOk_any (z.length : Nat) v W (by unfold maxLen; omega)
    rw [hzl, hw] at this
    rw [hzl]
    exact this)
  have HB := Lib.hid (alloc_belowS w (.cells #[.int .i64 (m : Nat), .slice a l.length cap] 25))
  have HX : Hid (∀ W, Below (w.alloc (.cells #[.int .i64 (m : Nat), .slice a l.length cap] 25)).heap.size (w.alloc (.cells #[.int .i64 (m : Nat), .slice a l.length cap] 25)) W → W.cell? ⟨w.heap.size, 0, none⟩ = some (.int .i64 (m : Nat)) ∧ W.cell? ⟨w.heap.size, 1, none⟩ = some (.slice a l.length cap)) := Lib.hid (fun W hW => ⟨by rw [hW.cell (by simp)]; simp, by rw [hW.cell (by simp)]; simp⟩)
  have HN := Lib.hid (hl.later HB.out)
  have HZ := Lib.hid (hz.later HB.out)
  clear hl hz hle hze h hzl hll hsq hw hv16
  go_enter Tryz.func16, Tryz.ntmps16
  go_upto_region 1 with fail
  generalize w.alloc (.cells #[.int .i64 (m : Nat), .slice a l.length cap] 25) = w1 at *
  obtain ⟨z0, z1⟩ := HX.out w1 (Below.refl _ _)
  go_wp2_with fail
  refine (HIM.out _ HN.out HZ.out).mono ?_
  rintro e w2 ⟨rfl, hb2⟩
  have HB2 := Lib.hid hb2
  clear z0 z1 hb2
  obtain ⟨z0, z1⟩ := HX.out _ HB2.out
  go_wp2_with fail
  refine (HWO.out _).mono ?_
  rintro e w3 ⟨rfl, rfl⟩
  go_wp2_with fail
  refine (HVA.out _ (HN.out.later HB2.out) (HZ.out.later HB2.out)).mono ?_
  rintro e w4 ⟨rfl, hb4⟩
  have HB4 := Lib.hid (Below.now HB.out (Below.now HB2.out hb4))
  clear z0 z1 hb4
  go_wp2_with fail
  refine bodyPost_ret (v := .tuple #[.int .i64 (valF m ln zn v : Nat), .bool true]) ?_ rfl ⟨rfl, HB4.out⟩
  simp [results, Tryz.results16, go_sem]
end Go.Proofs.YtmgdglghjlggnaaGreat
namespace Go.Proofs.YtmgdglghjlggnaaGreat
open Go.RowKit
set_option linter.unusedVariables false
def dL (m : Nat) (S : List ByteArray) : List Int := (List.range m).map (dF S)
theorem dL_len (m : Nat) (S : List ByteArray) : (dL m S).length = m := by simp [dL]
theorem dL_at {m : Nat} {S : List ByteArray} {i : Nat} (h : i < m) : nthZ (dL m S) i = dF S i := by
  rw [nthZ_lt (by rw [dL_len]; exact h)]
  simp [dL]
def cntK (d : List Int) (k : Nat) : Nat := d.countP fun x => decide (x = (k : Int))
def sphL (d : List Int) (n : Nat) : List Int := (List.range n).map fun k => ((cntK d k : Nat) : Int)
theorem sphL_len (d : List Int) (n : Nat) : (sphL d n).length = n := by simp [sphL]
theorem sphL_at {d : List Int} {n k : Nat} (h : k < n) : nthZ (sphL d n) k = ((cntK d k : Nat) : Int) := by
  rw [nthZ_lt (by rw [sphL_len]; exact h)]
  simp [sphL]
theorem cnt_split (d : List Int) (n : Nat) : (d.countP fun x => decide (0 ≤ x ∧ x < ((n + 1 : Nat) : Int))) = (d.countP fun x => decide (0 ≤ x ∧ x < (n : Int))) + cntK d n := by
  unfold cntK
  induction d with
  | nil => rfl
  | cons a d ih =>
    rw [List.countP_cons, List.countP_cons, List.countP_cons, ih]
    by_cases h1 : a = (n : Int)
    · subst h1
      rw [if_pos (by simp; omega), if_neg (by simp), if_pos (by simp)]
      omega
    · rw [if_neg (c := decide (a = (n : Int)) = true) (by simpa using h1)]
      by_cases h2 : 0 ≤ a ∧ a < (n : Int)
      · rw [if_pos (by simp; omega), if_pos (by simp; omega)]; omega
      · rw [if_neg (by simp; omega), if_neg (by simp; omega)]; omega
theorem sph_sum (d : List Int) : ∀ n : Nat, (sphL d n).sum = ((d.countP fun x => decide (0 ≤ x ∧ x < (n : Int)) : Nat) : Int)
  | 0 => by
    have : (d.countP fun x => decide (0 ≤ x ∧ x < ((0 : Nat) : Int))) = 0 := List.countP_eq_zero.2 fun x _ => by simp <;> omega
    rw [this]; rfl
  | n + 1 => by
    rw [cnt_split]
    have ih := sph_sum d n
    unfold sphL at ih ⊢
    rw [List.range_succ, List.map_append, List.sum_append, ih]
    simp
theorem sph_all {d : List Int} {n : Nat} (h : ∀ x ∈ d, x < (n : Int)) : (sphL d n).sum = ((d.countP fun x => decide (0 ≤ x) : Nat) : Int) := by
  rw [sph_sum]
  congr 1
  exact List.countP_congr fun x hx => by have := h x hx; simp; omega
/-- one more distance is told -/
theorem sph_step {d : List Int} {n i : Nat} (hi : i < d.length) (h0 : 0 ≤ nthZ d i) (hn : nthZ d i < (n : Int)) : sphL (d.take (i + 1)) n = (sphL (d.take i) n).set (nthZ d i).toNat (nthZ (sphL (d.take i) n) (nthZ d i).toNat + 1) := by
  rw [sphL_at (by omega : (nthZ d i).toNat < n)]
  refine List.ext_getElem (by rw [List.length_set, sphL_len, sphL_len]) fun k hk hk' => ?_
  have hkn : k < n := by rw [sphL_len] at hk; exact hk
  rw [List.getElem_set]
  have e1 : (sphL (d.take (i + 1)) n)[k] = ((cntK (d.take (i + 1)) k : Nat) : Int) := by simp [sphL]
  have e2 : cntK (d.take (i + 1)) k = cntK (d.take i) k + if nthZ d i = (k : Int) then 1 else 0 := by
    unfold cntK
    rw [List.take_succ_eq_append_getElem hi, List.countP_append, nthZ_lt hi]
    congr 1
    rw [List.countP_cons]
    simp
  rw [e1, e2]
  by_cases e : (nthZ d i).toNat = k
  · rw [if_pos e, if_pos (by omega), e]; omega
  · rw [if_neg e, if_neg (by omega)]
    simp [sphL]
theorem sph_skip {d : List Int} {n i : Nat} (hi : i < d.length) (h0 : nthZ d i < 0) : sphL (d.take (i + 1)) n = sphL (d.take i) n := by
  unfold sphL
  refine List.map_congr_left fun k _ => ?_
  unfold cntK
  rw [List.take_succ_eq_append_getElem hi, List.countP_append]
  rw [nthZ_lt hi] at h0
  have e0 : ([d[i]].countP fun x => decide (x = (k : Int))) = 0 := List.countP_eq_zero.2 fun x hx => by rw [List.mem_singleton.1 hx]; simp; omega
  rw [e0]
  rfl
section
variable {m : Nat} {ln zn : List Nat} {S : List ByteArray}
theorem dL_cnt (p : Int → Bool) : (dL m S).countP p = ((List.range m).filter fun i => p (dF S i)).length := by
  unfold dL
  rw [List.countP_map, List.countP_eq_length_filter]
  rfl
theorem reach_cnt : (reachL m S).length = (dL m S).countP fun x => decide (0 ≤ x) := by
  rw [dL_cnt]
  unfold reachL
  rw [List.length_map]
  congr 1
  refine List.filter_congr fun i _ => ?_
  have h := dF_neg (S := S) (i := i)
  by_cases e : nthS S i = hyB
  · have h1 := h.2 e
    rw [isHy_iff.2 e]
    simp; omega
  · have h1 : isHy (nthS S i) = false := by
      cases h2 : isHy (nthS S i)
      · rfl
      · exact absurd (isHy_iff.1 h2) e
    rw [h1]
    have h2 : ¬ dF S i < 0 := fun h3 => e (h.1 h3)
    simp; omega
theorem sph_one (h : ShortP m ln zn S) (hz4 : zn.length ≤ 4) (hm : 1 ≤ m) : cntK (dL m S) 0 = 1 := by
  unfold cntK
  rw [dL_cnt]
  have e : ((List.range m).filter fun i => decide (dF S i = ((0 : Nat) : Int))) = (List.range m).filter fun i => i == 0 := List.filter_congr fun i hi => by
    have hi := List.mem_range.1 hi
    by_cases e : i = 0
    · subst e; rw [dF_zero h hz4 hm]; rfl
    · have : dF S i ≠ 0 := fun e2 => e (dF_zero_iff h hi e2)
      simp [e, this]
  rw [e]
  cases m with
  | zero => omega
  | succ m =>
    rw [List.range_succ_eq_map, List.filter_cons_of_pos (by rfl), List.filter_map]
    have : (List.range m).filter ((fun i => i == 0) ∘ Nat.succ) = [] := List.filter_eq_nil_iff.2 fun i _ => by simp
    rw [this]; rfl
theorem unit_cnt (ht : TabOk m ln) (hr : ∀ x ∈ zn, x < m) (hs : ∀ x ∈ zn, ∃ z, z < m ∧ tm m ln x z = 0 ∧ tm m ln z x = 0) (h : ShortP m ln zn S) : ((dL m S).countP fun x => decide (0 ≤ x)) ≤ (listTo (isUnit m ln) m).length := by
  rw [dL_cnt]
  unfold listTo
  rw [List.length_map, ← List.countP_eq_length_filter, ← List.countP_eq_length_filter]
  refine List.countP_mono_left fun i hi hp => ?_
  have hi := List.mem_range.1 hi
  obtain ⟨ys, a1, _, _, _, a4⟩ := dF_way h hi (by simpa using hp)
  obtain ⟨_, q, h2, h3, h4⟩ := way_unit ht hr hs ht.lo ys a1
  rw [a4] at h3 h4
  unfold isUnit
  rw [Bool.not_eq_true', Bool.eq_false_iff]
  intro hall
  have h5 := List.all_eq_true.1 hall q (List.mem_range.2 h2)
  unfold unB at h5
  simp [h3, h4] at h5
end
end Go.Proofs.YtmgdglghjlggnaaGreat
