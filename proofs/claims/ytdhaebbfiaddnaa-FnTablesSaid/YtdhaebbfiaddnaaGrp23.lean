/-
  Tables: the product of two elements, and the reference's TableOk.
-/
import Derived.Test.YtdhaebbfiaddnaaGrp22
import Derived.Test.YtdhaebbfiaddnaaGrp13
import Derived.Test.YtdhaebbfiaddnaaGrp05
import Derived.Test.YtdhaebbfiaddnaaGrp02
import Derived.Test.YtdhaebbfiaddnaaGrp15
namespace Go.Proofs.Ytdhaebbfiaddnaa
open Go.RowKit
set_option linter.unusedVariables false
theorem irr_iff {R : List RulD} {v : List UInt8} : Irr (SR R) v ↔ ∀ p ∈ R, ∀ x y, v ≠ x ++ (p.1.data.toList ++ y) := by
  constructor
  · intro h p hp x y e
    exact h _ ⟨x, _, _, y, ⟨p, hp, rfl, rfl⟩, e, rfl⟩
  · rintro h u ⟨x, _, _, y, ⟨p, hp, rfl, rfl⟩, e, rfl⟩
    exact h p hp x y e
theorem irr_pre {R : List RulD} {u t : List UInt8} (h : Irr (SR R) (u ++ t)) : Irr (SR R) u := by
  rw [irr_iff] at *
  intro p hp x y e
  exact h p hp x (y ++ t) (by rw [e]; simp [List.append_assoc])
theorem okX_irr {R : List RulD} {w : ByteArray} {x : Nat} (h : Irr (SR R) (w ++ letterN x).data.toList) : okX R w x = true := by
  unfold okX
  rw [Bool.not_eq_true', Bool.eq_false_iff]
  intro he
  obtain ⟨r, hr, hs⟩ := endsR_iff.1 he
  unfold sufBB at hs
  obtain ⟨t, ht⟩ := List.isSuffixOf_iff_suffix.1 hs
  rw [irr_iff] at h
  exact h r hr t [] (by rw [List.append_nil]; exact ht.symm)
theorem irr_snoc {R : List RulD} (hne : ∀ r ∈ R, r.1.size ≠ 0) {w : ByteArray} {x : Nat} (h : Irr (SR R) w.data.toList) (hx : okX R w x = true) : Irr (SR R) (w ++ letterN x).data.toList := by
  rw [irr_iff] at *
  intro p hp a b e
  rw [app_lt] at e
  rcases List.eq_nil_or_concat b with rfl | ⟨b', y, rfl⟩
  · unfold okX at hx
    rw [Bool.not_eq_true', Bool.eq_false_iff] at hx
    refine hx (endsR_iff.2 ⟨p, hp, ?_⟩)
    unfold sufBB
    rw [List.isSuffixOf_iff_suffix, app_lt]
    exact ⟨a, by rw [e]; simp⟩
  · rw [List.concat_eq_append] at e
    have e2 : w.data.toList ++ [lt97 x] = (a ++ (p.1.data.toList ++ b')) ++ [y] := by rw [e]; simp [List.append_assoc]
    obtain ⟨h1, _⟩ := List.append_inj' e2 rfl
    exact h p hp a b' h1
theorem wordsF_irr {R : List RulD} (hne : ∀ r ∈ R, r.1.size ≠ 0) (k : Nat) : ∀ (m : Nat) (w : ByteArray), Irr (SR R) w.data.toList → ∀ u ∈ wordsF R k m w, Irr (SR R) u.data.toList
  | 0, w, hw, u, hu => by rw [List.mem_singleton.1 hu]; exact hw
  | m + 1, w, hw, u, hu => by
    obtain ⟨x, _, h2⟩ := List.mem_flatMap.1 hu
    split at h2
    · rename_i hx
      exact wordsF_irr hne k m _ (irr_snoc hne hw hx) u h2
    · cases h2
theorem irr_wordsF {R : List RulD} {k : Nat} : ∀ (t : List UInt8) (w u : ByteArray), (∀ y ∈ t, ∃ x, x < k ∧ y = lt97 x) → u.data.toList = w.data.toList ++ t → Irr (SR R) u.data.toList → u ∈ wordsF R k t.length w
  | [], w, u, _, e, _ => by
    have : u = w := ba_ext0 (by rw [e]; simp)
    rw [this]; exact List.mem_singleton.2 rfl
  | y :: t, w, u, hy, e, h => by
    obtain ⟨x, hx, rfl⟩ := hy y List.mem_cons_self
    have h1 : Irr (SR R) (w ++ letterN x).data.toList := by
      rw [app_lt]
      exact irr_pre (t := t) (by rw [List.append_assoc]; simpa [e] using h)
    refine List.mem_flatMap.2 ⟨x, List.mem_range.2 hx, ?_⟩
    rw [if_pos (okX_irr h1)]
    exact irr_wordsF t (w ++ letterN x) u (fun z hz => hy z (List.mem_cons_of_mem _ hz)) (by rw [e, app_lt, List.append_assoc]; rfl) h
theorem let_lt97 {k : Nat} {v : List UInt8} (h : okLt (k : Int) v) : ∀ y ∈ v, ∃ x, x < k ∧ y = lt97 x := fun y hy => by
  have h1 := letB_true (h y hy)
  refine ⟨y.toNat - 97, by omega, ?_⟩
  apply UInt8.toNat_inj.1
  have h2 := y.toNat_lt
  unfold lt97
  simp
  omega
/-- the words are the irreducible ones -/
theorem mem_out {R : List RulD} {k h : Nat} (hne : ∀ r ∈ R, r.1.size ≠ 0) (hL : LeftsP R) (hk : k ≤ 4) (hh : HtIs R k ⟨#[]⟩ (h : Int)) (hi : Irr (SR R) []) (u : ByteArray) : u ∈ outTo R k (h + 1) ↔ okLt (k : Int) u.data.toList ∧ Irr (SR R) u.data.toList := by
  constructor
  · intro hu
    obtain ⟨m, hm, h2⟩ := mem_outTo hu
    exact ⟨wordsF_ok hk m _ (fun y hy => by cases hy) u h2, wordsF_irr hne k m _ hi u h2⟩
  · rintro ⟨h1, h2⟩
    have hu := irr_wordsF (k := k) u.data.toList ⟨#[]⟩ u (let_lt97 h1) (by simp) h2
    have hlen : u.data.toList.length ≤ h := by
      refine Nat.le_of_not_lt fun hlt => ?_
      have e : u.data.toList = u.data.toList.take (h + 1) ++ u.data.toList.drop (h + 1) := (List.take_append_drop _ _).symm
      have h3 : Irr (SR R) (⟨(u.data.toList.take (h + 1)).toArray⟩ : ByteArray).data.toList := by
        show Irr (SR R) (u.data.toList.take (h + 1))
        rw [e] at h2
        exact irr_pre h2
      have h4 := irr_wordsF (k := k) (u.data.toList.take (h + 1)) ⟨#[]⟩ ⟨(u.data.toList.take (h + 1)).toArray⟩ (fun y hy => let_lt97 h1 y (List.mem_of_mem_take hy)) (by simp) h3
      rw [List.length_take, Nat.min_eq_left (by omega)] at h4
      have h5 := wordsF_len hL k (h + 1) ⟨#[]⟩
      rcases hh with ⟨h6, _⟩ | ⟨n, h6, _, h7⟩
      · omega
      · obtain rfl : h = n := by omega
        rw [h7] at h5
        rw [List.eq_nil_of_length_eq_zero h5] at h4
        cases h4
    exact List.mem_flatMap.2 ⟨_, List.mem_range.2 (by omega), hu⟩
theorem out_nodup {R : List RulD} {k : Nat} (hk : k ≤ 4) (n : Nat) : (outTo R k n).Nodup := by
  unfold outTo
  rw [List.Nodup, List.pairwise_flatMap]
  refine ⟨fun m _ => ?_, ?_⟩
  · refine (wordsF_rise hk m _).imp fun {a b} hab e => ?_
    subst e
    have h1 := less_app a.data.toList [] []
    simp only [List.append_nil] at h1
    unfold ltB at hab
    rw [h1] at hab
    cases hab
  · refine List.pairwise_lt_range.imp fun {m m'} hlt a ha b hb e => ?_
    subst e
    have h1 := wordsF_size R k m _ a ha
    have h2 := wordsF_size R k m' _ a hb
    omega
theorem out_head (R : List RulD) (k n : Nat) : nthS (outTo R k (n + 1)) 0 = ⟨#[]⟩ := by
  unfold outTo
  rw [List.range_succ_eq_map, List.flatMap_cons]
  rfl
theorem prodTo_pre1 (R : List RulD) (L : List ByteArray) (i : Nat) : ∀ (d j : Nat), prodTo R L i j <+: prodTo R L i (j + d)
  | 0, j => List.prefix_refl _
  | d + 1, j => by
    refine (prodTo_pre1 R L i d j).trans ?_
    rw [← Nat.add_assoc, prodTo_step]
    exact List.prefix_append _ _
theorem prodTo_pre2 (R : List RulD) (L : List ByteArray) : ∀ (d i : Nat), prodTo R L i 0 <+: prodTo R L (i + d) 0
  | 0, i => List.prefix_refl _
  | d + 1, i => by
    refine (prodTo_pre2 R L d i).trans ?_
    rw [← Nat.add_assoc, ← prodTo_next]
    have := prodTo_pre1 R L (i + d) L.length 0
    rwa [Nat.zero_add] at this
theorem prodF_at (R : List RulD) (L : List ByteArray) {i j : Nat} (hi : i < L.length) (hj : j < L.length) : (prodF R L)[i * L.length + j]? = some (idxB L (nfC R (nthS L i ++ nthS L j))) := by
  have h1 := prodTo_pre1 R L i (L.length - (j + 1)) (j + 1)
  rw [show j + 1 + (L.length - (j + 1)) = L.length by omega, prodTo_next] at h1
  have h2 := prodTo_pre2 R L (L.length - (i + 1)) (i + 1)
  rw [show i + 1 + (L.length - (i + 1)) = L.length by omega, prodTo_done] at h2
  obtain ⟨t, ht⟩ := h1.trans h2
  have hl := prodTo_len R L i j
  rw [← ht, prodTo_step, List.append_assoc, List.getElem?_append_right (by omega), hl]
  simp
theorem nodup_nth {L : List ByteArray} (h : L.Nodup) {p q : Nat} (hp : p < L.length) (hq : q < L.length) (e : nthS L p = nthS L q) : p = q := by
  rw [nthS_lt hp, nthS_lt hq] at e
  have h1 := List.pairwise_iff_getElem.1 h
  rcases Nat.lt_trichotomy p q with h2 | h2 | h2
  · exact absurd e (h1 p q hp hq h2)
  · exact h2
  · exact absurd e.symm (h1 q p hq hp h2)
theorem idxB_mem {L : List ByteArray} {v : ByteArray} (h : v ∈ L) : ∃ p, p < L.length ∧ idxB L v = (p : Int) ∧ nthS L p = v := by
  have hf : ∃ p, idxTo L v L.length = some p := by
    obtain ⟨q, hq, e⟩ := List.getElem_of_mem h
    cases hc : idxTo L v L.length with
    | some p => exact ⟨p, rfl⟩
    | none =>
      unfold idxTo at hc
      rw [List.find?_eq_none] at hc
      have := hc q (List.mem_range.2 hq)
      rw [nthS_lt hq, e] at this
      simp at this
  obtain ⟨p, hp⟩ := hf
  have h1 := hp
  unfold idxTo at h1
  have h2 := List.find?_some h1
  have h3 := List.mem_range.1 (List.mem_of_find?_eq_some h1)
  refine ⟨p, h3, ?_, ?_⟩
  · unfold idxB; rw [hp]
  · exact bytes_eq.1 h2
/-- what is known of the words of a complete system and of their table -/
structure MonG (k : Int) (R : List RulD) (L : List ByteArray) (ln : List Nat) : Prop where
  few : L.length ≤ 40
  pos : 0 < L.length
  nd : L.Nodup
  head : nthS L 0 = ⟨#[]⟩
  word : ∀ u ∈ L, wordOkB k u = true ∧ u.size ≤ 8
  mem : ∀ u : ByteArray, u ∈ L ↔ okLt k u.data.toList ∧ Irr (SR R) u.data.toList
  len : ln.length = L.length * L.length
  prod : ∀ i j, i < L.length → j < L.length → tm L.length ln i j < L.length ∧ NormIs R (nthS L i ++ nthS L j) (nthS L (tm L.length ln i j))
theorem nth_mem {L : List ByteArray} {i : Nat} (h : i < L.length) : nthS L i ∈ L := by rw [nthS_lt h]; exact List.getElem_mem h
theorem GoM.mon {k : Int} {R : List RulD} {L : List ByteArray} {P : List Int} (hm : MonIs k R L P true) : ∃ ln, P = ln.map Int.ofNat ∧ MonG k R L ln := by
  rcases hm with ⟨_, _, _, h⟩ | ⟨hg, hal, rfl, _⟩
  · cases h
  have hw := hg.words hal
  have hc := hg.1
  have hne := sys_ne hc.1.1
  rcases hal with ⟨_, _, h3⟩ | ⟨kn, h, rfl, h2, _, rfl, _, _⟩
  · cases h3
  have G := sysG_of hc.1
  have hi : Irr (SR R) [] := by
    rw [irr_iff]
    intro p hp x y e
    have h1 := hne p hp
    have h2 := congrArg List.length e
    have h3 : p.1.data.toList.length = p.1.size := rfl
    simp only [List.length_append, List.length_nil] at h2
    omega
  have hmem := mem_out hne G.ne G.k4 h2 hi
  have hpos : 0 < (outTo R kn (h + 1)).length := by
    have : (⟨#[]⟩ : ByteArray) ∈ outTo R kn (h + 1) := (hmem _).2 ⟨fun y hy => (by cases hy), hi⟩
    exact List.length_pos_of_mem this
  have hnd := out_nodup (R := R) (k := kn) G.k4 (h + 1)
  have hhd := out_head R kn h
  generalize outTo R kn (h + 1) = L at *
  have key : ∀ i j, i < L.length → j < L.length → ∃ p, p < L.length ∧ idxB L (nfC R (nthS L i ++ nthS L j)) = (p : Int) ∧ NormIs R (nthS L i ++ nthS L j) (nthS L p) := fun i j hi' hj => by
    obtain ⟨hok, _⟩ := hw.pair hi' hj
    obtain ⟨x, hx, hxo⟩ := NormIs.ex hc.1 _ _ (Nat.lt_succ_self _) hok
    have hx2 : x ∈ L := (hmem x).2 ⟨(wordOk_iff.1 hxo).2.2, (norm_nf hne hx).2⟩
    obtain ⟨p, hp, e1, e2⟩ := idxB_mem hx2
    exact ⟨p, hp, by rw [nfC_eq hx]; exact e1, by rw [e2]; exact hx⟩
  have hlen : (prodF R L).length = L.length * L.length := by
    have := prodTo_len R L L.length 0
    rw [prodTo_done] at this
    omega
  have hat : ∀ i j, i < L.length → j < L.length → tm L.length ((prodF R L).map Int.toNat) i j < L.length ∧ NormIs R (nthS L i ++ nthS L j) (nthS L (tm L.length ((prodF R L).map Int.toNat) i j)) := fun i j hi' hj => by
    obtain ⟨p, hp, e1, e2⟩ := key i j hi' hj
    have e3 : tm L.length ((prodF R L).map Int.toNat) i j = p := by
      unfold tm
      rw [List.getD_eq_getElem?_getD, List.getElem?_map, prodF_at R L hi' hj, e1]
      simp
    rw [e3]
    exact ⟨hp, e2⟩
  refine ⟨(prodF R L).map Int.toNat, ?_, ⟨hw.few, hpos, hnd, hhd, hw.word, hmem, by rw [List.length_map]; exact hlen, hat⟩⟩
  rw [List.map_map]
  symm
  conv => rhs; rw [← List.map_id (prodF R L)]
  apply List.map_congr_left
  intro x hx
  unfold prodF rowTo at hx
  simp only [List.mem_flatMap, List.mem_map, List.mem_range] at hx
  obtain ⟨i, hi', j, hj, rfl⟩ := hx
  obtain ⟨p, _, e1, _⟩ := key i j hi' hj
  rw [e1]
  simp
theorem MonG.tab {k : Int} {R : List RulD} {L : List ByteArray} {ln : List Nat} (h : MonG k R L ln) (hc : ComplP k R) : TabOk L.length ln := by
  have hne := sys_ne hc.1.1
  have hd := sys_dwn hc.1
  have hcr := comp_crit hc
  have hnf : ∀ {u x : ByteArray}, NormIs R u x → Nf (SR R) u.data.toList x.data.toList := fun hx => norm_nf hne hx
  have hirr : ∀ i, i < L.length → Irr (SR R) (nthS L i).data.toList := fun i hi => ((h.mem _).1 (nth_mem hi)).2
  have eq_of : ∀ {p q : Nat} {u : List UInt8}, p < L.length → q < L.length → Nf (SR R) u (nthS L p).data.toList → Nf (SR R) u (nthS L q).data.toList → p = q := fun {p q u} hp hq a b =>
    nodup_nth h.nd hp hq (ba_lists (Nf.uniq hd hcr _ u (Nat.lt_succ_self _) _ _ a b))
  refine ⟨⟨h.pos, h.few, h.len, ?_⟩, ?_, ?_, ?_⟩
  · intro x hx
    obtain ⟨i, hi, rfl⟩ := List.getElem_of_mem hx
    rw [h.len] at hi
    have hm := h.pos
    have h1 : i / L.length < L.length := Nat.div_lt_of_lt_mul hi
    have h2 : i % L.length < L.length := Nat.mod_lt _ hm
    have h3 := (h.prod _ _ h1 h2).1
    have e : i / L.length * L.length + i % L.length = i := by rw [Nat.mul_comm]; exact Nat.div_add_mod i L.length
    unfold tm at h3
    rw [e, List.getD_eq_getElem?_getD, List.getElem?_eq_getElem (by rw [h.len]; exact hi)] at h3
    exact h3
  · intro i hi
    obtain ⟨h1, h2⟩ := h.prod 0 i h.pos hi
    have h3 := hnf h2
    rw [h.head, ByteArray.data_append, Array.toList_append] at h3
    refine eq_of h1 hi h3 ?_
    have e : (⟨#[]⟩ : ByteArray).data.toList ++ (nthS L i).data.toList = (nthS L i).data.toList := rfl
    rw [e]
    exact ⟨.refl _, hirr i hi⟩
  · intro i hi
    obtain ⟨h1, h2⟩ := h.prod i 0 hi h.pos
    have h3 := hnf h2
    rw [h.head, ByteArray.data_append, Array.toList_append] at h3
    refine eq_of h1 hi h3 ?_
    have e : (nthS L i).data.toList ++ (⟨#[]⟩ : ByteArray).data.toList = (nthS L i).data.toList := List.append_nil _
    rw [e]
    exact ⟨.refl _, hirr i hi⟩
  · intro i j l hi hj hl
    obtain ⟨a1, a2⟩ := h.prod i j hi hj
    obtain ⟨b1, b2⟩ := h.prod j l hj hl
    obtain ⟨c1, c2⟩ := h.prod _ l a1 hl
    obtain ⟨d1, d2⟩ := h.prod i _ hi b1
    have A := hnf a2
    have B := hnf b2
    have C := hnf c2
    have D := hnf d2
    rw [ByteArray.data_append, Array.toList_append] at A B C D
    refine eq_of (u := (nthS L i).data.toList ++ ((nthS L j).data.toList ++ (nthS L l).data.toList)) c1 d1 ⟨?_, C.2⟩ ⟨?_, D.2⟩
    · have h1 := A.1.ctx [] (nthS L l).data.toList
      simp only [List.nil_append] at h1
      rw [← List.append_assoc]
      exact h1.trans C.1
    · have h1 := B.1.ctx (nthS L i).data.toList []
      simp only [List.append_nil] at h1
      exact h1.trans D.1
theorem mon_table {k : Int} {R : List RulD} {L : List ByteArray} {P : List Int} (hm : MonIs k R L P true) : ∃ ln, P = ln.map Int.ofNat ∧ TabOk L.length ln ∧ MonG k R L ln := by
  have hg : ComplP k R := by
    rcases hm with ⟨_, _, _, h⟩ | ⟨hg, _⟩
    · cases h
    · exact hg.1
  obtain ⟨ln, h1, h2⟩ := GoM.mon hm
  exact ⟨ln, h1, h2.tab hg, h2⟩
/-- a valid table -/
def TabG (m : Nat) (l : List Int) : Prop := ∃ ln : List Nat, l = ln.map Int.ofNat ∧ TabOk m ln
theorem TabOk.rows {m : Nat} {ln : List Nat} (h : TabOk m ln) : rowsOk m ln = true := by
  refine all_range.2 fun i hi => ?_
  unfold rowOk idn
  rw [Bool.and_eq_true, Bool.and_eq_true, decide_eq_true_eq, decide_eq_true_eq]
  refine ⟨⟨h.left i hi, h.right i hi⟩, all_range.2 fun j hj => all_range.2 fun k hk => ?_⟩
  unfold asc
  rw [decide_eq_true_eq]
  exact h.assoc i j k hi hj hk
theorem TabG.tab {m : Nat} {l : List Int} (h : TabG m l) : tabB (m : Nat) l = true := by
  obtain ⟨ln, rfl, h⟩ := h
  exact tabB_rows h.toTb h.rows
end Go.Proofs.Ytdhaebbfiaddnaa
namespace Go.Proofs.Ytdhaebbfiaddnaa
open Go.RowKit
set_option linter.unusedVariables false
/-- a valid table in memory, its products in a row of its own -/
def TabV (base : Nat) (w : World) (v : Value) : Prop := ∃ (m : Nat) (l : List Int) (a : Option Addr) (cap : Nat), TabG m l ∧ v = .agg #[.int .i64 (m : Nat), .slice a l.length cap] ∧ w.ownsRow base 3 1 (.slice a l.length cap) l.length (intVals l)
theorem TabV.later {base : Nat} {w w' : World} {v : Value} (h : TabV base w v) (hb : Below w.heap.size w w') : TabV base w' v := by
  obtain ⟨m, l, a, cap, h1, h2, h3⟩ := h
  exact ⟨m, l, a, cap, h1, h2, owns_later h3 hb⟩
theorem TabV.down {base base' : Nat} {w : World} {v : Value} (h : TabV base w v) (hb : base' ≤ base) : TabV base' w v := by
  obtain ⟨m, l, a, cap, h1, h2, h3⟩ := h
  exact ⟨m, l, a, cap, h1, h2, owns_mono h3 hb⟩
theorem TabG.two : TabG 2 [0, 1, 1, 1] := by
  refine ⟨[0, 1, 1, 1], rfl, ⟨by decide, by decide, by decide, by decide⟩, by decide, by decide, ?_⟩
  have h : ∀ i, i < 2 → ∀ j, j < 2 → ∀ k, k < 2 → tm 2 [0, 1, 1, 1] (tm 2 [0, 1, 1, 1] i j) k = tm 2 [0, 1, 1, 1] i (tm 2 [0, 1, 1, 1] j k) := by decide
  exact fun i j k hi hj hk => h i hi j hj k hk
theorem TabV.mon {k : Int} {R : List RulD} {w' : World} {L : List ByteArray} {P : List Int} {base : Nat} {aP : Option Addr} {cP : Nat} (h : MonIs k R L P true) (ho : w'.ownsRow base 3 1 (.slice aP P.length cP) P.length (intVals P)) :
    TabV base w' (.agg #[.int .i64 (L.length : Nat), .slice aP P.length cP]) := by
  obtain ⟨ln, h1, h2, _⟩ := mon_table h
  exact ⟨L.length, P, aP, cP, ⟨ln, h1, h2⟩, rfl, ho⟩
theorem TabV.lit (w : World) : TabV w.heap.size (w.alloc (.cells #[.int .i64 0, .int .i64 1, .int .i64 1, .int .i64 1] 3)) (.agg #[.int .i64 2, .slice (some ⟨w.heap.size, 0, none⟩) 4 4]) :=
  ⟨2, [0, 1, 1, 1], some ⟨w.heap.size, 0, none⟩, 4, TabG.two, rfl, World.ownsRow_lit w #[.int .i64 0, .int .i64 1, .int .i64 1, .int .i64 1] 4 (Nat.le_refl _) (by unfold maxLen; omega) rfl⟩
def tabLits : List ByteArray := [⟨#[49, 32, 97, 97, 97, 62, 46]⟩, ⟨#[49, 32, 97, 97, 97, 97, 62, 97, 97]⟩, ⟨#[50, 32, 97, 97, 62, 46, 32, 98, 98, 62, 46, 32, 98, 97, 62, 97, 98]⟩, ⟨#[50, 32, 97, 97, 62, 46, 32, 98, 98, 62, 46, 32, 98, 97, 98, 62, 97, 98, 97]⟩, ⟨#[50, 32, 97, 97, 62, 97, 32, 98, 98, 62, 98, 32, 98, 97, 62, 97, 98]⟩, ⟨#[50, 32, 97, 97, 62, 97, 32, 97, 98, 62, 97, 32, 98, 97, 62, 98, 32, 98, 98, 62, 98]⟩, ⟨#[49]⟩, ⟨#[49, 32, 97, 97, 62, 97]⟩, ⟨#[50, 32, 97, 97, 97, 62, 46, 32, 98, 98, 62, 46, 32, 97, 97, 98, 62, 98, 97, 32, 97, 98, 97, 62, 98, 32, 98, 97, 97, 62, 97, 98, 32, 98, 97, 98, 62, 97, 97]⟩, ⟨#[50, 32, 97, 97, 62, 46, 32, 98, 98, 98, 62, 46, 32, 97, 98, 98, 62, 98, 97, 32, 97, 98, 97, 62, 98, 98, 32, 98, 97, 98, 62, 97, 32, 98, 98, 97, 62, 97, 98]⟩, ⟨#[50, 32, 97, 97, 62, 97, 32, 98, 98, 62, 98, 32, 97, 98, 97, 62, 97, 98, 32, 98, 97, 98, 62, 97, 98]⟩]
theorem tabLits_size : ∀ i, i < tabLits.length → (nthS tabLits i).size ≤ 100 := by decide
/-- the box of the result behind a call -/
theorem alloc_belowT (w : World) (o : Obj) : Below w.heap.size w (w.alloc o) := (Below.refl _ _).alloc (Nat.le_refl _) o
theorem grown_ofB {w w1 w2 : World} {B : Nat} (h : w.grownBy w1 (some B)) (hb : Below w1.heap.size w1 w2) : w.grownBy w2 (some B) :=
  grown_tr h ⟨hb.os, hb.tape, hb.output, hb.size, fun k hk _ => hb.block k hk⟩
theorem grown_set2 {w w1 : World} {B g o : Nat} {v : Value} (h : w.grownBy w1 (some B)) (hg : w.heap.size ≤ g) : w.grownBy (w1.setCell ⟨g, o, none⟩ v) (some B) := by
  have hszc : (w1.setCell ⟨g, o, none⟩ v).heap.size = w1.heap.size := by simp
  exact ⟨h.os, h.tape, h.output, by rw [hszc]; exact h.size, fun k hk hne => by
    unfold World.setCell
    rw [Array.getElem?_modify, if_neg (fun e : g = k => by omega)]; exact h.block k hk hne⟩
theorem CurAt.set {w : World} {B : Nat} {a : Option Addr} {n cap g o : Nat} {v : Value} (h : CurAt w B a n cap) (hg : B ≠ g) : CurAt (w.setCell ⟨g, o, none⟩ v) B a n cap := by
  obtain ⟨i, hh, h1, h2⟩ := h
  exact ⟨i, hh, by
    unfold World.setCell
    rw [Array.getElem?_modify, if_neg (fun e : g = B => hg e.symm)]; exact h1, h2⟩
theorem IntsIn.setFar {w : World} {a : Option Addr} {l : List Int} {x : Value} {g o base : Nat} (h3 : IntsIn w a l) (h5 : ∀ x, a = some x → base ≤ x.block) (hg : g < base) : IntsIn (w.setCell ⟨g, o, none⟩ x) a l := by
  rcases h3 with h3 | ⟨b, off, ha, hc⟩
  · exact .inl h3
  · refine .inr ⟨b, off, ha, fun i hi => ?_⟩
    have hb : base ≤ b := h5 _ ha
    have e : (w.setCell ⟨g, o, none⟩ x).heap[b]? = w.heap[b]? := by
      unfold World.setCell
      rw [Array.getElem?_modify, if_neg (fun e : g = b => by omega)]
    rw [World.cell?_of_block (w := w) e]
    exact hc i hi
theorem TabV.set {w : World} {v x : Value} {g o base : Nat} (h : TabV base w v) (hg : g < base) : TabV base (w.setCell ⟨g, o, none⟩ x) v := by
  obtain ⟨m, l, a, cap, h1, rfl, h3⟩ := h
  exact ⟨m, l, a, cap, h1, rfl, ownsRow_setCell_below h3 hg x⟩
/-- what a table's draw leaves -/
def RetTV (B : Nat) (a : Option Addr) (l : List UInt8) (cap : Nat) (w : World) (e : Ending) (w' : World) : Prop := ∃ v, e = .returned v ∧ TabV (w.heap.size + 1) w' v ∧ CurOk w' B a l cap ∧ w.grownBy w' (some B)
theorem tv_box {w w1 : World} {B : Nat} {o : Obj} (hg : (w.alloc o).grownBy w1 (some B)) (hB : B < w.heap.size) : w1.heap[w.heap.size]? = some o :=
  (hg.block w.heap.size (by simp) (fun e => by have := Option.some.inj e; omega)).trans (alloc_at w o)
theorem box_sets {W : World} {g : Nat} {x y : Value} {T : TypeId} (h : W.heap[g]? = some (.cells #[x, y] T (0, 0))) (u v : Value) : (W.frozen? ⟨g, 0, none⟩ = false ∧ W.frozen? ⟨g, 1, none⟩ = false) ∧ (((W.setCell ⟨g, 0, none⟩ u).setCell ⟨g, 1, none⟩ v).cell? ⟨g, 0, none⟩ = some u ∧ ((W.setCell ⟨g, 0, none⟩ u).setCell ⟨g, 1, none⟩ v).cell? ⟨g, 1, none⟩ = some v) ∧ W.cell? ⟨g, 0, none⟩ = some x ∧ W.cell? ⟨g, 1, none⟩ = some y :=
  ⟨⟨by simp [World.frozen?, h], by simp [World.frozen?, h]⟩, sys_cells (set_two h u v), sys_cells h⟩
/-- a literal row of strings is drawn from: the row in the walk's own form -/
theorem strLit_arr (B : Nat) (a : Option Addr) (l : List UInt8) (cap : Nat) (ls : List ByteArray) (arr : Array Value) (n g : Nat) (w : World) (h : CurOk w B a l cap) (hg : w.heap.size = g) (h1 : 1 ≤ n) (h2 : n ≤ 256) (he : (strVals ls).toArray = arr) (hn : ls.length = n) (hz : ∀ i, i < ls.length → (nthS ls i).size ≤ 100) :
    Calls Try.prog 29 #[.pointer (some ⟨B, 0, none⟩), .slice (some ⟨g, 0, none⟩) n n] (w.alloc (.cells arr 9)) fun e w' => ∃ s : ByteArray, s.size ≤ 100 ∧ e = .returned (.string s) ∧ CurOk w' B a l cap ∧ w.grownBy w' (some B) := by
  subst he hn hg
  exact (strLit_any B a l cap ls w h h1 h2).mono fun _ _ ⟨i, hi, he, hc, hg⟩ => ⟨_, hz i hi, he, hc, hg⟩
set_option maxRecDepth 20000 in
set_option maxHeartbeats 2000000 in
theorem l08Draw_any (B : Nat) (a : Option Addr) (l : List UInt8) (cap : Nat) (w : World) (h : CurOk w B a l cap) :
    Calls Try.prog 15 #[.pointer (some ⟨B, 0, none⟩)] w (RetTV B a l cap w) := by
  have HC0 := Lib.hid h
  have HLT := Lib.hid h.lt
  clear h
  go_enter Try.func15, Try.ntmps15
  go_wp2_with fail
  refine (strLit_arr B a l cap tabLits _ 11 _ _ (HC0.out.alloc _) (by simp) (by decide) (by decide) (by kernel_rfl) (by kernel_rfl) tabLits_size).mono ?_
  rintro e w2 ⟨s, hz, rfl, hc2, hg2⟩
  have HX2 := Lib.hid (tv_box hg2 HLT.out)
  have HG2 := Lib.hid (grown_tr (grown_alloc ⟨rfl, rfl, rfl, Nat.le_refl _, fun _ _ _ => rfl⟩ _) hg2)
  have HC2 := Lib.hid hc2.at_
  clear hc2 hg2
  go_wp2_with fail
  refine (specParseSystem_any s _ (by omega)).mono ?_
  rintro e w3 ⟨k, R, aR, cR, b, ⟨hsh, hn⟩, rfl, hR, hb3⟩
  have hl2 : w.heap.size < w2.heap.size := (Array.getElem?_eq_some_iff.1 HX2.out).1
  have HX3 := Lib.hid ((hb3.block w.heap.size hl2).trans HX2.out)
  have HG3 := Lib.hid (grown_ofB HG2.out hb3)
  have HC3 := Lib.hid (HC2.out.later hb3)
  have HRL := Lib.hid hR
  have HSZ := Lib.hid (hsh.sz (show s.size + 1 ≤ maxLen by unfold maxLen; omega))
  have hnR : R.length ≤ 2 ^ 40 := by omega
  clear hb3 HX2 HG2 HC2 hR hsh hl2 hn
  go_wp2_with fail
  refine (specMonoidOf_any k R aR cR _ (HRL.out.later (alloc_belowT _ _)) hnR HSZ.out).mono ?_
  rintro e w5 ⟨L, P, f, aP, aL, cP, cL, hmon, rfl, hoP, hoL, hb5⟩
  have hb35 := Below.now (alloc_belowT w3 (.cells #[.int .i64 k, .slice aR R.length cR] 52)) hb5
  have hl3 : w.heap.size < w3.heap.size := (Array.getElem?_eq_some_iff.1 HX3.out).1
  have hx5 := (hb35.block w.heap.size hl3).trans HX3.out
  have HG5 := Lib.hid (grown_ofB HG3.out hb35)
  have HC5 := Lib.hid (HC3.out.later hb35)
  have HMN := Lib.hid hmon
  have HOP : Hid (w5.ownsRow w3.heap.size 3 1 (.slice aP P.length cP) P.length (intVals P)) := Lib.hid (owns_mono hoP (by simp))
  have HL3 := Lib.hid hl3
  have HLP := Lib.hid hmon.few.2
  clear hoL hb5 hb35 HX3 HG3 HC3 HRL HSZ hmon hoP hl3
  go_upto_region 3 with fail
  have hx6 := ((alloc_belowT w5 (.cells #[.int .i64 (L.length : Nat), .slice aP P.length cP] 25)).block w.heap.size (Array.getElem?_eq_some_iff.1 hx5).1).trans hx5
  obtain ⟨y0, y1⟩ := sys_cells (alloc_at w5 (.cells #[.int .i64 (L.length : Nat), .slice aP P.length cP] 25))
  have HG6 := Lib.hid (grown_ofB HG5.out (alloc_belowT w5 (.cells #[.int .i64 (L.length : Nat), .slice aP P.length cP] 25)))
  have HC6 := Lib.hid (HC5.out.later (alloc_belowT w5 (.cells #[.int .i64 (L.length : Nat), .slice aP P.length cP] 25)))
  have HO6 := Lib.hid (owns_later HOP.out (alloc_belowT w5 (.cells #[.int .i64 (L.length : Nat), .slice aP P.length cP] 25)))
  clear HG5 HC5 HOP hx5
  generalize w5.alloc (.cells #[.int .i64 (L.length : Nat), .slice aP P.length cP] 25) = w6 at *
  have HBN : Hid (B ≠ w.heap.size) := Lib.hid (by have := HLT.out; omega)
  cases f
  · have hl6 : w.heap.size < w6.heap.size := (Array.getElem?_eq_some_iff.1 hx6).1
    have F : Hid (RetTV B a l cap w (.returned (.agg #[.int .i64 2, .slice (some ⟨w6.heap.size, 0, none⟩) 4 4])) (((w6.alloc (.cells #[.int .i64 0, .int .i64 1, .int .i64 1, .int .i64 1] 3)).setCell ⟨w.heap.size, 0, none⟩ (.int .i64 2)).setCell ⟨w.heap.size, 1, none⟩ (.slice (some ⟨w6.heap.size, 0, none⟩) 4 4))) := Lib.hid (by
      have hg := grown_set2 (o := 1) (v := .slice (some ⟨w6.heap.size, 0, none⟩) 4 4) (grown_set2 (o := 0) (v := .int .i64 2) (grown_ofB HG6.out (alloc_belowT w6 (.cells #[.int .i64 0, .int .i64 1, .int .i64 1, .int .i64 1] 3))) (Nat.le_refl w.heap.size)) (Nat.le_refl w.heap.size)
      exact ⟨_, rfl, (((TabV.lit w6).down hl6).set (Nat.lt_succ_self _)).set (Nat.lt_succ_self _), HC0.out.next (((HC6.out.later (alloc_belowT _ _)).set HBN.out).set HBN.out) hg, hg⟩)
    rw [World.setCell_alloc_past _ _ _ _ hl6, World.setCell_alloc_past _ _ _ _ (by simpa using hl6)] at F
    obtain ⟨⟨f0, f1⟩, ⟨u0, u1⟩, z0, z1⟩ := box_sets hx6 (.int .i64 2) (.slice (some ⟨w6.heap.size, 0, none⟩) 4 4)
    clear hx6 y0 y1 HG6 HC6 HO6 HMN
    go_wp2_with fail
    refine bodyPost_ret (v := .agg #[.int .i64 2, .slice (some ⟨w6.heap.size, 0, none⟩) 4 4]) ?_ rfl F.out
    have v0 := (World.cell?_alloc_past (w := (w6.setCell ⟨w.heap.size, 0, none⟩ (.int .i64 2)).setCell ⟨w.heap.size, 1, none⟩ (.slice (some ⟨w6.heap.size, 0, none⟩) 4 4)) (.cells #[.int .i64 0, .int .i64 1, .int .i64 1, .int .i64 1] 3) w.heap.size 0 (by simpa using hl6)).trans u0
    have v1 := (World.cell?_alloc_past (w := (w6.setCell ⟨w.heap.size, 0, none⟩ (.int .i64 2)).setCell ⟨w.heap.size, 1, none⟩ (.slice (some ⟨w6.heap.size, 0, none⟩) 4 4)) (.cells #[.int .i64 0, .int .i64 1, .int .i64 1, .int .i64 1] 3) w.heap.size 1 (by simpa using hl6)).trans u1
    simp [results, Try.results15, go_sem, v0, v1]
  · have hg := grown_set2 (o := 1) (v := .slice aP P.length cP) (grown_set2 (o := 0) (v := .int .i64 (L.length : Nat)) HG6.out (Nat.le_refl w.heap.size)) (Nat.le_refl w.heap.size)
    have hO : ((w6.setCell ⟨w.heap.size, 0, none⟩ (.int .i64 (L.length : Nat))).setCell ⟨w.heap.size, 1, none⟩ (.slice aP P.length cP)).ownsRow w3.heap.size 3 1 (.slice aP P.length cP) P.length (intVals P) := ownsRow_setCell_below (ownsRow_setCell_below HO6.out HL3.out _) HL3.out _
    have F : Hid (RetTV B a l cap w (.returned (.agg #[.int .i64 (L.length : Nat), .slice aP P.length cP])) ((w6.setCell ⟨w.heap.size, 0, none⟩ (.int .i64 (L.length : Nat))).setCell ⟨w.heap.size, 1, none⟩ (.slice aP P.length cP))) := Lib.hid ⟨_, rfl, (TabV.mon HMN.out hO).down HL3.out, HC0.out.next ((HC6.out.set HBN.out).set HBN.out) hg, hg⟩
    obtain ⟨⟨f0, f1⟩, ⟨u0, u1⟩, z0, z1⟩ := box_sets hx6 (.int .i64 (L.length : Nat)) (.slice aP P.length cP)
    clear hx6 HG6 HC6 HO6 HMN hg hO
    go_wp2_with fail
    refine bodyPost_ret (v := .agg #[.int .i64 (L.length : Nat), .slice aP P.length cP]) ?_ rfl F.out
    simp [results, Try.results15, go_sem, u0, u1]
/-- what MakeTable leaves -/
def RetMT (w : World) (e : Ending) (w' : World) : Prop := ∃ (m : Nat) (l : List Int) (a : Option Addr) (cap : Nat), TabG m l ∧ e = .returned (.agg #[.int .i64 (m : Nat), .slice a l.length cap]) ∧ IntsIn w' a l ∧ (l.length ≤ cap ∧ cap ≤ maxLen) ∧ Below w.heap.size w w'
set_option maxRecDepth 20000 in
set_option maxHeartbeats 1000000 in
theorem makeTable_any (a : Option Addr) (l : List UInt8) (cap k : Nat) (w : World) (hl : BytesIn w a l) (hlen : l.length ≤ 2 ^ 40) (hk : k ≤ 1000) :
    Calls Try.prog 4 #[.slice a l.length cap, .int .i64 (k : Nat)] w (RetMT w) := by
  have HN := Lib.hid (l31New_any a l cap k (w.alloc (.cells #[.int .i64 0, .slice none 0 0] 25)) (hl.later (alloc_belowT _ _)) hlen hk)
  have e1 : (w.alloc (.cells #[.int .i64 0, .slice none 0 0] 25)).heap.size = w.heap.size + 1 := by simp
  have HB0 := Lib.hid (alloc_belowT w (.cells #[.int .i64 0, .slice none 0 0] 25))
  have HA := Lib.hid (alloc_at w (.cells #[.int .i64 0, .slice none 0 0] 25))
  rw [e1] at HN
  have HE := Lib.hid e1
  clear hl e1
  go_enter Try.func4, Try.ntmps4
  go_wp2_with fail
  refine HN.out.mono ?_
  rintro e w2 ⟨rfl, hc, hb⟩
  have HC := Lib.hid hc
  have hl1 : w.heap.size < w2.heap.size := by have := hc.lt; omega
  have hb0 : Below w.heap.size w w2 := Below.now HB0.out (by rw [HE.out]; exact hb)
  have HB := Lib.hid hb0
  have HX := Lib.hid ((hb.block w.heap.size (by omega)).trans HA.out)
  clear hc hb HN hb0 HA HB0 HE
  go_wp2_with fail
  refine (l08Draw_any _ a l cap _ HC.out).mono ?_
  rintro e w3 ⟨v, rfl, ⟨m, z, az, cz, hT, rfl, hown⟩, hc3, hg3⟩
  have hz := owns_ints (l := z) hown
  have hcap := owns_capS hown
  have hfar := owns_base hown
  clear hown
  have HB3 := Lib.hid (below_curs HB.out hg3 (Nat.le_succ _))
  have hx := (hg3.block w.heap.size hl1 (fun e => by have := Option.some.inj e; omega)).trans HX.out
  obtain ⟨⟨f0, f1⟩, ⟨u0, u1⟩, z0, z1⟩ := box_sets hx (.int .i64 (m : Nat)) (.slice az z.length cz)
  have F : Hid (RetMT w (.returned (.agg #[.int .i64 (m : Nat), .slice az z.length cz])) ((w3.setCell ⟨w.heap.size, 0, none⟩ (.int .i64 (m : Nat))).setCell ⟨w.heap.size, 1, none⟩ (.slice az z.length cz))) := Lib.hid ⟨m, z, az, cz, hT, rfl, (hz.setFar hfar (by omega)).setFar hfar (by omega), hcap, (HB3.out.setCell (Nat.le_refl _) _).setCell (Nat.le_refl _) _⟩
  clear hx hz hT hcap hfar hc3 hg3 HC HB HX HB3
  go_wp2_with fail
  refine bodyPost_ret (v := .agg #[.int .i64 (m : Nat), .slice az z.length cz]) ?_ rfl F.out
  simp [results, Try.results4, go_sem, u0, u1]
end Go.Proofs.Ytdhaebbfiaddnaa
namespace Go.Proofs.Ytdhaebbfiaddnaa
open Go.RowKit
set_option linter.unusedVariables false
set_option maxHeartbeats 400000 in
theorem implTimes_any (m : Nat) (ln : List Nat) (a : Option Addr) (len cap i k : Nat) (w : World) (hl : NatsIn w a ln) (hT : Tb m ln) (hlen : len = m * m) (hi : i < m) (hk : k < m) :
    Calls Try.prog 19 #[.agg #[.int .i64 m, .slice a len cap], .int .i64 i, .int .i64 k] w fun e w' => e = .returned (.int .i64 (tm m ln i k : Nat)) ∧ Below w.heap.size w w' := by
  have h1 : i * m + k < len := by rw [hlen]; exact ix_lt hi hk
  have h2 := mul_le hT.hi hi
  have h3 : len ≤ 1600 := by rw [hlen]; exact sq_le hT.hi
  clear hlen
  obtain ⟨b, off, rfl, hb, hc⟩ := hT.cell hl
  have hc1 := hc i k hi hk
  have HT := Lib.hid hT
  clear hc hT hl
  go_enter Try.func19, Try.ntmps19
  go_wp2
  go_ret
  exact ⟨rfl, (Below.refl _ _).alloc (Nat.le_refl _) _⟩
end Go.Proofs.Ytdhaebbfiaddnaa
