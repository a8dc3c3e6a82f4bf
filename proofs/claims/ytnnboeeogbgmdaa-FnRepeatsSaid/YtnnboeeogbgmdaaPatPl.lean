/-
  Patterns that are filled fit, and fits fill them: plain data.
-/
import Derived.Test.YtnnboeeogbgmdaaFitsP
import Derived.Test.YtnnboeeogbgmdaaFirstS
namespace Go.Proofs.Ytnnboeeogbgmdaa
open Go.RowKit
set_option linter.unusedVariables false
/-- a pattern filled with values -/
def fillL (nm : List UInt8) : List UInt8 → List ByteArray → List UInt8
  | [], _ => []
  | c :: p, vs => (if isVarB c = true then bl (nthS vs (npos nm c)) else [c]) ++ fillL nm p vs
theorem fillL_app (nm : List UInt8) (vs : List ByteArray) : ∀ p q : List UInt8, fillL nm (p ++ q) vs = fillL nm p vs ++ fillL nm q vs
  | [], q => rfl
  | c :: p, q => by
    show _ ++ fillL nm (p ++ q) vs = _
    rw [fillL_app nm vs p q, ← List.append_assoc]; rfl
theorem fillTo_bl (p : ByteArray) (vs : List ByteArray) : ∀ j, j ≤ p.size → bl (fillTo p vs j) = fillL (bl (varsOf p)) ((bl p).take j) vs
  | 0, _ => rfl
  | j + 1, h => by
    have hj : j < p.size := h
    rw [List.take_succ_eq_append_getElem (by rw [bl_len]; exact hj), fillL_app, ← fillTo_bl p vs j (by omega)]
    have hc : (bl p)[j]'(by rw [bl_len]; exact hj) = p[j] := rfl
    rw [hc]
    cases hv : isVarB p[j]
    · rw [fillTo_let hj hv]
      show bl (fillTo p vs j ++ ⟨#[p[j]]⟩) = bl (fillTo p vs j) ++ ((if isVarB p[j] = true then _ else [p[j]]) ++ [])
      rw [hv]
      simp [bl]
    · rw [fillTo_var hj hv]
      show bl (fillTo p vs j ++ nthS vs (vpos p j)) = bl (fillTo p vs j) ++ ((if isVarB p[j] = true then bl (nthS vs (npos (bl (varsOf p)) p[j])) else _) ++ [])
      rw [hv, if_pos rfl, List.append_nil]
      have : vpos p j = npos (bl (varsOf p)) p[j] := by unfold vpos npos; rw [byte_getD hj]; rfl
      rw [this]
      simp [bl]
theorem fillTo_full (p : ByteArray) (vs : List ByteArray) : bl (fillTo p vs p.size) = fillL (bl (varsOf p)) (bl p) vs := by
  rw [fillTo_bl p vs p.size (Nat.le_refl _), List.take_of_length_le (by rw [bl_len]; exact Nat.le_refl _)]
/-- a value that may fill a variable -/
def goodV (v : ByteArray) : Prop := 1 ≤ v.size ∧ v.size ≤ 16 ∧ ∀ c ∈ bl v, letB 4 c = true
theorem tx_inj {l : List UInt8} {v : ByteArray} (h : l = bl v) : tx l = v := by rw [h, tx_bl]
/-- what fits fills the pattern to the word -/
theorem fits_sound (p : ByteArray) : ∀ (n i : Nat) (w : List UInt8) (vs x : List ByteArray), p.size = i + n → vs.length = (varsTo p i).size → w.length ≤ 16 → (∀ c ∈ w, letB 4 c = true) → (∀ v ∈ vs, goodV v) →
    x ∈ fits (bl (varsOf p)) ((bl p).drop i) w vs → w = fillL (bl (varsOf p)) ((bl p).drop i) x ∧ x.length = (varsOf p).size ∧ (∀ v ∈ x, goodV v)
  | 0, i, w, vs, x, hi, hl, hw, hwl, hg, hx => by
    obtain rfl : i = p.size := by omega
    have hd : (bl p).drop p.size = [] := List.drop_of_length_le (by rw [bl_len]; exact Nat.le_refl _)
    rw [hd] at hx ⊢
    unfold fits at hx
    split at hx
    · rename_i h0
      rw [List.mem_singleton.1 hx]
      exact ⟨List.eq_nil_of_length_eq_zero h0, hl, hg⟩
    · cases hx
  | n + 1, i, w, vs, x, hi, hl, hw, hwl, hg, hx => by
    have hip : i < p.size := by omega
    rw [drop_at hip] at hx ⊢
    cases hvar : isVarB p[i]
    · obtain ⟨_, k2⟩ := let_case hip hvar
      cases w with
      | nil => rw [fits_let_nil hvar] at hx; cases hx
      | cons b w =>
        by_cases hb : b = p[i]
        · rw [fits_let hvar hb] at hx
          obtain ⟨h1, h2, h3⟩ := fits_sound p n (i + 1) w vs x (by omega) (by rw [k2]; exact hl) (by simp at hw; omega) (fun c hc => hwl c (List.mem_cons_of_mem _ hc)) hg hx
          refine ⟨?_, h2, h3⟩
          show b :: w = (if isVarB p[i] = true then _ else [p[i]]) ++ fillL _ _ x
          rw [hvar, ← h1, hb]; rfl
        · rw [fits_let_no hvar hb] at hx; cases hx
    · rcases var_cases hip hvar with ⟨k1, k2, k3⟩ | ⟨k1, k2⟩
      · obtain ⟨kn, hkn⟩ := Int.eq_ofNat_of_zero_le k1
        have hnp : npos (bl (varsOf p)) p[i] = kn := by unfold npos; rw [hkn]; simp
        have hkv : kn < vs.length := by rw [hl]; omega
        cases hp : (bl (nthS vs (npos (bl (varsOf p)) p[i]))).isPrefixOf w
        · rw [fits_old_no hvar (by rw [hnp]; exact hkv) hp] at hx; cases hx
        · rw [fits_old hvar (by rw [hnp]; exact hkv) hp] at hx
          have hpre := List.isPrefixOf_iff_prefix.1 hp
          obtain ⟨t, ht⟩ := hpre
          have hdr : w.drop (nthS vs (npos (bl (varsOf p)) p[i])).size = t := by rw [← ht, ← bl_len, List.drop_left]
          obtain ⟨h1, h2, h3⟩ := fits_sound p n (i + 1) (w.drop (nthS vs (npos (bl (varsOf p)) p[i])).size) vs x (by omega) (by rw [k3]; exact hl) (by rw [List.length_drop]; omega) (fun c hc => hwl c (List.mem_of_mem_drop hc)) hg hx
          obtain ⟨q, hq⟩ := fits_ext _ _ _ _ _ hx
          refine ⟨?_, h2, h3⟩
          show w = (if isVarB p[i] = true then bl (nthS x (npos (bl (varsOf p)) p[i])) else _) ++ fillL _ _ x
          rw [hvar, if_pos rfl, ← h1, hdr]
          have : nthS x (npos (bl (varsOf p)) p[i]) = nthS vs (npos (bl (varsOf p)) p[i]) := by
            rw [hq]
            unfold nthS
            rw [List.getD_eq_getElem?_getD, List.getElem?_append_left (by rw [hnp]; exact hkv), ← List.getD_eq_getElem?_getD]
          rw [this, ht]
      · have hnp : npos (bl (varsOf p)) p[i] = vs.length := by unfold npos; rw [k1, hl]; simp
        rw [fits_new hvar (by rw [hnp]; omega)] at hx
        unfold fitsTo at hx
        obtain ⟨m, hm, hx⟩ := List.mem_flatMap.1 hx
        have hm := List.mem_range.1 hm
        have hgn : goodV (tx (w.take (m + 1))) := by
          refine ⟨by rw [tx_size, List.length_take]; omega, by rw [tx_size, List.length_take]; omega, fun c hc => ?_⟩
          rw [bl_tx] at hc
          exact hwl c (List.mem_of_mem_take hc)
        obtain ⟨h1, h2, h3⟩ := fits_sound p n (i + 1) (w.drop (m + 1)) (vs ++ [tx (w.take (m + 1))]) x (by omega) (by rw [k2, List.length_append, hl]; rfl) (by rw [List.length_drop]; omega) (fun c hc => hwl c (List.mem_of_mem_drop hc)) (fun v hv => by
          rcases List.mem_append.1 hv with h | h
          · exact hg v h
          · rw [List.mem_singleton.1 h]; exact hgn) hx
        obtain ⟨q, hq⟩ := fits_ext _ _ _ _ _ hx
        refine ⟨?_, h2, h3⟩
        show w = (if isVarB p[i] = true then bl (nthS x (npos (bl (varsOf p)) p[i])) else _) ++ fillL _ _ x
        rw [hvar, if_pos rfl, ← h1]
        have : nthS x (npos (bl (varsOf p)) p[i]) = tx (w.take (m + 1)) := by
          rw [hq, hnp]
          unfold nthS
          rw [List.getD_eq_getElem?_getD, List.getElem?_append_left (by simp), List.getElem?_append_right (Nat.le_refl _)]
          simp
        rw [this, bl_tx, List.take_append_drop]
theorem varsTo_mono (p : ByteArray) {i j : Nat} (h : i ≤ j) : (varsTo p i).size ≤ (varsTo p j).size := by
  obtain ⟨t, ht⟩ := vars_pre p h
  have := congrArg List.length ht
  simp only [List.length_append] at this
  rw [bl_size, bl_size] at this; omega
/-- what is filled fits -/
theorem fits_complete (p : ByteArray) (V : List ByteArray) (hV : V.length = (varsOf p).size) (hpos : ∀ v ∈ V, 1 ≤ v.size) : ∀ (n i : Nat) (vs : List ByteArray), p.size = i + n → vs.length = (varsTo p i).size → (∃ t, V = vs ++ t) →
    V ∈ fits (bl (varsOf p)) ((bl p).drop i) (fillL (bl (varsOf p)) ((bl p).drop i) V) vs
  | 0, i, vs, hi, hl, hpre => by
    obtain rfl : i = p.size := by omega
    have hd : (bl p).drop p.size = [] := List.drop_of_length_le (by rw [bl_len]; exact Nat.le_refl _)
    rw [hd]
    obtain ⟨t, ht⟩ := hpre
    have : t = [] := by
      have := congrArg List.length ht
      rw [List.length_append, hV, hl] at this
      exact List.eq_nil_of_length_eq_zero (by show t.length = 0; unfold varsOf at this; omega)
    subst this
    rw [List.append_nil] at ht
    show V ∈ fits _ [] [] vs
    rw [fits_nil_yes, ht]; exact List.mem_singleton_self _
  | n + 1, i, vs, hi, hl, hpre => by
    have hip : i < p.size := by omega
    rw [drop_at hip]
    obtain ⟨t, ht⟩ := hpre
    have hmono := varsTo_mono p (show i + 1 ≤ p.size from hip)
    cases hvar : isVarB p[i]
    · obtain ⟨_, k2⟩ := let_case hip hvar
      have he : fillL (bl (varsOf p)) (p[i] :: (bl p).drop (i + 1)) V = p[i] :: fillL (bl (varsOf p)) ((bl p).drop (i + 1)) V := by
        show (if isVarB p[i] = true then _ else [p[i]]) ++ _ = _
        rw [hvar]; rfl
      rw [he, fits_let hvar rfl]
      exact fits_complete p V hV hpos n (i + 1) vs (by omega) (by rw [k2]; exact hl) ⟨t, ht⟩
    · have he : fillL (bl (varsOf p)) (p[i] :: (bl p).drop (i + 1)) V = bl (nthS V (npos (bl (varsOf p)) p[i])) ++ fillL (bl (varsOf p)) ((bl p).drop (i + 1)) V := by
        show (if isVarB p[i] = true then bl _ else _) ++ _ = _
        rw [hvar]; rfl
      rw [he]
      rcases var_cases hip hvar with ⟨k1, k2, k3⟩ | ⟨k1, k2⟩
      · obtain ⟨kn, hkn⟩ := Int.eq_ofNat_of_zero_le k1
        have hnp : npos (bl (varsOf p)) p[i] = kn := by unfold npos; rw [hkn]; simp
        have hkv : kn < vs.length := by rw [hl]; omega
        have hsame : nthS V (npos (bl (varsOf p)) p[i]) = nthS vs (npos (bl (varsOf p)) p[i]) := by
          rw [ht]
          unfold nthS
          rw [List.getD_eq_getElem?_getD, List.getElem?_append_left (by rw [hnp]; exact hkv), ← List.getD_eq_getElem?_getD]
        rw [hsame, fits_old hvar (by rw [hnp]; exact hkv) (List.isPrefixOf_iff_prefix.2 ⟨_, rfl⟩), ← bl_len, List.drop_left]
        exact fits_complete p V hV hpos n (i + 1) vs (by omega) (by rw [k3]; exact hl) ⟨t, ht⟩
      · have hnp : npos (bl (varsOf p)) p[i] = vs.length := by unfold npos; rw [k1, hl]; simp
        have hlt : vs.length < V.length := by rw [hV]; unfold varsOf; omega
        have hm := hpos (nthS V vs.length) (by rw [nthS_lt hlt]; exact List.getElem_mem _)
        rw [hnp, fits_new hvar (by rw [hnp]; omega)]
        unfold fitsTo
        rw [List.mem_flatMap]
        refine ⟨(nthS V vs.length).size - 1, List.mem_range.2 (by rw [List.length_append, bl_len]; omega), ?_⟩
        rw [show (nthS V vs.length).size - 1 + 1 = (nthS V vs.length).size by omega]
        have e1 : (bl (nthS V vs.length) ++ fillL (bl (varsOf p)) ((bl p).drop (i + 1)) V).drop (nthS V vs.length).size = fillL (bl (varsOf p)) ((bl p).drop (i + 1)) V := by rw [← bl_len, List.drop_left]
        have e2 : (bl (nthS V vs.length) ++ fillL (bl (varsOf p)) ((bl p).drop (i + 1)) V).take (nthS V vs.length).size = bl (nthS V vs.length) := by rw [← bl_len, List.take_left]
        rw [e1, e2, tx_bl]
        refine fits_complete p V hV hpos n (i + 1) (vs ++ [nthS V vs.length]) (by omega) (by rw [k2, List.length_append, hl]; rfl) ⟨t.drop 1, ?_⟩
        have hn : t = nthS V vs.length :: t.drop 1 := by
          cases t with
          | nil => rw [List.append_nil] at ht; rw [ht] at hlt; omega
          | cons a t =>
            have : nthS V vs.length = a := by
              rw [ht]; unfold nthS
              rw [List.getD_eq_getElem?_getD, List.getElem?_append_right (Nat.le_refl _)]
              simp
            rw [this]; rfl
        rw [List.append_assoc, List.singleton_append, ← hn]
        exact ht
/-- the whole word -/
theorem extract_all (s : ByteArray) : s.extract 0 s.size = s := by
  rw [← tx_bl (s.extract 0 s.size), bl_cut', tx_bl]
where bl_cut' : bl (s.extract 0 s.size) = bl s := by
        show (s.extract 0 s.size).data.toList = _
        simp [bl]
theorem fitL_complete {p w : ByteArray} {V : List ByteArray} (hok : fillOk p V = true) (hw : w = fillTo p V p.size) : V ∈ fitL p w := by
  simp only [fillOk, Bool.and_eq_true, decide_eq_true_eq, Bool.not_eq_true'] at hok
  have hg : ∀ v ∈ V, 1 ≤ v.size := fun v hv => by
    have := List.any_eq_false.1 hok.2.2 v hv
    simp [badW] at this
    have h1 := this.1
    rcases Nat.eq_zero_or_pos v.size with h0 | h0
    · exact absurd (by
        have : v.toList = [] := by rw [ByteArray.toList_eq]; exact List.eq_nil_of_length_eq_zero (by simpa using h0)
        exact this) h1
    · exact h0
  have := fits_complete p V hok.2.1 hg p.size 0 [] (by omega) rfl ⟨V, rfl⟩
  unfold fitL
  rw [hw, fillTo_full]
  rwa [List.drop_zero] at this
theorem goodV_not {v : ByteArray} (h : goodV v) : badW v = false := by
  obtain ⟨h1, h2, h3⟩ := h
  have h4 : wordOkB 4 v = true := by
    rw [wordOk_all (by decide) h2]
    unfold allB
    rw [List.all_eq_true]; exact h3
  have h5 : v.toList.isEmpty = false := by
    rw [ByteArray.toList_eq]
    cases h : v.data.toList with
    | nil =>
      have : v.data.toList.length = 0 := by rw [h]; rfl
      rw [Array.length_toList, ByteArray.size_data] at this; omega
    | cons => rfl
  simp [badW, h4, h5]
theorem fitL_sound {p w : ByteArray} {x : List ByteArray} (hok : fitOkB p w = true) (hx : x ∈ fitL p w) : fillOk p x = true ∧ fillF p x = w := by
  obtain ⟨h1, h2, hp8, hs16⟩ := fitOk_out hok
  have hl : ∀ c ∈ bl w, letB 4 c = true := by
    rw [wordOk_all (by decide) hs16] at h2
    exact List.all_eq_true.1 h2
  unfold fitL at hx
  have hx' : x ∈ fits (bl (varsOf p)) ((bl p).drop 0) (bl w) [] := by rw [List.drop_zero]; exact hx
  obtain ⟨e1, e2, e3⟩ := fits_sound p p.size 0 (bl w) [] x (by omega) rfl (by rw [bl_len]; exact hs16) hl (fun v hv => by cases hv) hx'
  have hf : fillOk p x = true := fillOk_yes h1 e2 (by
    rw [List.any_eq_false]
    intro v hv
    simp [goodV_not (e3 v hv)])
  refine ⟨hf, ?_⟩
  rw [fillF_yes hf, ← tx_bl (fillTo p x p.size), fillTo_full, ← tx_bl w, e1, List.drop_zero]
/-- what a part that fits tells -/
theorem outF_some {p s : ByteArray} {i k : Nat} (h : outF p s = some (i, k)) : i ≤ k ∧ k ≤ s.size ∧ fitB p s i k = true := by
  unfold outF at h
  obtain ⟨a, ha, h⟩ := List.exists_of_findSome?_eq_some h
  cases hf : inF p s a with
  | none => rw [hf] at h; cases h
  | some b =>
    rw [hf] at h
    simp only [Option.map_some, Option.some.injEq, Prod.mk.injEq] at h
    obtain ⟨rfl, rfl⟩ := h
    unfold inF at hf
    have h1 := List.find?_some hf
    have h2 := List.mem_of_find?_eq_some hf
    simp only [Bool.and_eq_true, decide_eq_true_eq] at h1
    have := List.mem_range.1 h2
    exact ⟨h1.1, by omega, h1.2⟩
theorem outF_isSome {p s : ByteArray} {i k : Nat} (hi : i ≤ k) (hk : k ≤ s.size) (h : fitB p s i k = true) : (outF p s).isSome = true := by
  cases ho : outF p s with
  | some x => rfl
  | none =>
    unfold outF at ho
    rw [List.findSome?_eq_none_iff] at ho
    have h1 := ho i (List.mem_range.2 (by omega))
    cases hf : inF p s i with
    | some x => rw [hf] at h1; cases h1
    | none =>
      unfold inF at hf
      rw [List.find?_eq_none] at hf
      have := hf k (List.mem_range.2 (by omega))
      simp [hi, h] at this
theorem fitN_pos {p s : ByteArray} {x : List ByteArray} (h : x ∈ fitL p s) : 0 < fitN p s := List.length_pos_of_mem h
/-- three variables at most -/
theorem nodup_one {c : UInt8} : ∀ {l : List UInt8}, l.Nodup → (l.filter (· == c)).length ≤ 1
  | [], _ => Nat.zero_le _
  | a :: l, h => by
    rw [List.nodup_cons] at h
    rw [List.filter_cons]
    by_cases e : a = c
    · have : l.filter (· == c) = [] := by
        rw [List.filter_eq_nil_iff]
        intro x hx
        have : ¬ x = c := fun e2 => h.1 (by rw [e, ← e2]; exact hx)
        simpa using this
      rw [if_pos (by simpa using e), this]; exact Nat.le_refl _
    · rw [if_neg (by simpa using e)]; exact nodup_one h.2
theorem len3 : ∀ {l : List UInt8}, (∀ c ∈ l, isVarB c = true) → l.length = (l.filter (· == 88)).length + ((l.filter (· == 89)).length + (l.filter (· == 90)).length)
  | [], _ => rfl
  | a :: l, h => by
    have ih := len3 (l := l) (fun c hc => h c (List.mem_cons_of_mem _ hc))
    have hv := h a List.mem_cons_self
    simp [isVarB] at hv
    have h2 : a.toNat = 88 ∨ a.toNat = 89 ∨ a.toNat = 90 := by omega
    rcases h2 with e | e | e
    · obtain rfl : a = 88 := UInt8.toNat_inj.1 e
      simp only [List.filter_cons, List.length_cons, ih]
      simp; omega
    · obtain rfl : a = 89 := UInt8.toNat_inj.1 e
      simp only [List.filter_cons, List.length_cons, ih]
      simp; omega
    · obtain rfl : a = 90 := UInt8.toNat_inj.1 e
      simp only [List.filter_cons, List.length_cons, ih]
      simp; omega
theorem nodup3 {l : List UInt8} (hn : l.Nodup) (hv : ∀ c ∈ l, isVarB c = true) : l.length ≤ 3 := by
  have h1 := nodup_one (c := 88) hn
  have h2 := nodup_one (c := 89) hn
  have h3 := nodup_one (c := 90) hn
  have := len3 hv
  omega
theorem varsTo_nodup (s : ByteArray) : ∀ j, (varsTo s j).data.toList.Nodup
  | 0 => List.nodup_nil
  | j + 1 => by
    simp only [varsTo, addVar]
    split
    · rename_i hc
      simp only [Bool.and_eq_true, Bool.not_eq_true'] at hc
      have hn : ¬ s.data.toList.getD j 0 ∈ (varsTo s j).data.toList := fun h => by
        rw [contains_iff.2 h] at hc; exact absurd hc.2 (by simp)
      have e : (varsTo s j ++ ⟨#[s.data.toList.getD j 0]⟩).data.toList = (varsTo s j).data.toList ++ [s.data.toList.getD j 0] := by simp
      rw [e, List.nodup_append]
      refine ⟨varsTo_nodup s j, by simp, fun a ha b hb => ?_⟩
      rw [List.mem_singleton.1 hb]
      exact fun e2 => hn (by rw [← e2]; exact ha)
    · exact varsTo_nodup s j
theorem varsOf_three (p : ByteArray) : (varsOf p).size ≤ 3 := by
  have := nodup3 (varsTo_nodup p p.size) (varsTo_var p p.size)
  rwa [bl_size] at this
end Go.Proofs.Ytnnboeeogbgmdaa
