/-
  Powers, overlaps and patterns: plain data.
-/
import Derived.Test.YtnnboeeogbgmdaaEnds
import Derived.Test.YtnnboeeogbgmdaaPatL
namespace Go.Proofs.Ytnnboeeogbgmdaa
open Go.RowKit
set_option linter.unusedVariables false
theorem gb_some {l : List UInt8} {j : Nat} (h : j < l.length) : l[j]? = some (gb l j) := by
  unfold gb; rw [List.getD_eq_getElem?_getD, List.getElem?_eq_getElem h]; rfl
theorem per_drop {P : List UInt8} {h : Nat} (hp : perB P 0 P.length h) (hh : h ≤ P.length) : P.drop h = P.take (P.length - h) := by
  refine List.ext_getElem? fun i => ?_
  rw [List.getElem?_drop, List.getElem?_take]
  by_cases hi : i < P.length - h
  · rw [if_pos hi, gb_some (by omega), gb_some (by omega), hp (h + i) (by omega) (by omega), show h + i - h = i by omega]
  · rw [if_neg hi, List.getElem?_eq_none (by omega)]
theorem per_of_drop {P : List UInt8} {h : Nat} (hh : h ≤ P.length) (hd : P.drop h = P.take (P.length - h)) : perB P 0 P.length h := by
  intro j a b
  have := congrArg (fun l => l[j - h]?) hd
  simp only [List.getElem?_drop, List.getElem?_take] at this
  rw [if_pos (by omega), show h + (j - h) = j by omega, gb_some b, gb_some (by omega)] at this
  exact Option.some.inj this
theorem per_of {P X Q R : List UInt8} (h1 : P = X ++ Q) (h2 : P = Q ++ R) : perB P 0 P.length X.length := by
  have e1 : P.length = X.length + Q.length := by rw [h1, List.length_append]
  refine per_of_drop (by omega) ?_
  have a : P.drop X.length = Q := by rw [h1, List.drop_left]
  have b : P.take (P.length - X.length) = Q := by rw [show P.length - X.length = Q.length by omega, h2, List.take_left]
  rw [a, b]
theorem repAt_per {len : Nat → Nat} {l : List UInt8} {e h : Nat} (hL : len h ≤ e) (he : e ≤ l.length) (hh : h ≤ len h) : repAt len l e h = true ↔ perB l (e - len h) e h := by
  have hlen : ((l.take e).drop (e - len h)).length = len h := by rw [List.length_drop, List.length_take]; omega
  have hgb : ∀ j, j < len h → gb ((l.take e).drop (e - len h)) j = gb l (e - len h + j) := fun j hj => by
    unfold gb
    rw [List.getD_eq_getElem?_getD, List.getElem?_drop, List.getElem?_take, if_pos (by omega), List.getD_eq_getElem?_getD]
  have key : repAt len l e h = true ↔ ((l.take e).drop (e - len h)).drop h = ((l.take e).drop (e - len h)).take (len h - h) := by unfold repAt; exact beq_iff_eq
  rw [key]
  generalize hP : (l.take e).drop (e - len h) = P at *
  rw [← hlen]
  constructor
  · intro hd j a b
    have := per_of_drop (by omega) hd (j - (e - len h)) (by omega) (by omega)
    rw [hgb _ (by omega), hgb _ (by omega)] at this
    rw [show e - len h + (j - (e - len h)) = j by omega, show e - len h + (j - (e - len h) - h) = j - h by omega] at this
    exact this
  · intro hp
    refine per_drop (fun j a b => ?_) (by omega)
    rw [hgb _ (by omega), hgb _ (by omega), hp (e - len h + j) (by omega) (by omega), show e - len h + j - h = e - len h + (j - h) by omega]
/-- a repetition -/
def hasRep (len : Nat → Nat) (l : List UInt8) : Prop := ∃ h e, 1 ≤ h ∧ e ≤ l.length ∧ len h ≤ e ∧ perB l (e - len h) e h
theorem findSome_range {α : Type} {f : Nat → Option α} {b : α} : ∀ n, (List.range n).findSome? f = some b → ∃ i, i < n ∧ f i = some b ∧ ∀ j, j < i → f j = none
  | 0, h => by cases h
  | n + 1, h => by
    rw [List.range_succ, List.findSome?_append] at h
    cases hr : (List.range n).findSome? f with
    | some x =>
      rw [hr] at h
      obtain ⟨i, a, c, d⟩ := findSome_range n hr
      have : x = b := by simpa using h
      exact ⟨i, by omega, by rw [← this]; exact c, d⟩
    | none =>
      rw [hr] at h
      rw [List.findSome?_eq_none_iff] at hr
      exact ⟨n, by omega, by simpa using h, fun j hj => hr j (List.mem_range.2 hj)⟩
theorem repEnd_out {len : Nat → Nat} {l : List UInt8} {e h : Nat} (hr : repEnd len l e = some h) : 1 ≤ h ∧ h ≤ e ∧ len h ≤ e ∧ repAt len l e h = true := by
  unfold repEnd at hr
  obtain ⟨i, a, b, _⟩ := findSome_range e hr
  split at b
  · rename_i hc
    have := Option.some.inj b
    subst this
    exact ⟨by omega, by omega, hc.1, hc.2⟩
  · cases b
theorem repEnd_not {len : Nat → Nat} {l : List UInt8} {e h : Nat} (hr : repEnd len l e = none) (h1 : 1 ≤ h) (h2 : h ≤ e) (h3 : len h ≤ e) : repAt len l e h = false := by
  unfold repEnd at hr
  rw [List.findSome?_eq_none_iff] at hr
  have := hr (h - 1) (List.mem_range.2 (by omega))
  rw [show h - 1 + 1 = h by omega] at this
  cases hq : repAt len l e h with
  | false => rfl
  | true => rw [hq] at this; simp [h3] at this
theorem repFst_out {len : Nat → Nat} {l : List UInt8} (hge : ∀ h, h ≤ len h) {e h : Nat} (hr : repFst len l = some (e, h)) :
    1 ≤ e ∧ 1 ≤ h ∧ e ≤ l.length ∧ len h ≤ e ∧ perB l (e - len h) e h ∧ ∀ e' h', e' < e → 1 ≤ h' → len h' ≤ e' → ¬ perB l (e' - len h') e' h' := by
  unfold repFst at hr
  obtain ⟨i, a, b, c⟩ := findSome_range _ hr
  cases he : repEnd len l (i + 1) with
  | none => rw [he] at b; cases b
  | some x =>
    rw [he] at b
    simp only [Option.map_some, Option.some.injEq, Prod.mk.injEq] at b
    obtain ⟨rfl, rfl⟩ := b
    obtain ⟨h1, h2, h3, h4⟩ := repEnd_out he
    refine ⟨by omega, h1, by omega, h3, (repAt_per h3 (by omega) (hge _)).1 h4, fun e' h' k1 k2 k3 k4 => ?_⟩
    have hh := hge h'
    have := c (e' - 1) (by omega)
    rw [show e' - 1 + 1 = e' by omega] at this
    cases hq : repEnd len l e' with
    | some y => rw [hq] at this; cases this
    | none =>
      have h5 := repEnd_not hq k2 (by omega) k3
      rw [(repAt_per k3 (by omega) hh).2 k4] at h5
      cases h5
theorem repFst_no {len : Nat → Nat} {l : List UInt8} (hge : ∀ h, h ≤ len h) (hr : repFst len l = none) : ¬ hasRep len l := by
  rintro ⟨h, e, h1, h2, h3, h4⟩
  unfold repFst at hr
  rw [List.findSome?_eq_none_iff] at hr
  have hh := hge h
  have := hr (e - 1) (List.mem_range.2 (by omega))
  rw [show e - 1 + 1 = e by omega] at this
  cases hq : repEnd len l e with
  | some y => rw [hq] at this; cases this
  | none =>
    have h5 := repEnd_not hq h1 (by omega) h3
    rw [(repAt_per h3 h2 hh).2 h4] at h5
    cases h5
theorem repE_iff {len : Nat → Nat} {l : List UInt8} (hge : ∀ h, h ≤ len h) : repE (repFst len l) = 0 ↔ ¬ hasRep len l := by
  cases hr : repFst len l with
  | none => exact ⟨fun _ => repFst_no hge hr, fun _ => rfl⟩
  | some x =>
    obtain ⟨e, h⟩ := x
    obtain ⟨a, b, c, d, p, _⟩ := repFst_out hge hr
    constructor
    · intro h0
      have : e = 0 := h0
      omega
    · intro hn; exact absurd ⟨h, e, b, c, d, p⟩ hn
theorem powR_ok {s : ByteArray} (n : Nat) (h : longOkB 4 s = true) : powR n s = repFst (powLen n) (bl s) := by unfold powR; rw [h]; rfl
theorem ovR_ok {s : ByteArray} (h : longOkB 4 s = true) : ovR s = repFst ovLen (bl s) := by unfold ovR; rw [h]; rfl
theorem hasRep_pow {n : Nat} {l : List UInt8} : hasRep (powLen n) l ↔ hasPow n l := Iff.rfl
def hasOv (l : List UInt8) : Prop := hasRep ovLen l
theorem ovLen_ge (h : Nat) : h ≤ ovLen h := by unfold ovLen; omega
theorem noRep_pow {n : Nat} {s : ByteArray} (hn : 1 ≤ n) (h : longOkB 4 s = true) : noRep (powR n s) s = true ↔ ¬ hasPow n (bl s) := by
  rw [noRep_yes h, decide_eq_true_eq, powR_ok n h, repE_iff (powLen_ge hn)]
  exact Iff.rfl
theorem noRep_ov {s : ByteArray} (h : longOkB 4 s = true) : noRep (ovR s) s = true ↔ ¬ hasOv (bl s) := by
  rw [noRep_yes h, decide_eq_true_eq, ovR_ok h, repE_iff ovLen_ge]
  exact Iff.rfl
theorem perB_less {l : List UInt8} {a a' b h : Nat} (hp : perB l a b h) (ha : a ≤ a') : perB l a' b h := fun j x y => hp j (by omega) y
theorem ov_pow {l : List UInt8} (h : hasOv l) : hasPow 2 l := by
  obtain ⟨p, e, h1, h2, h3, h4⟩ := h
  unfold ovLen at h3 h4
  exact ⟨p, e, h1, h2, by omega, perB_less h4 (by omega)⟩
theorem pow_ov {l : List UInt8} (h : hasPow 3 l) : hasOv l := by
  obtain ⟨p, e, h1, h2, h3, h4⟩ := h
  exact ⟨p, e, h1, h2, by unfold ovLen; omega, perB_less h4 (by unfold ovLen; omega)⟩
theorem longOk_let {s : ByteArray} (h : longOkB 4 s = true) : allB (letB 4) s = true := by
  simp [longOkB] at h; exact h.2.2
theorem longOk_mk {s : ByteArray} (h : s.size ≤ 400) (h2 : allB (letB 4) s = true) : longOkB 4 s = true := by
  simp [longOkB, h, h2]; decide
theorem longOk_cut {s : ByteArray} (h : longOkB 4 s = true) (i k : Nat) : longOkB 4 (s.extract i k) = true :=
  longOk_mk (by rw [ByteArray.size_extract]; have := longOk_size h; omega) (allB_cut (longOk_let h) i k)
/-- what a part is that fits -/
theorem fitB_iff {p v : ByteArray} {i k : Nat} (hp : patternOkB p = true) (hv : longOkB 4 v = true) (hs : v.size ≤ 16) :
    fitB p v i k = true ↔ ∃ V : List ByteArray, V.length = (varsOf p).size ∧ (∀ x ∈ V, 1 ≤ x.size) ∧ fillL (bl (varsOf p)) (bl p) V = bl (v.extract i k) := by
  have hsz : (v.extract i k).size ≤ 16 := by rw [ByteArray.size_extract]; omega
  have hl : ∀ c ∈ bl (v.extract i k), letB 4 c = true := by
    have := allB_cut (longOk_let hv) i k
    unfold allB at this
    exact List.all_eq_true.1 this
  have key : fitB p v i k = true ↔ 0 < (fitL p (v.extract i k)).length := by
    unfold fitB; exact decide_eq_true_iff
  rw [key]
  constructor
  · intro h
    obtain ⟨V, hV⟩ := List.exists_mem_of_length_pos h
    unfold fitL at hV
    have hx' : V ∈ fits (bl (varsOf p)) ((bl p).drop 0) (bl (v.extract i k)) [] := by rw [List.drop_zero]; exact hV
    obtain ⟨e1, e2, e3⟩ := fits_sound p p.size 0 (bl (v.extract i k)) [] V (by omega) rfl (by rw [bl_len]; exact hsz) hl (fun v hv => by cases hv) hx'
    exact ⟨V, e2, fun x hx => (e3 x hx).1, by rw [e1, List.drop_zero]⟩
  · rintro ⟨V, a, b, c⟩
    have := fits_complete p V a b p.size 0 [] (by omega) rfl ⟨V, rfl⟩
    rw [List.drop_zero, c] at this
    exact List.length_pos_of_mem this
def hasFit (p v : ByteArray) : Prop := ∃ i k, i ≤ k ∧ k ≤ v.size ∧ fitB p v i k = true
theorem avoid_iff {p v : ByteArray} (hp : patternOkB p = true) (hv : longOkB 4 v = true) (hs : v.size ≤ 16) : avoidB p v = true ↔ ¬ hasFit p v := by
  have hf : fitOkB p v = true := fitOk_yes hp (by rw [wordOk_all (by decide) hs]; exact longOk_let hv)
  rw [avoidB_yes hf]
  cases ho : outF p v with
  | none =>
    refine ⟨fun _ => ?_, fun _ => rfl⟩
    rintro ⟨i, k, a, b, c⟩
    have := outF_isSome a b c
    rw [ho] at this; cases this
  | some x =>
    obtain ⟨i, k⟩ := x
    obtain ⟨a, b, c⟩ := outF_some ho
    exact ⟨fun h => (by cases h), fun h => absurd ⟨i, k, a, b, c⟩ h⟩
def pXX : ByteArray := ⟨#[88, 88]⟩
def pXXX : ByteArray := ⟨#[88, 88, 88]⟩
def pXY : ByteArray := ⟨#[88, 89, 88, 89, 88]⟩
theorem one_of {V : List ByteArray} (h : V.length = 1) : ∃ x, V = [x] := by
  match V, h with
  | [x], _ => exact ⟨x, rfl⟩
theorem two_of {V : List ByteArray} (h : V.length = 2) : ∃ x y, V = [x, y] := by
  match V, h with
  | [x, y], _ => exact ⟨x, y, rfl⟩
theorem fillXX (x : ByteArray) : fillL (bl (varsOf pXX)) (bl pXX) [x] = bl x ++ bl x := by
  have e : bl (varsOf pXX) = [88] := by decide
  have n : npos [88] 88 = 0 := by decide
  rw [e]
  show (if isVarB 88 = true then bl (nthS [x] (npos [88] 88)) else _) ++ ((if isVarB 88 = true then bl (nthS [x] (npos [88] 88)) else _) ++ []) = _
  rw [n, if_pos (by decide), List.append_nil]; rfl
theorem fillXXX (x : ByteArray) : fillL (bl (varsOf pXXX)) (bl pXXX) [x] = bl x ++ (bl x ++ bl x) := by
  have e : bl (varsOf pXXX) = [88] := by decide
  have n : npos [88] 88 = 0 := by decide
  rw [e]
  show (if isVarB 88 = true then bl (nthS [x] (npos [88] 88)) else _) ++ ((if isVarB 88 = true then bl (nthS [x] (npos [88] 88)) else _) ++ ((if isVarB 88 = true then bl (nthS [x] (npos [88] 88)) else _) ++ [])) = _
  rw [n, if_pos (by decide), List.append_nil]; rfl
theorem fillXY (x y : ByteArray) : fillL (bl (varsOf pXY)) (bl pXY) [x, y] = bl x ++ (bl y ++ (bl x ++ (bl y ++ bl x))) := by
  have e : bl (varsOf pXY) = [88, 89] := by decide
  have n : npos [88, 89] 88 = 0 := by decide
  have n2 : npos [88, 89] 89 = 1 := by decide
  rw [e]
  show (if isVarB 88 = true then bl (nthS [x, y] (npos [88, 89] 88)) else _) ++ ((if isVarB 89 = true then bl (nthS [x, y] (npos [88, 89] 89)) else _) ++ ((if isVarB 88 = true then bl (nthS [x, y] (npos [88, 89] 88)) else _) ++ ((if isVarB 89 = true then bl (nthS [x, y] (npos [88, 89] 89)) else _) ++ ((if isVarB 88 = true then bl (nthS [x, y] (npos [88, 89] 88)) else _) ++ [])))) = _
  rw [n, n2, if_pos (by decide), if_pos (by decide), List.append_nil]; rfl
theorem len_cut {v : ByteArray} {i k : Nat} (hk : k ≤ v.size) : (bl (v.extract i k)).length = k - i := by rw [bl_len, ByteArray.size_extract]; omega
theorem fitXX {v : ByteArray} (hv : longOkB 4 v = true) (hs : v.size ≤ 16) : hasFit pXX v ↔ hasPow 2 (bl v) := by
  constructor
  · rintro ⟨i, k, a, b, c⟩
    obtain ⟨V, h1, h2, h3⟩ := (fitB_iff (by decide) hv hs).1 c
    obtain ⟨x, rfl⟩ := one_of h1
    have hx := h2 x (by simp)
    rw [fillXX] at h3
    have hp := per_of h3.symm h3.symm
    rw [len_cut b, bl_len] at hp
    have hl := congrArg List.length h3
    rw [len_cut b, List.length_append, bl_len] at hl
    have := (perB_cut v i k x.size b a).1 hp
    exact ⟨x.size, k, hx, by rw [bl_len]; exact b, by omega, by rw [show k - 2 * x.size = i by omega]; exact this⟩
  · rintro ⟨h, e, h1, h2, h3, h4⟩
    rw [bl_len] at h2
    refine ⟨e - 2 * h, e, by omega, h2, (fitB_iff (by decide) hv hs).2 ?_⟩
    have hp := (perB_cut v (e - 2 * h) e h h2 (by omega)).2 h4
    have hl : (bl (v.extract (e - 2 * h) e)).length = 2 * h := by rw [len_cut h2]; omega
    generalize bl (v.extract (e - 2 * h) e) = P at *
    rw [show e - (e - 2 * h) = P.length by omega] at hp
    have hd := per_drop hp (by omega)
    refine ⟨[tx (P.take h)], rfl, fun x hx => ?_, ?_⟩
    · rw [List.mem_singleton.1 hx, tx_size, List.length_take]; omega
    · rw [fillXX, bl_tx]
      rw [show P.length - h = h by omega] at hd
      have := List.take_append_drop h P
      rw [hd] at this; exact this
theorem fitXXX {v : ByteArray} (hv : longOkB 4 v = true) (hs : v.size ≤ 16) : hasFit pXXX v ↔ hasPow 3 (bl v) := by
  constructor
  · rintro ⟨i, k, a, b, c⟩
    obtain ⟨V, h1, h2, h3⟩ := (fitB_iff (by decide) hv hs).1 c
    obtain ⟨x, rfl⟩ := one_of h1
    have hx := h2 x (by simp)
    rw [fillXXX] at h3
    have hp := per_of (R := bl x) h3.symm (by rw [← h3, List.append_assoc])
    rw [len_cut b, bl_len] at hp
    have hl := congrArg List.length h3
    rw [len_cut b, List.length_append, List.length_append, bl_len] at hl
    have := (perB_cut v i k x.size b a).1 hp
    exact ⟨x.size, k, hx, by rw [bl_len]; exact b, by omega, by rw [show k - 3 * x.size = i by omega]; exact this⟩
  · rintro ⟨h, e, h1, h2, h3, h4⟩
    rw [bl_len] at h2
    refine ⟨e - 3 * h, e, by omega, h2, (fitB_iff (by decide) hv hs).2 ?_⟩
    have hp := (perB_cut v (e - 3 * h) e h h2 (by omega)).2 h4
    have hl : (bl (v.extract (e - 3 * h) e)).length = 3 * h := by rw [len_cut h2]; omega
    generalize bl (v.extract (e - 3 * h) e) = P at *
    rw [show e - (e - 3 * h) = P.length by omega] at hp
    have hd := per_drop hp (by omega)
    rw [show P.length - h = 2 * h by omega] at hd
    refine ⟨[tx (P.take h)], rfl, fun x hx => ?_, ?_⟩
    · rw [List.mem_singleton.1 hx, tx_size, List.length_take]; omega
    · rw [fillXXX, bl_tx]
      have e1 : P.take h ++ P.drop h = P := List.take_append_drop h P
      have e2 : (P.drop h).take h = P.take h := by rw [hd, List.take_take, Nat.min_eq_left (by omega)]
      have e3 : (P.drop h).drop h = P.take h := by
        rw [hd, List.drop_take, show 2 * h - h = h by omega]; exact e2
      have e4 : P.drop h = P.take h ++ P.take h := by
        have := List.take_append_drop h (P.drop h)
        rw [e2, e3] at this; exact this.symm
      rw [← e4]; exact e1
theorem fitOv {v : ByteArray} (hv : longOkB 4 v = true) (hs : v.size ≤ 16) : (hasFit pXY v ∨ hasFit pXXX v) ↔ hasOv (bl v) := by
  constructor
  · rintro (⟨i, k, a, b, c⟩ | h)
    · obtain ⟨V, h1, h2, h3⟩ := (fitB_iff (by decide) hv hs).1 c
      obtain ⟨x, y, rfl⟩ := two_of h1
      have hx := h2 x (by simp)
      have hy := h2 y (by simp)
      rw [fillXY] at h3
      have hp := per_of (P := bl (v.extract i k)) (X := bl x ++ bl y) (Q := bl x ++ (bl y ++ bl x)) (R := bl y ++ bl x) (by rw [← h3]; simp) (by rw [← h3]; simp)
      rw [len_cut b, List.length_append, bl_len, bl_len] at hp
      have hl := congrArg List.length h3
      rw [len_cut b] at hl
      simp only [List.length_append, bl_len] at hl
      have := (perB_cut v i k _ b a).1 hp
      exact ⟨x.size + y.size, k, by omega, by rw [bl_len]; exact b, by unfold ovLen; omega, perB_less this (by unfold ovLen; omega)⟩
    · exact pow_ov ((fitXXX hv hs).1 h)
  · rintro ⟨h, e, h1, h2, h3, h4⟩
    unfold ovLen at h3 h4
    by_cases hh : h = 1
    · subst hh
      exact .inr ((fitXXX hv hs).2 ⟨1, e, h1, h2, h3, h4⟩)
    · left
      rw [bl_len] at h2
      refine ⟨e - (2 * h + 1), e, by omega, h2, (fitB_iff (by decide) hv hs).2 ?_⟩
      have hp := (perB_cut v (e - (2 * h + 1)) e h h2 (by omega)).2 h4
      have hl : (bl (v.extract (e - (2 * h + 1)) e)).length = 2 * h + 1 := by rw [len_cut h2]; omega
      generalize bl (v.extract (e - (2 * h + 1)) e) = P at *
      rw [show e - (e - (2 * h + 1)) = P.length by omega] at hp
      have hd := per_drop hp (by omega)
      rw [show P.length - h = h + 1 by omega] at hd
      refine ⟨[tx (P.take 1), tx ((P.drop 1).take (h - 1))], rfl, fun x hx => ?_, ?_⟩
      · rcases List.mem_cons.1 hx with rfl | hx
        · rw [tx_size, List.length_take]; omega
        · rw [List.mem_singleton.1 hx, tx_size, List.length_take, List.length_drop]; omega
      · rw [fillXY, bl_tx, bl_tx]
        have e1 : P.take h ++ P.drop h = P := List.take_append_drop h P
        have e2 : P.take h = P.take 1 ++ (P.drop 1).take (h - 1) := by
          rw [← List.take_add, show 1 + (h - 1) = h by omega]
        have e3 : P.take (h + 1) = P.take h ++ P.take 1 := by
          rw [List.take_add, hd, List.take_take, Nat.min_eq_left (by omega)]
        have e5 : P.take h ++ (P.take h ++ P.take 1) = P := by rw [← e3, ← hd]; exact e1
        rw [e2] at e5
        simpa using e5
end Go.Proofs.Ytnnboeeogbgmdaa
