/-
  What 'FnPatterns' asks, in plain data.
-/
import Derived.Test.YtnnboeeogbgmdaaPatPl
import Derived.Test.YtnnboeeogbgmdaaFitsM
import Derived.Test.YtnnboeeogbgmdaaDraw
namespace Go.Proofs.Ytnnboeeogbgmdaa
open Go.RowKit
set_option linter.unusedVariables false
theorem fillTo_letters {p : ByteArray} {V : List ByteArray} (hp : patternOkB p = true) (hV : ∀ v ∈ V, goodV v) : ∀ j, j ≤ p.size → allB (letB 4) (fillTo p V j) = true
  | 0, _ => rfl
  | j + 1, h => by
    have hj : j < p.size := h
    have ih := fillTo_letters hp hV j (by omega)
    have hpj : patB p[j] = true := by
      simp only [patternOkB, Bool.and_eq_true] at hp
      have h1 := hp.1
      unfold allB at h1
      rw [List.all_eq_true] at h1
      exact h1 _ (by rw [ByteArray.getElem_eq_getElem_data]; simp)
    cases hv : isVarB p[j]
    · rw [fillTo_let hj hv, allB_app, ih]
      rw [patB, hv, Bool.false_or] at hpj
      show (true && ([p[j]].all (letB 4))) = true
      simp [hpj]
    · rw [fillTo_var hj hv, allB_app, ih]
      by_cases hl : vpos p j < V.length
      · have := (hV (nthS V (vpos p j)) (by rw [nthS_lt hl]; exact List.getElem_mem _)).2.2
        show (true && ((nthS V (vpos p j)).data.toList.all (letB 4))) = true
        rw [Bool.true_and, List.all_eq_true]
        exact this
      · have : nthS V (vpos p j) = ⟨#[]⟩ := by
          unfold nthS; rw [List.getD_eq_getElem?_getD, List.getElem?_eq_none (by omega)]; rfl
        rw [this]; rfl
theorem fillOk_good {p : ByteArray} {V : List ByteArray} (hp : patternOkB p = true) (hl : V.length = (varsOf p).size) (hV : ∀ v ∈ V, goodV v) : fillOk p V = true :=
  fillOk_yes hp hl (by rw [List.any_eq_false]; intro v hv; simp [goodV_not (hV v hv)])
theorem fitH_mem {p s : ByteArray} (h : 0 < (fitL p s).length) : fitH p s ∈ fitL p s := by
  unfold fitH nthF
  rw [List.getD_eq_getElem?_getD, List.getElem?_eq_getElem h]
  exact List.getElem_mem _
/-- the word that a pattern is filled to -/
theorem filled {p : ByteArray} {V : List ByteArray} (hp : patternOkB p = true) (hl : V.length = (varsOf p).size) (hV : ∀ v ∈ V, goodV v) (hs : (fillF p V).size ≤ 16) :
    fpOk p (fillF p V) = true ∧ fillOk p (fpV p (fillF p V)) = true ∧ fillF p (fpV p (fillF p V)) = fillF p V ∧ 1 ≤ cntV p (fillF p V) ∧ avoidB p (fillF p V) = false := by
  have hok := fillOk_good hp hl hV
  have hw : fillF p V = fillTo p V p.size := fillF_yes hok
  have hfit : fitOkB p (fillF p V) = true := fitOk_yes hp (by
    rw [wordOk_all (by decide) hs, hw]
    exact fillTo_letters hp hV _ (Nat.le_refl _))
  have hmem := fitL_complete hok hw
  generalize fillF p V = w at *
  have hpos := fitN_pos hmem
  have hfp : fpOk p w = true := by
    unfold fpOk
    rw [hfit]; simpa using List.length_pos_of_mem hmem
  have hin : fpV p w ∈ fitL p w := by
    unfold fpV
    rw [if_pos hfp]
    exact fitH_mem (List.length_pos_of_mem hmem)
  obtain ⟨h1, h2⟩ := fitL_sound hfit hin
  refine ⟨hfp, h1, h2, ?_, ?_⟩
  · rw [cntV_yes hfit]; omega
  · rw [avoidB_yes hfit, outF_isSome (i := 0) (k := w.size) (Nat.zero_le _) (Nat.le_refl _) (by
      unfold fitB; rw [extract_all]; simpa using hpos)]
    rfl
/-- a word that a pattern is looked for in -/
theorem avoidU {p u : ByteArray} (hf : fitOkB p u = true) (h : avoidB p u = true) : ffI p u = 0 ∧ ffN p u = 0 ∧ cntV p u = 0 := by
  rw [avoidB_yes hf] at h
  have ho : outF p u = none := by
    cases ho : outF p u with
    | none => rfl
    | some x => rw [ho] at h; cases h
  refine ⟨by unfold ffI; rw [firstV_yes hf, ho]; rfl, by unfold ffN; rw [firstV_yes hf, ho]; rfl, ?_⟩
  rw [cntV_yes hf]
  rcases Nat.eq_zero_or_pos (fitN p u) with h0 | h0
  · rw [h0]; rfl
  · have := outF_isSome (p := p) (s := u) (i := 0) (k := u.size) (Nat.zero_le _) (Nat.le_refl _) (by unfold fitB; rw [extract_all]; simpa using h0)
    rw [ho] at this; cases this
theorem allB_cut {q : UInt8 → Bool} {s : ByteArray} (h : allB q s = true) (i k : Nat) : allB q (s.extract i k) = true := by
  unfold allB at *
  rw [List.all_eq_true] at *
  intro c hc
  refine h c ?_
  have : (s.extract i k).data.toList = (s.data.extract i k).toList := by simp
  rw [this, Array.toList_extract, List.extract_eq_take_drop] at hc
  exact List.mem_of_mem_drop (List.mem_of_mem_take hc)
theorem meetU {p u : ByteArray} (hf : fitOkB p u = true) (h : avoidB p u = false) : ∃ i k, i ≤ k ∧ k ≤ u.size ∧ ffI p u = ((i : Nat) : Int) ∧ ffN p u = ((k : Nat) : Int) - ((i : Nat) : Int) ∧ 1 ≤ cntV p (u.extract i k) := by
  rw [avoidB_yes hf] at h
  cases ho : outF p u with
  | none => rw [ho] at h; cases h
  | some x =>
    obtain ⟨i, k⟩ := x
    obtain ⟨h1, h2, h3⟩ := outF_some ho
    obtain ⟨hp, hw, hp8, hs⟩ := fitOk_out hf
    refine ⟨i, k, h1, h2, by unfold ffI; rw [firstV_yes hf, ho]; rfl, by unfold ffN; rw [firstV_yes hf, ho]; rfl, ?_⟩
    have hsz : (u.extract i k).size ≤ 16 := by rw [ByteArray.size_extract]; omega
    rw [cntV_yes (fitOk_yes hp (by
      rw [wordOk_all (by decide) hsz]
      rw [wordOk_all (by decide) hs] at hw
      exact allB_cut hw i k))]
    unfold fitB at h3
    have := of_decide_eq_true h3
    omega
/-- a drawn letter and a 'b' are a value -/
theorem good_drawn {s : ByteArray} (h : allB (letB 4) s = true) (hs : s.size ≤ 1) : goodV (s ++ ⟨#[98]⟩) := by
  have e : (s ++ ⟨#[98]⟩ : ByteArray).size = s.size + 1 := by rw [ByteArray.size_append]; rfl
  refine ⟨by omega, by omega, ?_⟩
  have := allB_app (letB 4) s ⟨#[98]⟩
  rw [h] at this
  have h2 : allB (letB 4) (s ++ ⟨#[98]⟩) = true := by rw [this]; decide
  unfold allB at h2
  exact List.all_eq_true.1 h2
theorem strSum_one (l : List ByteArray) (v : ByteArray) : strSum (l ++ [v]) = strSum l + v.size := by simp [strSum]
theorem strSum_good {V : List ByteArray} (hV : ∀ v ∈ V, goodV v) : strSum V ≤ 16 * V.length := by
  induction V with
  | nil => simp [strSum]
  | cons a l ih =>
    have h1 := (hV a List.mem_cons_self).2.1
    have := ih (fun v hv => hV v (List.mem_cons_of_mem _ hv))
    simp only [strSum, List.map_cons, List.sum_cons, List.length_cons] at *
    omega
end Go.Proofs.Ytnnboeeogbgmdaa
