/-
  Different numbers have different texts.
-/
import Derived.Test.YtlldhmoiahcfpaaDoorGrp17
import Derived.Test.YtlldhmoiahcfpaaDoorGrp30
import Derived.Sort.Walk0
import Derived.Test.YtlldhmoiahcfpaaDoorGrp25
namespace Go.Proofs.YtlldhmoiahcfpaaDoor
open Go.RowKit
set_option linter.unusedVariables false
/-- one letter more -/
def stepW (R : List RulD) (k : Nat) (w : ByteArray) : List ByteArray := (List.range k).flatMap fun x => if okX R w x = true then [w ++ letterN x] else []
/-- all reduced words from w by m letters -/
def wordsF (R : List RulD) (k : Nat) : Nat → ByteArray → List ByteArray
  | 0, w => [w]
  | m + 1, w => (List.range k).flatMap fun x => if okX R w x = true then wordsF R k m (w ++ letterN x) else []
theorem flat_if {α β : Type} (l : List Nat) (p : Nat → Bool) (f : Nat → List α) (g : α → List β) : (l.flatMap fun x => if p x = true then f x else []).flatMap g = l.flatMap fun x => if p x = true then (f x).flatMap g else [] := by
  rw [List.flatMap_assoc]
  congr 1
  funext x
  split <;> rfl
theorem wordsF_step (R : List RulD) (k : Nat) : ∀ (m : Nat) (w : ByteArray), wordsF R k (m + 1) w = (wordsF R k m w).flatMap (stepW R k)
  | 0, w => by
    show _ = ([w] : List ByteArray).flatMap (stepW R k)
    rw [List.flatMap_singleton]
    rfl
  | m + 1, w => by
    have e : wordsF R k (m + 1) w = (List.range k).flatMap fun x => if okX R w x = true then wordsF R k m (w ++ letterN x) else [] := rfl
    rw [e, flat_if]
    show (List.range k).flatMap _ = _
    congr 1
    funext x
    split
    · exact wordsF_step R k m (w ++ letterN x)
    · rfl
theorem len_flat (l : List Nat) (p : Nat → Bool) (f : Nat → List ByteArray) : (l.flatMap fun x => if p x = true then f x else []).length = (l.map fun x => if p x = true then (f x).length else 0).sum := by
  rw [List.length_flatMap]
  congr 1
  apply List.map_congr_left
  intro x _
  split <;> rfl
theorem wordsF_len {R : List RulD} (hne : LeftsP R) (k : Nat) : ∀ (m : Nat) (w : ByteArray), (wordsF R k m w).length = paths R k m w
  | 0, w => rfl
  | m + 1, w => by
    show ((List.range k).flatMap _).length = _
    rw [len_flat, paths_succ]
    unfold pTo
    congr 1
    apply List.map_congr_left
    intro x _
    rw [wordsF_len hne k m (w ++ letterN x), paths_nxt hne]
theorem wordsF_size (R : List RulD) (k : Nat) : ∀ (m : Nat) (w : ByteArray), ∀ u ∈ wordsF R k m w, u.size = w.size + m
  | 0, w, u, hu => by rw [List.mem_singleton.1 hu]; rfl
  | m + 1, w, u, hu => by
    obtain ⟨x, _, h2⟩ := List.mem_flatMap.1 hu
    split at h2
    · have h3 := wordsF_size R k m _ u h2
      rw [ByteArray.size_append, letterN_size] at h3
      omega
    · cases h2
theorem wordsF_pre (R : List RulD) (k : Nat) : ∀ (m : Nat) (w : ByteArray), ∀ u ∈ wordsF R k m w, ∃ t, u.data.toList = w.data.toList ++ t
  | 0, w, u, hu => ⟨[], by rw [List.mem_singleton.1 hu]; simp⟩
  | m + 1, w, u, hu => by
    obtain ⟨x, _, h2⟩ := List.mem_flatMap.1 hu
    split at h2
    · obtain ⟨t, ht⟩ := wordsF_pre R k m _ u h2
      rw [app_lt] at ht
      exact ⟨lt97 x :: t, by rw [ht]; simp⟩
    · cases h2
/-- Go's order of strings -/
def ltB (a b : ByteArray) : Bool := Op.bytesLess a.data.toList b.data.toList
theorem less_app (p s t : Wd) : Op.bytesLess (p ++ s) (p ++ t) = Op.bytesLess s t := by
  induction p with
  | nil => rfl
  | cons a p ih =>
    have h1 : ¬ a < a := UInt8.lt_irrefl a
    simp only [List.cons_append, Op.bytesLess, ih, beq_self_eq_true, Bool.true_and, decide_eq_false h1, Bool.false_or]
theorem less_head {a b : UInt8} (h : a < b) (s t : Wd) : Op.bytesLess (a :: s) (b :: t) = true := by
  simp [Op.bytesLess, h]
theorem less_head_no {a b : UInt8} (h : b < a) (s t : Wd) : Op.bytesLess (a :: s) (b :: t) = false := by
  have h1 : ¬ a < b := fun h2 => UInt8.lt_asymm h h2
  have h2 : (a == b) = false := by
    rw [beq_eq_false_iff_ne]
    intro e
    subst e
    exact UInt8.lt_irrefl _ h
  simp [Op.bytesLess, h1, h2]
/-- two words of one length: their rest does not tell -/
theorem less_pre : ∀ {p q : Wd}, p.length = q.length → ∀ (s t : Wd), (Op.bytesLess p q = true → Op.bytesLess (p ++ s) (q ++ t) = true ∧ Op.bytesLess (q ++ t) (p ++ s) = false)
  | [], [], _, s, t, h => by cases h
  | [], _ :: _, h, _, _, _ => by simp at h
  | _ :: _, [], h, _, _, _ => by simp at h
  | a :: p, b :: q, h, s, t, hl => by
    unfold Op.bytesLess at hl
    simp only [Bool.or_eq_true, decide_eq_true_eq, Bool.and_eq_true, beq_iff_eq] at hl
    rcases hl with hl | ⟨rfl, hl⟩
    · exact ⟨less_head hl _ _, less_head_no hl _ _⟩
    · have ih := less_pre (p := p) (q := q) (by simpa using h) s t hl
      have h1 : ¬ a < a := UInt8.lt_irrefl a
      refine ⟨?_, ?_⟩
      · simp only [List.cons_append, Op.bytesLess, ih.1, beq_self_eq_true, Bool.true_and, Bool.or_true]
      · simp only [List.cons_append, Op.bytesLess, ih.2, Bool.and_false, decide_eq_false h1, Bool.or_false]
theorem lt97_lt {x y : Nat} (h : x < y) (hy : y < 4) : lt97 x < lt97 y := by
  rw [UInt8.lt_iff_toNat_lt]
  unfold lt97
  simp
  omega
/-- the words rise -/
theorem wordsF_rise {R : List RulD} {k : Nat} (hk : k ≤ 4) : ∀ (m : Nat) (w : ByteArray), (wordsF R k m w).Pairwise (fun a b => ltB a b = true)
  | 0, w => List.pairwise_singleton _ _
  | m + 1, w => by
    show ((List.range k).flatMap _).Pairwise _
    rw [List.pairwise_flatMap]
    refine ⟨fun x hx => ?_, ?_⟩
    · split
      · exact wordsF_rise hk m _
      · exact List.Pairwise.nil
    · refine List.pairwise_lt_range.imp_of_mem ?_
      intro x y hx hy hxy a ha b hb
      split at ha
      · split at hb
        · obtain ⟨s, hs⟩ := wordsF_pre R k m _ a ha
          obtain ⟨t, ht⟩ := wordsF_pre R k m _ b hb
          have := List.mem_range.1 hy
          unfold ltB
          rw [hs, ht, app_lt, app_lt, List.append_assoc, List.append_assoc, less_app]
          exact less_head (lt97_lt hxy (by omega)) _ _
        · cases hb
      · cases ha
end Go.Proofs.YtlldhmoiahcfpaaDoor
namespace Go.Proofs.YtlldhmoiahcfpaaDoor
open Go.RowKit
set_option linter.unusedVariables false
/-- the first reduced word from w by m letters that is above the bound -/
def firstF (R : List RulD) (k : Nat) (bound : ByteArray) (m : Nat) (w : ByteArray) : Option ByteArray := (wordsF R k m w).find? fun u => ltB bound u
/-- none begins with w and one of the first x letters -/
def NoneTo (R : List RulD) (k : Nat) (bound : ByteArray) (m : Nat) (w : ByteArray) (x : Nat) : Prop := ∀ y, y < x → okX R w y = true → firstF R k bound m (w ++ letterN y) = none
theorem NoneTo.start (R : List RulD) (k : Nat) (bound : ByteArray) (m : Nat) (w : ByteArray) : NoneTo R k bound m w 0 := fun y hy => by omega
theorem NoneTo.no {R : List RulD} {k : Nat} {bound : ByteArray} {m : Nat} {w : ByteArray} {x : Nat} (h : NoneTo R k bound m w x) (hx : okX R w x = false) : NoneTo R k bound m w (x + 1) := fun y hy ho => by
  by_cases e : y = x
  · subst e; rw [hx] at ho; cases ho
  · exact h y (by omega) ho
theorem NoneTo.skip {R : List RulD} {k : Nat} {bound : ByteArray} {m : Nat} {w : ByteArray} {x : Nat} (h : NoneTo R k bound m w x) (hx : firstF R k bound m (w ++ letterN x) = none) : NoneTo R k bound m w (x + 1) := fun y hy ho => by
  by_cases e : y = x
  · subst e; exact hx
  · exact h y (by omega) ho
theorem find_flat {α β : Type} (p : β → Bool) (g : α → List β) : ∀ l : List α, (∀ a ∈ l, (g a).find? p = none) → (l.flatMap g).find? p = none := fun l h => by
  rw [List.find?_eq_none]
  intro b hb
  obtain ⟨a, ha, hb⟩ := List.mem_flatMap.1 hb
  exact List.find?_eq_none.1 (h a ha) b hb
theorem NoneTo.done {R : List RulD} {k : Nat} {bound : ByteArray} {m : Nat} {w : ByteArray} (h : NoneTo R k bound m w k) : firstF R k bound (m + 1) w = none := by
  unfold firstF
  refine find_flat _ _ _ fun x hx => ?_
  split
  · rename_i ho
    exact h x (List.mem_range.1 hx) ho
  · rfl
theorem NoneTo.found {R : List RulD} {k : Nat} {bound : ByteArray} {m : Nat} {w u : ByteArray} {x : Nat} (h : NoneTo R k bound m w x) (hx : x < k) (ho : okX R w x = true) (hu : firstF R k bound m (w ++ letterN x) = some u) : firstF R k bound (m + 1) w = some u := by
  have e : List.range k = List.range x ++ x :: (List.range k).drop (x + 1) := by
    conv => lhs; rw [← List.take_append_drop x (List.range k)]
    rw [List.drop_eq_getElem_cons (by simpa using hx)]
    congr 1
    · rw [List.take_range]; congr 1; omega
    · simp
  unfold firstF
  show ((List.range k).flatMap _).find? _ = _
  rw [e, List.flatMap_append, List.find?_append, find_flat _ _ _ (fun y hy => by
    split
    · rename_i hy2
      exact h y (List.mem_range.1 hy) hy2
    · rfl), Option.none_or, List.flatMap_cons, List.find?_append]
  rw [if_pos ho]
  unfold firstF at hu
  rw [hu]
  rfl
/-- all words are above the bound: the first one is the first of all -/
def FreeW (bound w : ByteArray) : Prop := bound.size = 0 ∨ Op.bytesLess (bound.data.toList.take w.size) w.data.toList = true
theorem less_nil {s : Wd} (h : s ≠ []) : Op.bytesLess [] s = true := by
  cases s with
  | nil => exact absurd rfl h
  | cons a s => rfl
theorem free_above {R : List RulD} {k : Nat} {bound w u : ByteArray} {m : Nat} (h : FreeW bound w) (hb : bound.size = 0 ∨ bound.size = w.size + m) (hm : 0 < w.size + m) (hu : u ∈ wordsF R k m w) : ltB bound u = true := by
  have hs := wordsF_size R k m w u hu
  have hsz : ∀ z : ByteArray, z.data.toList.length = z.size := fun z => rfl
  unfold ltB
  rcases h with h0 | h0
  · have e : bound.data.toList = [] := List.length_eq_zero_iff.1 (by rw [hsz, h0])
    rw [e]
    exact less_nil fun e2 => by have h9 : 0 = u.size := (by have h8 := hsz u; rw [e2] at h8; exact h8); omega
  · obtain ⟨t, ht⟩ := wordsF_pre R k m w u hu
    rcases hb with hb | hb
    · have e : bound.data.toList = [] := List.length_eq_zero_iff.1 (by rw [hsz, hb])
      rw [e]
      exact less_nil fun e2 => by have h9 : 0 = u.size := (by have h8 := hsz u; rw [e2] at h8; exact h8); omega
    · rw [← List.take_append_drop w.size bound.data.toList, ht]
      exact (less_pre (by rw [List.length_take, hsz, hsz]; omega) _ _ h0).1
/-- beyond the bound, where there is none there is no word at all -/
theorem free_none {R : List RulD} (hne : LeftsP R) {k : Nat} {bound w : ByteArray} {m : Nat} (h : FreeW bound w) (hb : bound.size = 0 ∨ bound.size = w.size + m) (hm : 0 < w.size + m) (hn : firstF R k bound m w = none) : paths R k m w = 0 := by
  rw [← wordsF_len hne, List.length_eq_zero_iff]
  unfold firstF at hn
  rw [List.find?_eq_none] at hn
  exact List.eq_nil_iff_forall_not_mem.2 fun u hu => hn u hu (free_above h hb hm hu)
theorem none_of_paths {R : List RulD} (hne : LeftsP R) {k : Nat} {bound w : ByteArray} {m : Nat} (h : paths R k m w = 0) : firstF R k bound m w = none := by
  rw [← wordsF_len hne, List.length_eq_zero_iff] at h
  unfold firstF
  rw [h]; rfl
/-- below the bound there is none -/
theorem below_none {R : List RulD} {k : Nat} {bound w : ByteArray} {m : Nat} (hb : bound.size = w.size + m) (h : Op.bytesLess w.data.toList (bound.data.toList.take w.size) = true) : firstF R k bound m w = none := by
  unfold firstF
  rw [List.find?_eq_none]
  intro u hu
  obtain ⟨t, ht⟩ := wordsF_pre R k m w u hu
  have hsz : ∀ z : ByteArray, z.data.toList.length = z.size := fun z => rfl
  unfold ltB
  rw [← List.take_append_drop w.size bound.data.toList, ht]
  rw [(less_pre (by rw [List.length_take, hsz, hsz]; omega) t (bound.data.toList.drop w.size) h).2]
  simp
end Go.Proofs.YtlldhmoiahcfpaaDoor
namespace Go.Proofs.YtlldhmoiahcfpaaDoor
open Go.RowKit
set_option linter.unusedVariables false
theorem dec_ne (n : Nat) : Lib.decDigits n ≠ [] := by
  by_cases h : n < 10
  · rw [decDigits_small h]; simp
  · rw [decDigits_big (by omega)]; simp
theorem dig_inj {a b : Nat} (ha : a < 10) (hb : b < 10) (h : UInt8.ofNat (48 + a) = UInt8.ofNat (48 + b)) : a = b := by
  have h1 := congrArg UInt8.toNat h
  simp at h1
  omega
theorem dec_inj : ∀ (n m : Nat), Lib.decDigits n = Lib.decDigits m → n = m := by
  intro n
  induction n using Nat.strongRecOn with
  | ind n ih =>
    intro m h
    by_cases h1 : n < 10
    · by_cases h2 : m < 10
      · rw [decDigits_small h1, decDigits_small h2] at h
        exact dig_inj h1 h2 (by simpa using h)
      · rw [decDigits_small h1, decDigits_big (k := m) (by omega)] at h
        have h3 := congrArg List.length h
        have h4 : 0 < (Lib.decDigits (m / 10)).length := List.length_pos_iff.2 (dec_ne _)
        simp only [List.length_append, List.length_cons, List.length_nil] at h3
        omega
    · by_cases h2 : m < 10
      · rw [decDigits_small h2, decDigits_big (k := n) (by omega)] at h
        have h3 := congrArg List.length h
        have h4 : 0 < (Lib.decDigits (n / 10)).length := List.length_pos_iff.2 (dec_ne _)
        simp only [List.length_append, List.length_cons, List.length_nil] at h3
        omega
      · rw [decDigits_big (k := n) (by omega), decDigits_big (k := m) (by omega)] at h
        obtain ⟨h3, h4⟩ := List.append_inj' h rfl
        have h5 := ih (n / 10) (by omega) (m / 10) h3
        have h6 := dig_inj (Nat.mod_lt n (by omega)) (Nat.mod_lt m (by omega)) (by simpa using h4)
        omega
theorem numB_inj {n m : Nat} (h : numB (n : Int) = numB (m : Int)) : n = m := by
  apply dec_inj
  have h1 := congrArg (fun z : ByteArray => z.data.toList) h
  simp only [numB] at h1
  rw [itoa_nat, itoa_nat] at h1
  simpa using h1
end Go.Proofs.YtlldhmoiahcfpaaDoor
