/-
  The bound at twelve words of at most eight letters out of four: some of them are short.
-/
import Derived.Test.YtggfhephdcnpcaaGreatGrp12
namespace Go.Proofs.YtggfhephdcnpcaaGreat
open Go.RowKit
set_option linter.unusedVariables false
theorem nodup_len {α : Type} [DecidableEq α] : ∀ {l m : List α}, l.Nodup → (∀ x ∈ l, x ∈ m) → l.length ≤ m.length
  | [], m, _, _ => Nat.zero_le _
  | a :: l, m, hn, h => by
    have h1 := List.nodup_cons.1 hn
    have ha := h a List.mem_cons_self
    have ih := nodup_len (m := m.erase a) h1.2 fun x hx => by
      have : x ≠ a := fun e => by subst e; exact h1.1 hx
      exact (List.mem_erase_of_ne this).2 (h x (List.mem_cons_of_mem _ hx))
    rw [List.length_erase_of_mem ha] at ih
    have : 0 < m.length := List.length_pos_of_mem ha
    simp only [List.length_cons]
    omega
/-- the first j letters of a row without an end -/
def pre (f : Nat → Nat) (j : Nat) : Wd := (List.range j).map fun i => lt97 (f i)
theorem pre_succ (f : Nat → Nat) (j : Nat) : pre f (j + 1) = pre f j ++ [lt97 (f j)] := by
  unfold pre; rw [List.range_succ, List.map_append]; rfl
theorem pw_row {L : List Wd} {k : Nat} {f : Nat → Nat} (hf : ∀ j, f j < k) (h : ∀ j, okL L (pre f j) (f j) = true) : ∀ (m j : Nat), 1 ≤ pwA L k m (pre f j)
  | 0, j => Nat.le_refl _
  | m + 1, j => by
    have h1 := pw_row hf h m (j + 1)
    have h2 := mem_sum (f := fun x => if okL L (pre f j) x = true then pwA L k m (pre f j ++ [lt97 x]) else 0) (List.mem_range.2 (hf j))
    simp only [h j, if_true] at h2
    rw [← pre_succ] at h2
    exact Nat.le_trans h1 h2
def un97 (y : UInt8) : Nat := y.toNat - 97
theorem un97_lt {x : Nat} (h : x < 4) : un97 (lt97 x) = x := by
  unfold un97 lt97
  simp
  omega
/-- one of the words lies in each row -/
theorem row_hit {L : List Wd} {k N : Nat} (hk : k ≤ 4) (hN : pwA L k N [] = 0) {f : Nat → Nat} (hf : ∀ j, f j < k) : ∃ r ∈ L, ∃ o, ∀ i, i < r.length → (r.map un97)[i]? = some (f (o + i)) := by
  by_cases h : ∀ j, okL L (pre f j) (f j) = true
  · have := pw_row hf h N 0
    have e : pre f 0 = [] := rfl
    rw [e, hN] at this
    omega
  · obtain ⟨j, hj⟩ := Classical.not_forall.1 h
    have h1 : endsL L (pre f (j + 1)) = true := by
      rw [pre_succ]
      unfold okL at hj
      simpa using hj
    obtain ⟨r, hr, t, ht⟩ := endsL_iff.1 h1
    refine ⟨r, hr, t.length, fun i hi => ?_⟩
    have h2 : (t ++ r)[t.length + i]? = r[i]? := by rw [List.getElem?_append_right (by omega)]; congr 1; omega
    rw [ht] at h2
    have h3 : t.length + r.length = j + 1 := by
      have := congrArg List.length ht
      simpa [pre] using this
    have h4 : (pre f (j + 1))[t.length + i]? = some (lt97 (f (t.length + i))) := by
      unfold pre
      rw [List.getElem?_map, List.getElem?_range (by omega)]
      rfl
    rw [List.getElem?_map, ← h2, h4]
    have h5 := hf (t.length + i)
    simp [un97_lt (show f (t.length + i) < 4 by omega)]
/-- rows of four letters that come again -/
def rows4 : List (List Nat) := [[0, 0, 0, 1], [0, 0, 0, 2], [0, 0, 1, 1], [0, 0, 1, 2], [0, 0, 2, 1], [0, 0, 2, 2], [0, 1, 0, 2], [0, 1, 1, 1], [0, 1, 1, 2], [0, 1, 2, 1], [0, 1, 2, 2], [0, 2, 1, 1], [0, 2, 1, 2], [0, 2, 2, 1], [0, 2, 2, 2], [1, 1, 1, 2], [1, 1, 2, 2], [1, 2, 2, 2]]
def c4 (a b c d : Nat) : Nat := min (min (a * 27 + b * 9 + c * 3 + d) (b * 27 + c * 9 + d * 3 + a)) (min (c * 27 + d * 9 + a * 3 + b) (d * 27 + a * 9 + b * 3 + c))
def cls4 : List Nat → Nat
  | a :: b :: c :: d :: _ => c4 a b c d
  | _ => 999
def at4 (u : List Nat) (j : Nat) : Nat := u.getD (j % 4) 0
theorem rows4_nodup : (rows4.map cls4).Nodup := by decide +kernel
theorem rows4_lt : ∀ u ∈ rows4, ∀ o, o < 4 → at4 u o < 3 := by decide +kernel
theorem rows4_turn : ∀ u ∈ rows4, ∀ o, o < 4 → c4 (at4 u o) (at4 u (o + 1)) (at4 u (o + 2)) (at4 u (o + 3)) = cls4 u := by decide +kernel
theorem at4_mod (u : List Nat) (o i : Nat) : at4 u (o + i) = at4 u (o % 4 + i) := by unfold at4; congr 1; omega
theorem short3 {L : List Wd} {N : Nat} (hN : pwA L 3 N [] = 0) (hlen : L.length ≤ 12) : ∃ r ∈ L, r.length ≤ 3 := by
  by_cases h : ∃ r ∈ L, r.length ≤ 3
  · exact h
  · exfalso
    have hlong : ∀ r ∈ L, 4 ≤ r.length := fun r hr => by
      by_cases h2 : r.length ≤ 3
      · exact absurd ⟨r, hr, h2⟩ h
      · omega
    have h1 := nodup_len (m := L.map fun r => cls4 (r.map un97)) rows4_nodup (fun c hc => by
      obtain ⟨u, hu, rfl⟩ := List.mem_map.1 hc
      obtain ⟨r, hr, o, ho⟩ := row_hit (by omega) hN (f := at4 u) (fun j => by
        have := rows4_lt u hu (j % 4) (Nat.mod_lt _ (by omega))
        have e := at4_mod u j 0
        simp only [Nat.add_zero] at e
        omega)
      refine List.mem_map.2 ⟨r, hr, ?_⟩
      have hl := hlong r hr
      have g0 := ho 0 (by omega)
      have g1 := ho 1 (by omega)
      have g2 := ho 2 (by omega)
      have g3 := ho 3 (by omega)
      have ht := rows4_turn u hu (o % 4) (Nat.mod_lt _ (by omega))
      rw [at4_mod] at g0 g1 g2 g3
      rw [Nat.add_zero] at g0
      have hlm : 4 ≤ (r.map un97).length := by simpa using hl
      generalize r.map un97 = z at *
      match z, hlm with
      | a :: b :: c :: d :: z', _ =>
        simp at g0 g1 g2 g3
        subst g0 g1 g2 g3
        exact ht)
    have e : (rows4.map cls4).length = 18 := by decide +kernel
    rw [e, List.length_map] at h1
    omega
/-- rows of one, two, three letters that come again -/
def rows6 : List (List Nat) := [[0, 0, 0, 0, 0, 0], [1, 1, 1, 1, 1, 1], [2, 2, 2, 2, 2, 2], [3, 3, 3, 3, 3, 3], [0, 1, 0, 1, 0, 1], [0, 2, 0, 2, 0, 2], [0, 3, 0, 3, 0, 3], [1, 2, 1, 2, 1, 2], [1, 3, 1, 3, 1, 3], [2, 3, 2, 3, 2, 3], [0, 1, 2, 0, 1, 2], [0, 2, 1, 0, 2, 1], [0, 1, 3, 0, 1, 3], [0, 3, 1, 0, 3, 1], [0, 2, 3, 0, 2, 3], [0, 3, 2, 0, 3, 2], [1, 2, 3, 1, 2, 3], [1, 3, 2, 1, 3, 2]]
def c3 (x y z : Nat) : Nat := if x = z then (if x = y then 1000 + x else 2000 + 10 * min x y + max x y) else if x = y then 9999 else if y = z then 9999 else 3000 + min (x * 16 + y * 4 + z) (min (y * 16 + z * 4 + x) (z * 16 + x * 4 + y))
def cls6 : List Nat → List Nat
  | x :: y :: z :: _ => [c3 x y z]
  | [x, y] => [c3 x y 0, c3 x y 1, c3 x y 2, c3 x y 3]
  | _ => []
def code6 (u : List Nat) : Nat := c3 (u.getD 0 0) (u.getD 1 0) (u.getD 2 0)
def at6 (u : List Nat) (j : Nat) : Nat := u.getD (j % 6) 0
theorem rows6_nodup : (rows6.map code6).Nodup := by decide +kernel
theorem rows6_lt : ∀ u ∈ rows6, ∀ o, o < 6 → at6 u o < 4 := by decide +kernel
theorem rows6_turn : ∀ u ∈ rows6, ∀ o, o < 6 → c3 (at6 u o) (at6 u (o + 1)) (at6 u (o + 2)) = code6 u := by decide +kernel
theorem at6_mod (u : List Nat) (o i : Nat) : at6 u (o + i) = at6 u (o % 6 + i) := by unfold at6; congr 1; omega
theorem at6_lt {u : List Nat} (hu : u ∈ rows6) (j : Nat) : at6 u j < 4 := by
  have := rows6_lt u hu (j % 6) (Nat.mod_lt _ (by omega))
  have e := at6_mod u j 0
  simp only [Nat.add_zero] at e
  omega
def two (L : List Wd) : Nat := (L.filter fun r => r.length == 2).length
theorem cls6_len (L : List Wd) : (L.flatMap fun r => cls6 (r.map un97)).length ≤ L.length + 3 * two L := by
  induction L with
  | nil => exact Nat.le_refl _
  | cons r L ih =>
    unfold two at *
    rw [List.flatMap_cons, List.length_append, List.filter_cons]
    generalize (L.flatMap fun r => cls6 (r.map un97)).length = n at *
    rcases r with _ | ⟨x, _ | ⟨y, _ | ⟨z, r⟩⟩⟩
    · simp [cls6]; omega
    · simp [cls6]; omega
    · simp [cls6]; omega
    · simp [cls6]; omega
theorem short4 {L : List Wd} {N : Nat} (hN : pwA L 4 N [] = 0) (hlen : L.length ≤ 12) (hl2 : ∀ r ∈ L, 2 ≤ r.length) : 2 ≤ two L := by
  have h1 := nodup_len (m := L.flatMap fun r => cls6 (r.map un97)) rows6_nodup (fun c hc => by
    obtain ⟨u, hu, rfl⟩ := List.mem_map.1 hc
    obtain ⟨r, hr, o, ho⟩ := row_hit (by omega) hN (f := at6 u) (at6_lt hu)
    refine List.mem_flatMap.2 ⟨r, hr, ?_⟩
    have hl := hl2 r hr
    have ht := rows6_turn u hu (o % 6) (Nat.mod_lt _ (by omega))
    have g0 := ho 0 (by omega)
    have g1 := ho 1 (by omega)
    have g2 := ho 2
    rw [at6_mod] at g0 g1
    rw [Nat.add_zero] at g0
    have h3 := at6_lt hu (o % 6 + 2)
    have hlm : 2 ≤ (r.map un97).length := by simpa using hl
    have hle : (r.map un97).length = r.length := by simp
    generalize r.map un97 = z at *
    match z, hlm with
    | [x, y], _ =>
      simp at g0 g1
      subst g0 g1
      rw [← ht]
      generalize at6 u (o % 6 + 2) = q at *
      have : q = 0 ∨ q = 1 ∨ q = 2 ∨ q = 3 := by omega
      rcases this with rfl | rfl | rfl | rfl <;> simp [cls6]
    | x :: y :: z :: z', _ =>
      have g2 := g2 (by simp at hle; omega)
      rw [at6_mod] at g2
      have e0 : x = at6 u (o % 6) := by simpa using g0
      have e1 : y = at6 u (o % 6 + 1) := by simpa using g1
      have e2 : z = at6 u (o % 6 + 2) := by simpa using g2
      rw [← ht, e0, e1, e2]
      simp [cls6])
  have e : (rows6.map code6).length = 18 := by decide +kernel
  rw [e] at h1
  have h2 := cls6_len L
  omega
/-- the states -/
def stQ (L : List Wd) (k : Nat) : List Wd := [] :: (List.range k).map (fun x => [lt97 x]) ++ L.flatMap fun r => (List.range (r.length - 2)).map fun i => r.take (i + 2)
theorem stQ_has {L : List Wd} {k : Nat} {q : Wd} (h : inQ L q) (hl : ∀ y ∈ q, ∃ x, x < k ∧ y = lt97 x) : q ∈ stQ L k := by
  unfold stQ
  rcases h with rfl | ⟨r, hr, y, t, e⟩
  · simp
  · match q, hl, e with
    | [], _, _ => simp
    | [z], hl, _ =>
      obtain ⟨x, hx, rfl⟩ := hl z List.mem_cons_self
      apply List.mem_append_left
      apply List.mem_cons_of_mem
      exact List.mem_map.2 ⟨x, List.mem_range.2 hx, rfl⟩
    | z :: z2 :: q', _, e =>
      apply List.mem_append_right
      refine List.mem_flatMap.2 ⟨r, hr, List.mem_map.2 ⟨q'.length, List.mem_range.2 ?_, ?_⟩⟩
      · rw [e]; simp
      · rw [e]; simp
def exSum (L : List Wd) : Nat := (L.map fun r => r.length - 2).sum
theorem stQ_len (L : List Wd) (k : Nat) : (stQ L k).length = 1 + k + exSum L := by
  unfold stQ exSum
  rw [List.length_append, List.length_flatMap]
  simp
  omega
theorem exSum_le {L : List Wd} (h8 : ∀ r ∈ L, r.length ≤ 8) : exSum L + 6 * two L ≤ 6 * L.length := by
  induction L with
  | nil => exact Nat.le_refl _
  | cons r L ih =>
    have h1 := ih fun x hx => h8 x (List.mem_cons_of_mem _ hx)
    have h2 := h8 r List.mem_cons_self
    unfold exSum two at *
    rw [List.filter_cons]
    simp only [List.map_cons, List.sum_cons, List.length_cons]
    by_cases h3 : r.length = 2
    · simp [h3]; omega
    · simp [h3]; omega
theorem exSum_one {L : List Wd} (h8 : ∀ r ∈ L, r.length ≤ 8) {r : Wd} (hr : r ∈ L) : exSum L + 6 ≤ 6 * L.length + (r.length - 2) := by
  have hp := List.perm_cons_erase hr
  have e : exSum L = (r.length - 2) + exSum (L.erase r) := by
    unfold exSum
    have := (hp.map fun r => r.length - 2).sum_nat
    rw [this]
    simp
  have h1 := exSum_le (L := L.erase r) fun x hx => h8 x (List.mem_of_mem_erase hx)
  have h2 := List.length_erase_of_mem hr
  have h3 : 0 < L.length := List.length_pos_of_mem hr
  omega
theorem fil_len (l : List Nat) (p : Nat → Bool) {y : Nat} (hy : y ∈ l) (h : p y = false) : (l.filter p).length + 1 ≤ l.length := by
  induction l with
  | nil => cases hy
  | cons a l ih =>
    rw [List.filter_cons]
    rcases List.mem_cons.1 hy with rfl | hy
    · rw [h]
      have := List.length_filter_le p l
      simp only [List.length_cons]
      simp
      omega
    · have := ih hy
      split
      · simp only [List.length_cons]; omega
      · simp only [List.length_cons]; omega
def topB : Nat := 4611686018427387903
theorem bons_ok : bon 2 76 ≤ topB ∧ bon 3 71 ≤ topB ∧ bon 4 65 ≤ topB := by decide +kernel
/-- all words that avoid twelve words are at most 2^62 - 1, if they are finitely many -/
theorem all_le {L : List Wd} {k N : Nat} (hk : k ≤ 4) (hN : pwA L k N [] = 0) (h12 : L.length ≤ 12) (h8 : ∀ r ∈ L, r.length ≤ 8) (hne : ∀ r ∈ L, r ≠ []) (hlet : ∀ r ∈ L, ∀ y ∈ r, ∃ x, x < k ∧ y = lt97 x) : tot L k N [] ≤ topB := by
  obtain ⟨b2, b3, b4⟩ := bons_ok
  have hd0 : ∀ v, ((List.range k).filter fun x => okL L v x).length ≤ k := fun v => by
    have := List.length_filter_le (fun x => okL L v x) (List.range k)
    simpa using this
  have hq := stQ_len L k
  have hs := exSum_le h8
  by_cases hdead : ∃ r ∈ L, r.length = 1
  · obtain ⟨r, hr, hr1⟩ := hdead
    obtain ⟨y, rfl⟩ := List.length_eq_one_iff.1 hr1
    obtain ⟨x, hx, rfl⟩ := hlet _ hr y List.mem_cons_self
    have hd : ∀ v, ((List.range k).filter fun x => okL L v x).length ≤ k - 1 := fun v => by
      have h1 := fil_len (List.range k) (fun x => okL L v x) (List.mem_range.2 hx) (by
        unfold okL
        have : endsL L (v ++ [lt97 x]) = true := endsL_iff.2 ⟨_, hr, List.suffix_append _ _⟩
        rw [this]; rfl)
      simp at h1
      omega
    have h1 := exSum_one h8 hr
    simp at h1
    by_cases h4 : k = 4
    · subst h4
      exact Nat.le_trans (tot_le hne (by omega) hN (fun q hq hl => stQ_has hq hl) hd) (Nat.le_trans (bon_mono 3 (by omega)) b3)
    · exact Nat.le_trans (tot_le hne hk hN (fun q hq hl => stQ_has hq hl) (d := 2) (fun v => by have := hd v; omega)) (Nat.le_trans (bon_mono 2 (by omega)) b2)
  · have hl2 : ∀ r ∈ L, 2 ≤ r.length := fun r hr => by
      have h1 : r.length ≠ 1 := fun e => hdead ⟨r, hr, e⟩
      have h2 : r.length ≠ 0 := fun e => hne r hr (List.length_eq_zero_iff.1 e)
      omega
    by_cases h4 : k = 4
    · subst h4
      have h5 := short4 hN h12 hl2
      exact Nat.le_trans (tot_le hne (by omega) hN (fun q hq hl => stQ_has hq hl) hd0) (Nat.le_trans (bon_mono 4 (by omega)) b4)
    · by_cases h3 : k = 3
      · subst h3
        obtain ⟨r, hr, hr3⟩ := short3 hN h12
        have h1 := exSum_one h8 hr
        exact Nat.le_trans (tot_le hne (by omega) hN (fun q hq hl => stQ_has hq hl) hd0) (Nat.le_trans (bon_mono 3 (by omega)) b3)
      · exact Nat.le_trans (tot_le hne hk hN (fun q hq hl => stQ_has hq hl) (d := 2) (fun v => by have := hd0 v; omega)) (Nat.le_trans (bon_mono 2 (by omega)) b2)
end Go.Proofs.YtggfhephdcnpcaaGreat
