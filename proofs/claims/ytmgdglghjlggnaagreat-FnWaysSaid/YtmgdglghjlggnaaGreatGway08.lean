/-
  The greatest number of letters behind an end, as plain data; how many reduced words there are at most.
-/
import Derived.Test.YtmgdglghjlggnaaGreatGway07
namespace Go.Proofs.YtmgdglghjlggnaaGreat
open Go.RowKit
set_option linter.unusedVariables false
theorem nodup_len {α : Type} [DecidableEq α] : ∀ {l m : List α}, l.Nodup → (∀ x ∈ l, x ∈ m) → l.length ≤ m.length
  | [], m, _, _ => Nat.zero_le _
  | a :: l, m, hn, h => by
    have h1 := List.nodup_cons.1 hn
    have ha := h a List.mem_cons_self
    have ih := nodup_len (m := m.erase a) h1.2 fun x hx => by
      have : x ≠ a := fun e => by subst e; exact h1.1 hx
      exact (List.mem_erase_of_ne this).2 (h x (List.mem_cons_of_mem _ hx))
    rw [List.length_erase_of_mem ha] at ih
    have : 0 < m.length := List.length_pos_of_mem ha
    simp only [List.length_cons]
    omega
/-- the first j letters of a row without an end -/
def pre (f : Nat → Nat) (j : Nat) : Wd := (List.range j).map fun i => lt97 (f i)
theorem pre_succ (f : Nat → Nat) (j : Nat) : pre f (j + 1) = pre f j ++ [lt97 (f j)] := by
  unfold pre; rw [List.range_succ, List.map_append]; rfl
theorem pw_row {L : List Wd} {k : Nat} {f : Nat → Nat} (hf : ∀ j, f j < k) (h : ∀ j, okL L (pre f j) (f j) = true) : ∀ (m j : Nat), 1 ≤ pwA L k m (pre f j)
  | 0, j => Nat.le_refl _
  | m + 1, j => by
    have h1 := pw_row hf h m (j + 1)
    have h2 := mem_sum (f := fun x => if okL L (pre f j) x = true then pwA L k m (pre f j ++ [lt97 x]) else 0) (List.mem_range.2 (hf j))
    simp only [h j, if_true] at h2
    rw [← pre_succ] at h2
    exact Nat.le_trans h1 h2
def un97 (y : UInt8) : Nat := y.toNat - 97
theorem un97_lt {x : Nat} (h : x < 4) : un97 (lt97 x) = x := by
  unfold un97 lt97
  simp
  omega
/-- one of the words lies in each row -/
theorem row_hit {L : List Wd} {k N : Nat} (hk : k ≤ 4) (hN : pwA L k N [] = 0) {f : Nat → Nat} (hf : ∀ j, f j < k) : ∃ r ∈ L, ∃ o, ∀ i, i < r.length → (r.map un97)[i]? = some (f (o + i)) := by
  by_cases h : ∀ j, okL L (pre f j) (f j) = true
  · have := pw_row hf h N 0
    have e : pre f 0 = [] := rfl
    rw [e, hN] at this
    omega
  · obtain ⟨j, hj⟩ := Classical.not_forall.1 h
    have h1 : endsL L (pre f (j + 1)) = true := by
      rw [pre_succ]
      unfold okL at hj
      simpa using hj
    obtain ⟨r, hr, t, ht⟩ := endsL_iff.1 h1
    refine ⟨r, hr, t.length, fun i hi => ?_⟩
    have h2 : (t ++ r)[t.length + i]? = r[i]? := by rw [List.getElem?_append_right (by omega)]; congr 1; omega
    rw [ht] at h2
    have h3 : t.length + r.length = j + 1 := by
      have := congrArg List.length ht
      simpa [pre] using this
    have h4 : (pre f (j + 1))[t.length + i]? = some (lt97 (f (t.length + i))) := by
      unfold pre
      rw [List.getElem?_map, List.getElem?_range (by omega)]
      rfl
    rw [List.getElem?_map, ← h2, h4]
    have h5 := hf (t.length + i)
    simp [un97_lt (show f (t.length + i) < 4 by omega)]
/-- rows of four letters that come again -/
def rows4 : List (List Nat) := [[0, 0, 0, 1], [0, 0, 0, 2], [0, 0, 1, 1], [0, 0, 1, 2], [0, 0, 2, 1], [0, 0, 2, 2], [0, 1, 0, 2], [0, 1, 1, 1], [0, 1, 1, 2], [0, 1, 2, 1], [0, 1, 2, 2], [0, 2, 1, 1], [0, 2, 1, 2], [0, 2, 2, 1], [0, 2, 2, 2], [1, 1, 1, 2], [1, 1, 2, 2], [1, 2, 2, 2]]
def c4 (a b c d : Nat) : Nat := min (min (a * 27 + b * 9 + c * 3 + d) (b * 27 + c * 9 + d * 3 + a)) (min (c * 27 + d * 9 + a * 3 + b) (d * 27 + a * 9 + b * 3 + c))
def cls4 : List Nat → Nat
  | a :: b :: c :: d :: _ => c4 a b c d
  | _ => 999
def at4 (u : List Nat) (j : Nat) : Nat := u.getD (j % 4) 0
theorem rows4_nodup : (rows4.map cls4).Nodup := by decide +kernel
theorem rows4_lt : ∀ u ∈ rows4, ∀ o, o < 4 → at4 u o < 3 := by decide +kernel
theorem rows4_turn : ∀ u ∈ rows4, ∀ o, o < 4 → c4 (at4 u o) (at4 u (o + 1)) (at4 u (o + 2)) (at4 u (o + 3)) = cls4 u := by decide +kernel
theorem at4_mod (u : List Nat) (o i : Nat) : at4 u (o + i) = at4 u (o % 4 + i) := by unfold at4; congr 1; omega
theorem short3 {L : List Wd} {N : Nat} (hN : pwA L 3 N [] = 0) (hlen : L.length ≤ 12) : ∃ r ∈ L, r.length ≤ 3 := by
  by_cases h : ∃ r ∈ L, r.length ≤ 3
  · exact h
  · exfalso
    have hlong : ∀ r ∈ L, 4 ≤ r.length := fun r hr => by
      by_cases h2 : r.length ≤ 3
      · exact absurd ⟨r, hr, h2⟩ h
      · omega
    have h1 := nodup_len (m := L.map fun r => cls4 (r.map un97)) rows4_nodup (fun c hc => by
      obtain ⟨u, hu, rfl⟩ := List.mem_map.1 hc
      obtain ⟨r, hr, o, ho⟩ := row_hit (by omega) hN (f := at4 u) (fun j => by
        have := rows4_lt u hu (j % 4) (Nat.mod_lt _ (by omega))
        have e := at4_mod u j 0
        simp only [Nat.add_zero] at e
        omega)
      refine List.mem_map.2 ⟨r, hr, ?_⟩
      have hl := hlong r hr
      have g0 := ho 0 (by omega)
      have g1 := ho 1 (by omega)
      have g2 := ho 2 (by omega)
      have g3 := ho 3 (by omega)
      have ht := rows4_turn u hu (o % 4) (Nat.mod_lt _ (by omega))
      rw [at4_mod] at g0 g1 g2 g3
      rw [Nat.add_zero] at g0
      have hlm : 4 ≤ (r.map un97).length := by simpa using hl
      generalize r.map un97 = z at *
      match z, hlm with
      | a :: b :: c :: d :: z', _ =>
        simp at g0 g1 g2 g3
        subst g0 g1 g2 g3
        exact ht)
    have e : (rows4.map cls4).length = 18 := by decide +kernel
    rw [e, List.length_map] at h1
    omega
/-- rows of one, two, three letters that come again -/
def rows6 : List (List Nat) := [[0, 0, 0, 0, 0, 0], [1, 1, 1, 1, 1, 1], [2, 2, 2, 2, 2, 2], [3, 3, 3, 3, 3, 3], [0, 1, 0, 1, 0, 1], [0, 2, 0, 2, 0, 2], [0, 3, 0, 3, 0, 3], [1, 2, 1, 2, 1, 2], [1, 3, 1, 3, 1, 3], [2, 3, 2, 3, 2, 3], [0, 1, 2, 0, 1, 2], [0, 2, 1, 0, 2, 1], [0, 1, 3, 0, 1, 3], [0, 3, 1, 0, 3, 1], [0, 2, 3, 0, 2, 3], [0, 3, 2, 0, 3, 2], [1, 2, 3, 1, 2, 3], [1, 3, 2, 1, 3, 2]]
def c3 (x y z : Nat) : Nat := if x = z then (if x = y then 1000 + x else 2000 + 10 * min x y + max x y) else if x = y then 9999 else if y = z then 9999 else 3000 + min (x * 16 + y * 4 + z) (min (y * 16 + z * 4 + x) (z * 16 + x * 4 + y))
def cls6 : List Nat → List Nat
  | x :: y :: z :: _ => [c3 x y z]
  | [x, y] => [c3 x y 0, c3 x y 1, c3 x y 2, c3 x y 3]
  | _ => []
def code6 (u : List Nat) : Nat := c3 (u.getD 0 0) (u.getD 1 0) (u.getD 2 0)
def at6 (u : List Nat) (j : Nat) : Nat := u.getD (j % 6) 0
theorem rows6_nodup : (rows6.map code6).Nodup := by decide +kernel
theorem rows6_lt : ∀ u ∈ rows6, ∀ o, o < 6 → at6 u o < 4 := by decide +kernel
theorem rows6_turn : ∀ u ∈ rows6, ∀ o, o < 6 → c3 (at6 u o) (at6 u (o + 1)) (at6 u (o + 2)) = code6 u := by decide +kernel
theorem at6_mod (u : List Nat) (o i : Nat) : at6 u (o + i) = at6 u (o % 6 + i) := by unfold at6; congr 1; omega
theorem at6_lt {u : List Nat} (hu : u ∈ rows6) (j : Nat) : at6 u j < 4 := by
  have := rows6_lt u hu (j % 6) (Nat.mod_lt _ (by omega))
  have e := at6_mod u j 0
  simp only [Nat.add_zero] at e
  omega
def two (L : List Wd) : Nat := (L.filter fun r => r.length == 2).length
theorem cls6_len (L : List Wd) : (L.flatMap fun r => cls6 (r.map un97)).length ≤ L.length + 3 * two L := by
  induction L with
  | nil => exact Nat.le_refl _
  | cons r L ih =>
    unfold two at *
    rw [List.flatMap_cons, List.length_append, List.filter_cons]
    generalize (L.flatMap fun r => cls6 (r.map un97)).length = n at *
    rcases r with _ | ⟨x, _ | ⟨y, _ | ⟨z, r⟩⟩⟩
    · simp [cls6]; omega
    · simp [cls6]; omega
    · simp [cls6]; omega
    · simp [cls6]; omega
theorem short4 {L : List Wd} {N : Nat} (hN : pwA L 4 N [] = 0) (hlen : L.length ≤ 12) (hl2 : ∀ r ∈ L, 2 ≤ r.length) : 2 ≤ two L := by
  have h1 := nodup_len (m := L.flatMap fun r => cls6 (r.map un97)) rows6_nodup (fun c hc => by
    obtain ⟨u, hu, rfl⟩ := List.mem_map.1 hc
    obtain ⟨r, hr, o, ho⟩ := row_hit (by omega) hN (f := at6 u) (at6_lt hu)
    refine List.mem_flatMap.2 ⟨r, hr, ?_⟩
    have hl := hl2 r hr
    have ht := rows6_turn u hu (o % 6) (Nat.mod_lt _ (by omega))
    have g0 := ho 0 (by omega)
    have g1 := ho 1 (by omega)
    have g2 := ho 2
    rw [at6_mod] at g0 g1
    rw [Nat.add_zero] at g0
    have h3 := at6_lt hu (o % 6 + 2)
    have hlm : 2 ≤ (r.map un97).length := by simpa using hl
    have hle : (r.map un97).length = r.length := by simp
    generalize r.map un97 = z at *
    match z, hlm with
    | [x, y], _ =>
      simp at g0 g1
      subst g0 g1
      rw [← ht]
      generalize at6 u (o % 6 + 2) = q at *
      have : q = 0 ∨ q = 1 ∨ q = 2 ∨ q = 3 := by omega
      rcases this with rfl | rfl | rfl | rfl <;> simp [cls6]
    | x :: y :: z :: z', _ =>
      have g2 := g2 (by simp at hle; omega)
      rw [at6_mod] at g2
      have e0 : x = at6 u (o % 6) := by simpa using g0
      have e1 : y = at6 u (o % 6 + 1) := by simpa using g1
      have e2 : z = at6 u (o % 6 + 2) := by simpa using g2
      rw [← ht, e0, e1, e2]
      simp [cls6])
  have e : (rows6.map code6).length = 18 := by decide +kernel
  rw [e] at h1
  have h2 := cls6_len L
  omega
/-- the states -/
def stQ (L : List Wd) (k : Nat) : List Wd := [] :: (List.range k).map (fun x => [lt97 x]) ++ L.flatMap fun r => (List.range (r.length - 2)).map fun i => r.take (i + 2)
theorem stQ_has {L : List Wd} {k : Nat} {q : Wd} (h : inQ L q) (hl : ∀ y ∈ q, ∃ x, x < k ∧ y = lt97 x) : q ∈ stQ L k := by
  unfold stQ
  rcases h with rfl | ⟨r, hr, y, t, e⟩
  · simp
  · match q, hl, e with
    | [], _, _ => simp
    | [z], hl, _ =>
      obtain ⟨x, hx, rfl⟩ := hl z List.mem_cons_self
      apply List.mem_append_left
      apply List.mem_cons_of_mem
      exact List.mem_map.2 ⟨x, List.mem_range.2 hx, rfl⟩
    | z :: z2 :: q', _, e =>
      apply List.mem_append_right
      refine List.mem_flatMap.2 ⟨r, hr, List.mem_map.2 ⟨q'.length, List.mem_range.2 ?_, ?_⟩⟩
      · rw [e]; simp
      · rw [e]; simp
def exSum (L : List Wd) : Nat := (L.map fun r => r.length - 2).sum
theorem stQ_len (L : List Wd) (k : Nat) : (stQ L k).length = 1 + k + exSum L := by
  unfold stQ exSum
  rw [List.length_append, List.length_flatMap]
  simp
  omega
theorem exSum_le {L : List Wd} (h8 : ∀ r ∈ L, r.length ≤ 8) : exSum L + 6 * two L ≤ 6 * L.length := by
  induction L with
  | nil => exact Nat.le_refl _
  | cons r L ih =>
    have h1 := ih fun x hx => h8 x (List.mem_cons_of_mem _ hx)
    have h2 := h8 r List.mem_cons_self
    unfold exSum two at *
    rw [List.filter_cons]
    simp only [List.map_cons, List.sum_cons, List.length_cons]
    by_cases h3 : r.length = 2
    · simp [h3]; omega
    · simp [h3]; omega
theorem exSum_one {L : List Wd} (h8 : ∀ r ∈ L, r.length ≤ 8) {r : Wd} (hr : r ∈ L) : exSum L + 6 ≤ 6 * L.length + (r.length - 2) := by
  have hp := List.perm_cons_erase hr
  have e : exSum L = (r.length - 2) + exSum (L.erase r) := by
    unfold exSum
    have := (hp.map fun r => r.length - 2).sum_nat
    rw [this]
    simp
  have h1 := exSum_le (L := L.erase r) fun x hx => h8 x (List.mem_of_mem_erase hx)
  have h2 := List.length_erase_of_mem hr
  have h3 : 0 < L.length := List.length_pos_of_mem hr
  omega
theorem fil_len (l : List Nat) (p : Nat → Bool) {y : Nat} (hy : y ∈ l) (h : p y = false) : (l.filter p).length + 1 ≤ l.length := by
  induction l with
  | nil => cases hy
  | cons a l ih =>
    rw [List.filter_cons]
    rcases List.mem_cons.1 hy with rfl | hy
    · rw [h]
      have := List.length_filter_le p l
      simp only [List.length_cons]
      simp
      omega
    · have := ih hy
      split
      · simp only [List.length_cons]; omega
      · simp only [List.length_cons]; omega
def topB : Nat := 4611686018427387903
theorem bons_ok : bon 2 76 ≤ topB ∧ bon 3 71 ≤ topB ∧ bon 4 65 ≤ topB := by decide +kernel
/-- all words that avoid twelve words are at most 2^62 - 1, if they are finitely many -/
theorem all_le {L : List Wd} {k N : Nat} (hk : k ≤ 4) (hN : pwA L k N [] = 0) (h12 : L.length ≤ 12) (h8 : ∀ r ∈ L, r.length ≤ 8) (hne : ∀ r ∈ L, r ≠ []) (hlet : ∀ r ∈ L, ∀ y ∈ r, ∃ x, x < k ∧ y = lt97 x) : tot L k N [] ≤ topB := by
  obtain ⟨b2, b3, b4⟩ := bons_ok
  have hd0 : ∀ v, ((List.range k).filter fun x => okL L v x).length ≤ k := fun v => by
    have := List.length_filter_le (fun x => okL L v x) (List.range k)
    simpa using this
  have hq := stQ_len L k
  have hs := exSum_le h8
  by_cases hdead : ∃ r ∈ L, r.length = 1
  · obtain ⟨r, hr, hr1⟩ := hdead
    obtain ⟨y, rfl⟩ := List.length_eq_one_iff.1 hr1
    obtain ⟨x, hx, rfl⟩ := hlet _ hr y List.mem_cons_self
    have hd : ∀ v, ((List.range k).filter fun x => okL L v x).length ≤ k - 1 := fun v => by
      have h1 := fil_len (List.range k) (fun x => okL L v x) (List.mem_range.2 hx) (by
        unfold okL
        have : endsL L (v ++ [lt97 x]) = true := endsL_iff.2 ⟨_, hr, List.suffix_append _ _⟩
        rw [this]; rfl)
      simp at h1
      omega
    have h1 := exSum_one h8 hr
    simp at h1
    by_cases h4 : k = 4
    · subst h4
      exact Nat.le_trans (tot_le hne (by omega) hN (fun q hq hl => stQ_has hq hl) hd) (Nat.le_trans (bon_mono 3 (by omega)) b3)
    · exact Nat.le_trans (tot_le hne hk hN (fun q hq hl => stQ_has hq hl) (d := 2) (fun v => by have := hd v; omega)) (Nat.le_trans (bon_mono 2 (by omega)) b2)
  · have hl2 : ∀ r ∈ L, 2 ≤ r.length := fun r hr => by
      have h1 : r.length ≠ 1 := fun e => hdead ⟨r, hr, e⟩
      have h2 : r.length ≠ 0 := fun e => hne r hr (List.length_eq_zero_iff.1 e)
      omega
    by_cases h4 : k = 4
    · subst h4
      have h5 := short4 hN h12 hl2
      exact Nat.le_trans (tot_le hne (by omega) hN (fun q hq hl => stQ_has hq hl) hd0) (Nat.le_trans (bon_mono 4 (by omega)) b4)
    · by_cases h3 : k = 3
      · subst h3
        obtain ⟨r, hr, hr3⟩ := short3 hN h12
        have h1 := exSum_one h8 hr
        exact Nat.le_trans (tot_le hne (by omega) hN (fun q hq hl => stQ_has hq hl) hd0) (Nat.le_trans (bon_mono 3 (by omega)) b3)
      · exact Nat.le_trans (tot_le hne hk hN (fun q hq hl => stQ_has hq hl) (d := 2) (fun v => by have := hd0 v; omega)) (Nat.le_trans (bon_mono 2 (by omega)) b2)
end Go.Proofs.YtmgdglghjlggnaaGreat
namespace Go.Proofs.YtmgdglghjlggnaaGreat
open Go.RowKit
set_option linter.unusedVariables false
def leftsR (R : List RulD) : List Wd := R.map fun r => r.1.data.toList
theorem endsR_L (R : List RulD) (v : ByteArray) : endsR R v = endsL (leftsR R) v.data.toList := by
  unfold endsR endsL leftsR
  rw [List.any_map]
  rfl
theorem app_lt (e : ByteArray) (x : Nat) : (e ++ letterN x).data.toList = e.data.toList ++ [lt97 x] := by
  rw [ByteArray.data_append, Array.toList_append]
  congr 1
theorem okX_L (R : List RulD) (e : ByteArray) (x : Nat) : okX R e x = okL (leftsR R) e.data.toList x := by
  unfold okX okL
  rw [endsR_L, app_lt]
theorem cut_suf (R : List RulD) (v : ByteArray) : (cutR R v).data.toList <:+ v.data.toList := by
  unfold cutR
  rw [ByteArray.data_extract, Array.toList_extract, List.extract_eq_take_drop]
  have h : v.data.toList.length = v.size := rfl
  rw [List.take_of_length_le (by rw [List.length_drop]; omega)]
  exact List.drop_suffix _ _
theorem cut_len (R : List RulD) (v : ByteArray) : (cutR R v).data.toList.length = min (keepR R) v.size := by
  have h : ∀ z : ByteArray, z.data.toList.length = z.size := fun z => rfl
  rw [h]
  unfold cutR
  rw [ByteArray.size_extract]
  omega
theorem lsTo_at {R : List RulD} : ∀ {j i : Nat}, i < j → (nthR R i).1.size ≤ lsTo R j
  | 0, i, h => by omega
  | j + 1, i, h => by
    show _ ≤ max _ _
    by_cases e : i = j
    · subst e; omega
    · have := lsTo_at (R := R) (j := j) (i := i) (by omega); omega
theorem left_le {R : List RulD} {r : RulD} (h : r ∈ R) : r.1.size ≤ lsL R := by
  obtain ⟨i, hi, rfl⟩ := mem_nthR h
  exact lsTo_at hi
theorem inQ_short {R : List RulD} {q : Wd} (h : inQ (leftsR R) q) : q.length ≤ keepR R := by
  rcases h with rfl | ⟨r, hr, y, t, e⟩
  · simp
  · obtain ⟨z, hz, rfl⟩ := List.mem_map.1 hr
    have h1 := left_le hz
    have h2 : z.1.data.toList.length = z.1.size := rfl
    rw [e] at h2
    simp at h2
    unfold keepR
    omega
theorem cut_keeps (R : List RulD) (v : ByteArray) : (cutR R v).data.toList <:+ v.data.toList ∧ ∀ q, inQ (leftsR R) q → q <:+ v.data.toList → q <:+ (cutR R v).data.toList := by
  refine ⟨cut_suf R v, fun q hq hs => List.suffix_of_suffix_length_le hs (cut_suf R v) ?_⟩
  rw [cut_len]
  have h1 := inQ_short hq
  have h2 := hs.length_le
  have h3 : v.data.toList.length = v.size := rfl
  omega
/-- no Left is empty -/
def LeftsP (R : List RulD) : Prop := ∀ r ∈ leftsR R, r ≠ []
theorem paths_pw {R : List RulD} (hne : LeftsP R) (k : Nat) : ∀ (m : Nat) (e : ByteArray), paths R k m e = pwA (leftsR R) k m e.data.toList
  | 0, e => rfl
  | m + 1, e => by
    unfold paths pwA
    congr 1
    apply List.map_congr_left
    intro x _
    rw [okX_L, paths_pw hne k m (nxtX R e x)]
    have h := keeps_pw hne k m (cut_keeps R (e ++ letterN x))
    rw [app_lt] at h
    unfold nxtX
    rw [← h]
theorem paths_cut {R : List RulD} (hne : LeftsP R) (k m : Nat) (v : ByteArray) : paths R k m (cutR R v) = paths R k m v := by
  rw [paths_pw hne, paths_pw hne]; exact (keeps_pw hne k m (cut_keeps R v)).symm
theorem paths_nxt {R : List RulD} (hne : LeftsP R) (k m : Nat) (v : ByteArray) (x : Nat) : paths R k m (nxtX R v x) = paths R k m (v ++ letterN x) := paths_cut hne k m _
/-- what a system that is in order gives -/
structure SysG (R : List RulD) (k : Nat) : Prop where
  k4 : k ≤ 4
  few : R.length ≤ 12
  ne : LeftsP R
  le8 : ∀ r ∈ leftsR R, r.length ≤ 8
  let4 : ∀ r ∈ leftsR R, ∀ y ∈ r, ∃ x, x < k ∧ y = lt97 x
theorem sysG_of {k : Nat} {R : List RulD} (h : sysP (k : Int) R) : SysG R k := by
  obtain ⟨⟨⟨⟨_, hk⟩, h12⟩, hr⟩, _⟩ := h
  refine ⟨by omega, h12, fun r hm => ?_, fun r hm => ?_, fun r hm y hy => ?_⟩
  all_goals obtain ⟨z, hz, rfl⟩ := List.mem_map.1 hm
  · have h1 := (hr z hz).2
    intro e
    apply h1
    have h2 : z.1.data.toList.length = z.1.size := rfl
    rw [e] at h2
    exact h2.symm
  · exact (hr z hz).1.2.1
  · have h1 := (hr z hz).1.1.1
    unfold wordOkB allB at h1
    simp only [Bool.and_eq_true, List.all_eq_true] at h1
    have h2 := letB_true (h1.2.2 y hy)
    refine ⟨y.toNat - 97, by omega, ?_⟩
    unfold lt97
    apply UInt8.toNat_inj.1
    have := y.toNat_lt
    simp
    omega
/-- all reduced words together are fewer than 2^62, if they are finitely many -/
theorem paths_all {R : List RulD} {k N : Nat} (G : SysG R k) (hN : paths R k N ⟨#[]⟩ = 0) : ((List.range N).map fun m => paths R k m ⟨#[]⟩).sum ≤ topB := by
  rw [paths_pw G.ne] at hN
  have h := all_le G.k4 hN (by simpa [leftsR] using G.few) G.le8 G.ne G.let4
  have e : tot (leftsR R) k N [] = ((List.range N).map fun m => paths R k m ⟨#[]⟩).sum := by
    unfold tot
    congr 1
    apply List.map_congr_left
    intro m _
    exact (paths_pw G.ne k m ⟨#[]⟩).symm
  rw [← e]; exact h
/-- a step from an end to the next one -/
def StepE (R : List RulD) (k : Nat) (e e' : ByteArray) : Prop := ∃ x, x < k ∧ okX R e x = true ∧ nxtX R e x = e'
theorem paths_step {R : List RulD} {k : Nat} {e e' : ByteArray} (h : StepE R k e e') (m : Nat) : paths R k m e' ≤ paths R k (m + 1) e := by
  obtain ⟨x, hx, ho, rfl⟩ := h
  have := mem_sum (f := fun x => if okX R e x = true then paths R k m (nxtX R e x) else 0) (List.mem_range.2 hx)
  simp only [ho, if_true] at this
  exact this
theorem paths_zero {R : List RulD} {k : Nat} : ∀ {m : Nat} {e : ByteArray}, paths R k m e = 0 → paths R k (m + 1) e = 0
  | 0, e, h => by cases h
  | m + 1, e, h => by
    have h1 : ∀ x, x < k → okX R e x = true → paths R k m (nxtX R e x) = 0 := fun x hx ho => by
      have := paths_step (e' := nxtX R e x) ⟨x, hx, ho, rfl⟩ m
      omega
    rw [paths_succ]
    unfold pTo
    refine Eq.trans ?_ (sum_zero (List.range k))
    congr 1
    apply List.map_congr_left
    intro x hx
    split
    · rename_i ho
      exact paths_zero (h1 x (List.mem_range.1 hx) ho)
    · rfl
theorem paths_zero_le {R : List RulD} {k m n : Nat} {e : ByteArray} (h : paths R k m e = 0) (hmn : m ≤ n) : paths R k n e = 0 := by
  induction hmn with
  | refl => exact h
  | step _ ih => exact paths_zero ih
/-- h is the greatest number of letters behind e, or -1 if there is none -/
def HtIs (R : List RulD) (k : Nat) (e : ByteArray) (h : Int) : Prop := (h = -1 ∧ ∀ N, paths R k N e ≠ 0) ∨ ∃ n : Nat, h = (n : Int) ∧ paths R k n e ≠ 0 ∧ paths R k (n + 1) e = 0
theorem least_ex {P : Nat → Prop} : ∀ n, P n → ∃ m, P m ∧ ∀ j, j < m → ¬ P j
  | 0, h => ⟨0, h, fun j hj => by omega⟩
  | n + 1, h => by
    by_cases h1 : ∃ j, j < n + 1 ∧ P j
    · obtain ⟨j, hj, hp⟩ := h1
      exact least_lt j hj hp
    · exact ⟨n + 1, h, fun j hj hp => h1 ⟨j, hj, hp⟩⟩
where
  least_lt {P : Nat → Prop} {n : Nat} (j : Nat) (hj : j < n + 1) (hp : P j) : ∃ m, P m ∧ ∀ j, j < m → ¬ P j := by
    induction j using Nat.strongRecOn with
    | ind j ih =>
      by_cases h1 : ∃ i, i < j ∧ P i
      · obtain ⟨i, hi, hpi⟩ := h1
        exact ih i hi (by omega) hpi
      · exact ⟨j, hp, fun i hi hpi => h1 ⟨i, hi, hpi⟩⟩
theorem HtIs.ex (R : List RulD) (k : Nat) (e : ByteArray) : ∃ h, HtIs R k e h := by
  by_cases h : ∃ N, paths R k N e = 0
  · obtain ⟨N, hN⟩ := h
    obtain ⟨m, hm, hl⟩ := least_ex (P := fun N => paths R k N e = 0) N hN
    cases m with
    | zero => cases hm
    | succ m => exact ⟨_, .inr ⟨m, rfl, hl m (by omega), hm⟩⟩
  · exact ⟨_, .inl ⟨rfl, fun N hN => h ⟨N, hN⟩⟩⟩
theorem HtIs.uniq {R : List RulD} {k : Nat} {e : ByteArray} {h h' : Int} (a : HtIs R k e h) (b : HtIs R k e h') : h = h' := by
  rcases a with ⟨a1, a2⟩ | ⟨n, a1, a2, a3⟩ <;> rcases b with ⟨b1, b2⟩ | ⟨m, b1, b2, b3⟩
  · rw [a1, b1]
  · exact absurd b3 (a2 _)
  · exact absurd a3 (b2 _)
  · have : n = m := by
      rcases Nat.lt_trichotomy n m with h | h | h
      · exact absurd (paths_zero_le a3 (show n + 1 ≤ m by omega)) b2
      · exact h
      · exact absurd (paths_zero_le b3 (show m + 1 ≤ n by omega)) a2
    rw [a1, b1, this]
theorem HtIs.ge {R : List RulD} {k : Nat} {e : ByteArray} {h : Int} (a : HtIs R k e h) : -1 ≤ h := by
  rcases a with ⟨a1, _⟩ | ⟨n, a1, _⟩ <;> omega
/-- behind a step the height is less -/
theorem HtIs.step {R : List RulD} {k : Nat} {e e' : ByteArray} {h h' : Int} (a : HtIs R k e h) (h0 : 0 ≤ h) (b : HtIs R k e' h') (s : StepE R k e e') : 0 ≤ h' ∧ h' < h := by
  rcases a with ⟨a1, _⟩ | ⟨n, a1, a2, a3⟩
  · omega
  · have h1 := paths_step s n
    rw [a3] at h1
    rcases b with ⟨b1, b2⟩ | ⟨m, b1, b2, b3⟩
    · exact absurd (Nat.le_zero.1 h1) (b2 n)
    · refine ⟨by omega, ?_⟩
      by_cases hmn : n ≤ m
      · exact absurd (paths_zero_le (Nat.le_zero.1 h1) hmn) b2
      · omega
theorem HtIs.inf {R : List RulD} {k : Nat} {e e' : ByteArray} (s : StepE R k e e') (b : HtIs R k e' (-1)) : HtIs R k e (-1) := by
  obtain ⟨h, a⟩ := HtIs.ex R k e
  by_cases h0 : 0 ≤ h
  · have := (a.step h0 b s).1; omega
  · have := a.ge
    have : h = -1 := by omega
    rw [← this]; exact a
/-- steps, at least one -/
inductive StepsE (R : List RulD) (k : Nat) : ByteArray → ByteArray → Prop
  | one {a b} : StepE R k a b → StepsE R k a b
  | more {a b c} : StepsE R k a b → StepE R k b c → StepsE R k a c
theorem HtIs.steps {R : List RulD} {k : Nat} {e e' : ByteArray} (s : StepsE R k e e') : ∀ {h h' : Int}, HtIs R k e h → 0 ≤ h → HtIs R k e' h' → 0 ≤ h' ∧ h' < h := by
  induction s with
  | one s => exact fun a h0 b => a.step h0 b s
  | @more b c s1 s2 ih =>
    intro h h' a h0 b'
    obtain ⟨h1, a1⟩ := HtIs.ex R k b
    have i1 := ih a h0 a1
    have i2 := a1.step i1.1 b' s2
    omega
theorem HtIs.cycle {R : List RulD} {k : Nat} {e : ByteArray} (s : StepsE R k e e) : HtIs R k e (-1) := by
  obtain ⟨h, a⟩ := HtIs.ex R k e
  by_cases h0 : 0 ≤ h
  · have := (HtIs.steps s a h0 a).2; omega
  · have := a.ge
    have : h = -1 := by omega
    rw [← this]; exact a
/-- the heights behind the first j letters -/
def MostTo (R : List RulD) (k : Nat) (e : ByteArray) (j : Nat) (most : Int) : Prop :=
  (∀ x, x < j → okX R e x = true → ∃ h, HtIs R k (nxtX R e x) h ∧ 0 ≤ h ∧ h + 1 ≤ most) ∧ (most = 0 ∨ ∃ x, x < j ∧ okX R e x = true ∧ HtIs R k (nxtX R e x) (most - 1) ∧ 1 ≤ most)
theorem MostTo.start (R : List RulD) (k : Nat) (e : ByteArray) : MostTo R k e 0 0 := ⟨fun x hx => by omega, .inl rfl⟩
theorem MostTo.no {R : List RulD} {k : Nat} {e : ByteArray} {j : Nat} {most : Int} (h : MostTo R k e j most) (hx : okX R e j = false) : MostTo R k e (j + 1) most := by
  refine ⟨fun x hx1 ho => ?_, ?_⟩
  · by_cases e1 : x = j
    · subst e1; rw [hx] at ho; cases ho
    · exact h.1 x (by omega) ho
  · rcases h.2 with h2 | ⟨x, h3, h4⟩
    · exact .inl h2
    · exact .inr ⟨x, by omega, h4⟩
theorem MostTo.yes {R : List RulD} {k : Nat} {e : ByteArray} {j : Nat} {most d : Int} (h : MostTo R k e j most) (hx : okX R e j = true) (hd : HtIs R k (nxtX R e j) d) (h0 : 0 ≤ d) : MostTo R k e (j + 1) (max most (d + 1)) := by
  have hm : 0 ≤ most := by rcases h.2 with h2 | ⟨_, _, _, _, h2⟩ <;> omega
  refine ⟨fun x hx1 ho => ?_, ?_⟩
  · by_cases e1 : x = j
    · subst e1; exact ⟨d, hd, h0, by omega⟩
    · obtain ⟨h', i1, i2, i3⟩ := h.1 x (by omega) ho
      exact ⟨h', i1, i2, by omega⟩
  · by_cases h5 : d + 1 ≤ most
    · rw [Int.max_eq_left h5]
      rcases h.2 with h2 | ⟨x, h3, h4⟩
      · exact .inl h2
      · exact .inr ⟨x, by omega, h4⟩
    · rw [Int.max_eq_right (by omega)]
      exact .inr ⟨j, by omega, hx, by rw [Int.add_sub_cancel]; exact hd, by omega⟩
theorem MostTo.done {R : List RulD} {k : Nat} {e : ByteArray} {most : Int} (h : MostTo R k e k most) : HtIs R k e most := by
  have hm : 0 ≤ most := by rcases h.2 with h2 | ⟨_, _, _, _, h2⟩ <;> omega
  obtain ⟨n, rfl⟩ := Int.eq_ofNat_of_zero_le hm
  refine .inr ⟨n, rfl, ?_, ?_⟩
  · rcases h.2 with h2 | ⟨x, h3, h4, h5, h6⟩
    · have : n = 0 := by omega
      subst this
      intro h; cases h
    · obtain ⟨m, rfl⟩ : ∃ m, n = m + 1 := ⟨n - 1, by omega⟩
      rcases h5 with ⟨i1, _⟩ | ⟨m', i1, i2, i3⟩
      · omega
      · have : m' = m := by omega
        subst this
        have h7 := paths_step (e' := nxtX R e x) ⟨x, h3, h4, rfl⟩ m'
        omega
  · rw [paths_succ]
    unfold pTo
    refine Eq.trans ?_ (sum_zero (List.range k))
    congr 1
    apply List.map_congr_left
    intro x hx
    split
    · rename_i ho
      obtain ⟨h', i1, i2, i3⟩ := h.1 x (List.mem_range.1 hx) ho
      rcases i1 with ⟨j1, _⟩ | ⟨m', j1, j2, j3⟩
      · omega
      · exact paths_zero_le j3 (by omega)
    · rfl
/-- the ends that there may be -/
def allUp (k : Nat) : Nat → List Wd
  | 0 => [[]]
  | n + 1 => [] :: (List.range k).flatMap fun x => (allUp k n).map fun v => lt97 x :: v
theorem sum_const (l : List Nat) (c : Nat) : (l.map fun _ => c).sum = l.length * c := by
  induction l with
  | nil => simp
  | cons a l ih => simp only [List.map_cons, List.sum_cons, ih, List.length_cons, Nat.add_mul]; omega
theorem allUp_len {k : Nat} (hk : k ≤ 4) : ∀ n, 3 * (allUp k n).length + 1 ≤ 4 ^ (n + 1)
  | 0 => by simp [allUp]
  | n + 1 => by
    have ih := allUp_len hk n
    have h1 : (allUp k (n + 1)).length = k * (allUp k n).length + 1 := by
      show (_ :: _).length = _
      rw [List.length_cons, List.length_flatMap]
      simp only [List.length_map]
      rw [sum_const, List.length_range]
    have h2 : k * (allUp k n).length ≤ 4 * (allUp k n).length := Nat.mul_le_mul_right _ hk
    rw [h1, Nat.pow_succ]
    omega
theorem allUp_has {k : Nat} : ∀ {n : Nat} {v : Wd}, v.length ≤ n → (∀ y ∈ v, ∃ x, x < k ∧ y = lt97 x) → v ∈ allUp k n
  | 0, v, h, _ => by
    have := List.length_eq_zero_iff.1 (Nat.le_zero.1 h)
    subst this
    exact List.mem_cons_self
  | n + 1, [], h, _ => List.mem_cons_self
  | n + 1, y :: v, h, hl => by
    obtain ⟨x, hx, rfl⟩ := hl y List.mem_cons_self
    have ih := allUp_has (k := k) (n := n) (v := v) (by simpa using h) fun z hz => hl z (List.mem_cons_of_mem _ hz)
    unfold allUp
    apply List.mem_cons_of_mem
    exact List.mem_flatMap.2 ⟨x, List.mem_range.2 hx, List.mem_map.2 ⟨v, ih, rfl⟩⟩
/-- an end that there may be -/
def EndP (k : Nat) (e : ByteArray) : Prop := e.size ≤ 7 ∧ ∀ y ∈ e.data.toList, ∃ x, x < k ∧ y = lt97 x
theorem EndP.nil (k : Nat) : EndP k ⟨#[]⟩ := ⟨Nat.zero_le _, fun y hy => by cases hy⟩
theorem keep7 {R : List RulD} {k : Nat} (G : SysG R k) : keepR R ≤ 7 := by
  have key : ∀ j, j ≤ R.length → lsTo R j ≤ 8 := fun j => by
    induction j with
    | zero => intro _; exact Nat.zero_le _
    | succ j ih =>
      intro h
      have h1 := ih (by omega)
      have h2 := G.le8 (nthR R j).1.data.toList (List.mem_map.2 ⟨_, nthR_mem (by omega), rfl⟩)
      have h3 : (nthR R j).1.data.toList.length = (nthR R j).1.size := rfl
      show max _ _ ≤ _
      omega
  have h1 := key R.length (Nat.le_refl _)
  unfold keepR lsL
  omega
theorem EndP.nxt {R : List RulD} {k : Nat} (G : SysG R k) {e : ByteArray} (h : EndP k e) {x : Nat} (hx : x < k) : EndP k (nxtX R e x) := by
  refine ⟨Nat.le_trans (cutR_size _ _) (keep7 G), fun y hy => ?_⟩
  have h1 := (cut_suf R (e ++ letterN x)).subset hy
  rw [app_lt] at h1
  rcases List.mem_append.1 h1 with h1 | h1
  · exact h.2 y h1
  · exact ⟨x, hx, by simpa using h1⟩
theorem EndP.step {R : List RulD} {k : Nat} (G : SysG R k) {e e' : ByteArray} (h : EndP k e) (s : StepE R k e e') : EndP k e' := by
  obtain ⟨x, hx, _, rfl⟩ := s
  exact h.nxt G hx
/-- different ends are not many -/
theorem ends_few {k : Nat} (hk : k ≤ 4) {l : List ByteArray} (hn : l.Nodup) (h : ∀ e ∈ l, EndP k e) : l.length ≤ 21845 := by
  have h1 := nodup_len (l := l.map fun e => e.data.toList) (m := allUp k 7) (by
    unfold List.Nodup at *
    rw [List.pairwise_map]
    exact hn.imp fun hab e => hab (ba_ext0 e)) (fun v hv => by
    obtain ⟨e, he, rfl⟩ := List.mem_map.1 hv
    exact allUp_has (h e he).1 (h e he).2)
  have h2 := allUp_len hk 7
  have h3 : (4 : Nat) ^ (7 + 1) = 65536 := by decide
  rw [List.length_map] at h1
  omega
/-- a way of ends from the highest one down -/
theorem HtIs.way {R : List RulD} {k : Nat} (G : SysG R k) : ∀ (n : Nat) (e : ByteArray), EndP k e → HtIs R k e (n : Int) → ∃ l : List ByteArray, l.length = n + 1 ∧ l.Nodup ∧ (∀ t ∈ l, EndP k t ∧ ∃ h, HtIs R k t h ∧ h ≤ (n : Int))
  | 0, e, he, h => ⟨[e], rfl, by simp, fun t ht => by rw [List.mem_singleton.1 ht]; exact ⟨he, 0, h, by omega⟩⟩
  | n + 1, e, he, h => by
    have hp : paths R k (n + 1) e ≠ 0 := by
      rcases h with ⟨h1, _⟩ | ⟨m, h1, h2, _⟩
      · omega
      · have : m = n + 1 := by omega
        rw [← this]; exact h2
    have hex : ∃ x, x < k ∧ okX R e x = true ∧ paths R k n (nxtX R e x) ≠ 0 := by
      by_cases hc : ∃ x, x < k ∧ okX R e x = true ∧ paths R k n (nxtX R e x) ≠ 0
      · exact hc
      · exfalso
        apply hp
        rw [paths_succ]
        unfold pTo
        refine Eq.trans ?_ (sum_zero (List.range k))
        congr 1
        apply List.map_congr_left
        intro x hx
        split
        · rename_i ho
          by_cases h0 : paths R k n (nxtX R e x) = 0
          · exact h0
          · exact absurd ⟨x, List.mem_range.1 hx, ho, h0⟩ hc
        · rfl
    obtain ⟨x, hx, ho, hpx⟩ := hex
    obtain ⟨h', a⟩ := HtIs.ex R k (nxtX R e x)
    have hs := h.step (by omega) a ⟨x, hx, ho, rfl⟩
    have hn : h' = (n : Int) := by
      rcases a with ⟨a1, _⟩ | ⟨m, a1, a2, a3⟩
      · omega
      · by_cases hm : m < n
        · exact absurd (paths_zero_le a3 (show m + 1 ≤ n by omega)) hpx
        · omega
    subst hn
    obtain ⟨l, l1, l2, l3⟩ := HtIs.way G n (nxtX R e x) (he.nxt G hx) a
    refine ⟨e :: l, by rw [List.length_cons, l1], List.nodup_cons.2 ⟨fun hm => ?_, l2⟩, fun t ht => ?_⟩
    · obtain ⟨_, h2, b, hb⟩ := l3 e hm
      have := h.uniq b
      omega
    · rcases List.mem_cons.1 ht with rfl | ht
      · exact ⟨he, _, h, Int.le_refl _⟩
      · obtain ⟨q1, h2, b, hb⟩ := l3 t ht
        exact ⟨q1, h2, b, by omega⟩
theorem HtIs.le {R : List RulD} {k : Nat} (G : SysG R k) {e : ByteArray} (he : EndP k e) {h : Int} (a : HtIs R k e h) : h ≤ 21844 := by
  by_cases h0 : 0 ≤ h
  · obtain ⟨n, rfl⟩ := Int.eq_ofNat_of_zero_le h0
    obtain ⟨l, l1, l2, l3⟩ := HtIs.way G n e he a
    have := ends_few G.k4 l2 fun t ht => (l3 t ht).1
    omega
  · omega
/-- the way to an end that a search has come -/
structure WayE (R : List RulD) (k : Nat) (way : List ByteArray) (e : ByteArray) : Prop where
  nodup : way.Nodup
  ends : ∀ t ∈ way, EndP k t
  steps : ∀ t ∈ way, StepsE R k t e
  here : EndP k e
theorem WayE.start (R : List RulD) (k : Nat) : WayE R k [] ⟨#[]⟩ := ⟨List.nodup_nil, fun t ht => (by cases ht), fun t ht => (by cases ht), EndP.nil k⟩
theorem WayE.few {R : List RulD} {k : Nat} (G : SysG R k) {way : List ByteArray} {e : ByteArray} (h : WayE R k way e) : way.length ≤ 21845 := ends_few G.k4 h.nodup h.ends
theorem WayE.on {R : List RulD} {k : Nat} (G : SysG R k) {way : List ByteArray} {e : ByteArray} (h : WayE R k way e) (hne : e ∉ way) {x : Nat} (hx : x < k) (ho : okX R e x = true) : WayE R k (way ++ [e]) (nxtX R e x) := by
  have s : StepE R k e (nxtX R e x) := ⟨x, hx, ho, rfl⟩
  refine ⟨?_, fun t ht => ?_, fun t ht => ?_, h.here.step G s⟩
  · rw [List.nodup_append]
    exact ⟨h.nodup, by simp, fun a ha b hb hab => hne (by rw [List.mem_singleton.1 hb] at hab; rw [← hab]; exact ha)⟩
  · rcases List.mem_append.1 ht with ht | ht
    · exact h.ends t ht
    · rw [List.mem_singleton.1 ht]; exact h.here
  · rcases List.mem_append.1 ht with ht | ht
    · exact .more (h.steps t ht) s
    · rw [List.mem_singleton.1 ht]; exact .one s
theorem WayE.cyc {R : List RulD} {k : Nat} {way : List ByteArray} {e : ByteArray} (h : WayE R k way e) (he : e ∈ way) : HtIs R k e (-1) := HtIs.cycle (h.steps e he)
end Go.Proofs.YtmgdglghjlggnaaGreat
