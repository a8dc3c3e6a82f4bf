/-
  The bound at twelve words of at most eight letters out of four: some of them are short.
-/
import Derived.Test.YtdhaebbfiaddnaaGreatDoorGre14
import Derived.Maps.Own
import Derived.Maps.OwnOps
import Derived.Maps.RangeWalk
import Derived.Maps.Views
import Derived.Test.YtdhaebbfiaddnaaGreatDoorGre13
namespace Go.Proofs.YtdhaebbfiaddnaaGreatDoor
open Go.RowKit Go.Maps Go.WideShapes
set_option linter.unusedVariables false
def keyL (e : ByteArray) : Lit := .string e.data.toList
theorem keyL_inj {a b : ByteArray} (h : keyL a = keyL b) : a = b := by
  unfold keyL at h
  exact ba_ext0 (by simpa using h)
theorem keyL_same {a b : ByteArray} : (keyL a).sameKey (keyL b) = true ↔ a = b := by
  unfold keyL Lit.sameKey
  constructor
  · intro h; exact ba_ext0 (by simpa using h)
  · intro h; subst h; simp
def encW (p : ByteArray × Nat) : Lit × DataW Unit := (keyL p.1, .lit (.int .i64 (p.2 : Int)))
/-- the ends are different ones -/
def ApartW (V : WayD) : Prop := V.Pairwise (fun p q => p.1 ≠ q.1)
/-- a map holds these ways -/
def RepM (D : DataW Unit) (V : WayD) : Prop := ApartW V ∧ ∃ es, D = .map es ∧ es.Perm (V.map encW)
theorem RepM.nil : RepM (.map []) [] := ⟨List.Pairwise.nil, [], rfl, .refl _⟩
theorem ApartW.eq {V : WayD} (h : ApartW V) {i j : Nat} (hi : i < V.length) (hj : j < V.length) (he : V[i].1 = V[j].1) : i = j := by
  rcases Nat.lt_trichotomy i j with e | e | e
  · exact absurd he ((List.pairwise_iff_getElem.1 h) i j hi hj e)
  · exact e
  · exact absurd he.symm ((List.pairwise_iff_getElem.1 h) j i hj hi e)
theorem RepM.look {D : DataW Unit} {V : WayD} (h : RepM D V) (v : ByteArray) : (∃ i, ∃ hi : i < V.length, V[i].1 = v ∧ ∀ zd, D.atKey (keyL v) zd = .lit (.int .i64 (V[i].2 : Int))) ∨ ((∀ p ∈ V, p.1 ≠ v) ∧ ∀ zd, D.atKey (keyL v) zd = zd) := by
  obtain ⟨hap, es, rfl, hp⟩ := h
  by_cases hex : ∃ p ∈ V, p.1 = v
  · left
    obtain ⟨p, hpV, rfl⟩ := hex
    obtain ⟨i, hi, rfl⟩ := List.getElem_of_mem hpV
    refine ⟨i, hi, rfl, fun zd => ?_⟩
    have hm : encW V[i] ∈ es := hp.mem_iff.2 (List.mem_map_of_mem (List.getElem_mem hi))
    unfold DataW.atKey
    simp only []
    cases hf : es.find? (fun p => p.1.sameKey (keyL V[i].1)) with
    | none =>
      have := (List.find?_eq_none.1 hf) _ hm
      exact absurd (keyL_same.2 rfl) this
    | some q =>
      have h1 := List.find?_some hf
      have h2 := List.mem_of_find?_eq_some hf
      obtain ⟨r, hr, rfl⟩ := List.mem_map.1 (hp.mem_iff.1 h2)
      obtain ⟨j, hj, rfl⟩ := List.getElem_of_mem hr
      have h3 := keyL_same.1 h1
      have := hap.eq hj hi h3
      subst this
      rfl
  · right
    have hne : ∀ p ∈ V, p.1 ≠ v := fun p hp e => hex ⟨p, hp, e⟩
    refine ⟨hne, fun zd => ?_⟩
    unfold DataW.atKey
    simp only []
    cases hf : es.find? (fun p => p.1.sameKey (keyL v)) with
    | none => rfl
    | some q =>
      have h1 := List.find?_some hf
      have h2 := List.mem_of_find?_eq_some hf
      obtain ⟨r, hr, rfl⟩ := List.mem_map.1 (hp.mem_iff.1 h2)
      exact absurd (keyL_same.1 h1) (hne r hr)
theorem filter_enc (V : WayD) (v : ByteArray) : (V.map encW).filter (fun p => !p.1.sameKey (keyL v)) = (V.filter fun p => !decide (p.1 = v)).map encW := by
  rw [List.filter_map]
  congr 1
  apply List.filter_congr
  intro p _
  show (!(keyL p.1).sameKey (keyL v)) = _
  congr 1
  rw [Bool.eq_iff_iff, keyL_same, decide_eq_true_iff]
theorem RepM.new {D : DataW Unit} {V : WayD} (h : RepM D V) {v : ByteArray} (c : Nat) (hv : ∀ p ∈ V, p.1 ≠ v) : RepM (D.put (keyL v) (.lit (.int .i64 (c : Int)))) (V ++ [(v, c)]) := by
  obtain ⟨hap, es, rfl, hp⟩ := h
  refine ⟨?_, _, rfl, ?_⟩
  · unfold ApartW
    rw [List.pairwise_append]
    exact ⟨hap, List.pairwise_singleton _ _, fun p hp q hq => by rw [List.mem_singleton.1 hq]; exact hv p hp⟩
  · refine (insert_perm _ _).trans ?_
    have h1 := hp.filter (fun p => !p.1.sameKey (keyL v))
    have h2 : V.filter (fun p => !decide (p.1 = v)) = V := List.filter_eq_self.2 (fun p hp => by simpa using hv p hp)
    rw [filter_enc, h2] at h1
    refine (h1.cons _).trans ?_
    rw [List.map_append]
    exact (List.perm_append_singleton _ _).symm
theorem apart_split {V : WayD} (hap : ApartW V) {a : Nat} (ha : a < V.length) : V.filter (fun p => !decide (p.1 = V[a].1)) = V.take a ++ V.drop (a + 1) := by
  have e : V = V.take a ++ V[a] :: V.drop (a + 1) := by
    conv => lhs; rw [← List.take_append_drop a V, List.drop_eq_getElem_cons ha]
  have h1 : (V.take a).filter (fun p => !decide (p.1 = V[a].1)) = V.take a := List.filter_eq_self.2 (fun p hp => by
    obtain ⟨i, hi, rfl⟩ := List.getElem_of_mem hp
    rw [List.length_take] at hi
    rw [List.getElem_take]
    have : V[i].1 ≠ V[a].1 := fun e => by have := hap.eq (show i < V.length by omega) ha e; omega
    simpa using this)
  have h2 : (V.drop (a + 1)).filter (fun p => !decide (p.1 = V[a].1)) = V.drop (a + 1) := List.filter_eq_self.2 (fun p hp => by
    obtain ⟨i, hi, rfl⟩ := List.getElem_of_mem hp
    rw [List.length_drop] at hi
    rw [List.getElem_drop]
    have : V[a + 1 + i].1 ≠ V[a].1 := fun e => by have := hap.eq (show a + 1 + i < V.length by omega) ha e; omega
    simpa using this)
  have h3 : V.filter (fun p => !decide (p.1 = V[a].1)) = (V.take a ++ V[a] :: V.drop (a + 1)).filter (fun p => !decide (p.1 = V[a].1)) := by rw [← e]
  rw [h3, List.filter_append, List.filter_cons, h1, h2]
  simp
theorem RepM.old {D : DataW Unit} {V : WayD} (h : RepM D V) {a : Nat} (ha : a < V.length) (c : Nat) : RepM (D.put (keyL V[a].1) (.lit (.int .i64 ((V[a].2 + c : Nat) : Int)))) (addW V a c) := by
  obtain ⟨hap, es, rfl, hp⟩ := h
  refine ⟨?_, _, rfl, ?_⟩
  · unfold ApartW addW
    rw [List.pairwise_iff_getElem]
    intro i j hi hj hij
    have h1 := (List.pairwise_iff_getElem.1 hap) i j (by simpa using hi) (by simpa using hj) hij
    rw [List.getElem_modify, List.getElem_modify]
    split <;> split <;> exact h1
  · refine (insert_perm _ _).trans ?_
    have h1 := hp.filter (fun p => !p.1.sameKey (keyL V[a].1))
    rw [filter_enc, apart_split hap ha] at h1
    refine (h1.cons _).trans ?_
    rw [addW_split ha]
    simp only [List.map_append, List.map_cons, List.append_assoc, List.cons_append, List.nil_append]
    exact (List.perm_middle).symm
theorem RepM.has {D : DataW Unit} {V : WayD} (h : RepM D V) {p : ByteArray × Nat} (hp : p ∈ V) : Maps.has D (keyL p.1) = true := by
  obtain ⟨hap, es, rfl, hpm⟩ := h
  rw [has_eq, List.any_eq_true]
  exact ⟨encW p, hpm.mem_iff.2 (List.mem_map_of_mem hp), keyL_same.2 rfl⟩
/-- the ways that have come up -/
def doneW (left : Lit → Bool) (W : WayD) : WayD := W.filter fun p => !left (keyL p.1)
theorem doneW_start {D : DataW Unit} {W : WayD} (h : RepM D W) : doneW (Maps.has D) W = [] := by
  unfold doneW
  rw [List.filter_eq_nil_iff]
  intro p hp
  simp [h.has hp]
theorem doneW_end {left : Lit → Bool} {W : WayD} (h : ∀ kl, left kl = false) : doneW left W = W := by
  unfold doneW
  rw [List.filter_eq_self]
  intro p _
  simp [h]
theorem doneW_le (R : List RulD) (k m : Nat) (left : Lit → Bool) : ∀ W : WayD, wsum R k m (doneW left W) ≤ wsum R k m W
  | [] => Nat.le_refl _
  | p :: W => by
    have ih := doneW_le R k m left W
    unfold doneW at *
    rw [List.filter_cons]
    have e : ∀ V : WayD, wsum R k m (p :: V) = p.2 * paths R k m p.1 + wsum R k m V := fun V => by simp [wsum]
    split
    · rw [e, e]; omega
    · rw [e]; omega
theorem doneW_stepX (R : List RulD) (k m : Nat) {A B : WayD} {x : ByteArray × Nat} (hA : ∀ p ∈ A, p.1 ≠ x.1) (hB : ∀ p ∈ B, p.1 ≠ x.1) {left : Lit → Bool} (hl : left (keyL x.1) = true) :
    wsum R k m (doneW (fun z => left z && !z.sameKey (keyL x.1)) (A ++ x :: B)) = wsum R k m (doneW left (A ++ x :: B)) + x.2 * paths R k m x.1 := by
  have key : ∀ p : ByteArray × Nat, p.1 ≠ x.1 → (!(left (keyL p.1) && !(keyL p.1).sameKey (keyL x.1))) = !left (keyL p.1) := fun p hp => by
    have h1 : (keyL p.1).sameKey (keyL x.1) = false := by
      cases h : (keyL p.1).sameKey (keyL x.1)
      · rfl
      · exact absurd (keyL_same.1 h) hp
    rw [h1]; simp
  have h1 : A.filter (fun p => !(left (keyL p.1) && !(keyL p.1).sameKey (keyL x.1))) = A.filter (fun p => !left (keyL p.1)) := List.filter_congr (fun p hp => key _ (hA p hp))
  have h2 : B.filter (fun p => !(left (keyL p.1) && !(keyL p.1).sameKey (keyL x.1))) = B.filter (fun p => !left (keyL p.1)) := List.filter_congr (fun p hp => key _ (hB p hp))
  have hs : (keyL x.1).sameKey (keyL x.1) = true := keyL_same.2 rfl
  have e1 : doneW (fun z => left z && !z.sameKey (keyL x.1)) (A ++ x :: B) = A.filter (fun p => !left (keyL p.1)) ++ x :: B.filter (fun p => !left (keyL p.1)) := by
    unfold doneW
    rw [List.filter_append, List.filter_cons, h1, h2]
    simp [hs]
  have e2 : doneW left (A ++ x :: B) = A.filter (fun p => !left (keyL p.1)) ++ B.filter (fun p => !left (keyL p.1)) := by
    unfold doneW
    rw [List.filter_append, List.filter_cons]
    simp [hl]
  have e3 : ∀ (p : ByteArray × Nat) (V : WayD), wsum R k m (p :: V) = p.2 * paths R k m p.1 + wsum R k m V := fun p V => by simp [wsum]
  rw [e1, e2, wsum_app, wsum_app, e3]
  omega
theorem doneW_step (R : List RulD) (k m : Nat) {W : WayD} (hap : ApartW W) {i : Nat} (hi : i < W.length) {left : Lit → Bool} (hl : left (keyL W[i].1) = true) :
    wsum R k m (doneW (fun z => left z && !z.sameKey (keyL W[i].1)) W) = wsum R k m (doneW left W) + W[i].2 * paths R k m W[i].1 := by
  have hA : ∀ p ∈ W.take i, p.1 ≠ W[i].1 := fun p hp e => by
    obtain ⟨j, hj, rfl⟩ := List.getElem_of_mem hp
    rw [List.length_take] at hj
    rw [List.getElem_take] at e
    have := hap.eq (show j < W.length by omega) hi e; omega
  have hB : ∀ p ∈ W.drop (i + 1), p.1 ≠ W[i].1 := fun p hp e => by
    obtain ⟨j, hj, rfl⟩ := List.getElem_of_mem hp
    rw [List.length_drop] at hj
    rw [List.getElem_drop] at e
    have := hap.eq (show i + 1 + j < W.length by omega) hi e; omega
  have h := doneW_stepX R k m hA hB hl
  have e : W.take i ++ W[i] :: W.drop (i + 1) = W := by rw [← List.drop_eq_getElem_cons hi, List.take_append_drop]
  rwa [e] at h
/-- behind the ways that have come up, and j letters of the next one -/
structure WayG (R : List RulD) (k : Nat) (T : WayD) (j : Nat) (e : ByteArray) (c : Nat) (V : WayD) : Prop where
  eq : ∀ m, wsum R k m V = wsum R k (m + 1) T + c * pTo R k m e j
  pos : PosW V
  short : ShortW (keepR R) V
theorem WayG.start (R : List RulD) (k : Nat) (e : ByteArray) (c : Nat) : WayG R k [] 0 e c [] :=
  ⟨fun m => by rw [pTo_zero]; simp [wsum], fun p hp => (by cases hp), fun p hp => (by cases hp)⟩
theorem WayG.no {R : List RulD} {k : Nat} {T V : WayD} {j c : Nat} {e : ByteArray} (h : WayG R k T j e c V) (hx : okX R e j = false) : WayG R k T (j + 1) e c V :=
  ⟨fun m => by rw [pTo_no hx]; exact h.eq m, h.pos, h.short⟩
theorem WayG.old {R : List RulD} {k : Nat} {T V : WayD} {j c a : Nat} {e : ByteArray} (h : WayG R k T j e c V) (hx : okX R e j = true) (ha : a < V.length) (he : V[a].1 = nxtX R e j) : WayG R k T (j + 1) e c (addW V a c) :=
  ⟨fun m => by rw [wsum_add ha, he, h.eq m, pTo_yes hx, Nat.mul_add]; omega, h.pos.add _ _, h.short.add _ _⟩
theorem WayG.new {R : List RulD} {k : Nat} {T V : WayD} {j c : Nat} {e : ByteArray} (h : WayG R k T j e c V) (hx : okX R e j = true) (hc : 1 ≤ c) : WayG R k T (j + 1) e c (V ++ [(nxtX R e j, c)]) :=
  ⟨fun m => by rw [wsum_app, wsum_one, h.eq m, pTo_yes hx, Nat.mul_add]; omega, h.pos.push hc, h.short.push (cutR_size _ _)⟩
theorem WayG.other {R : List RulD} {k : Nat} {T V : WayD} {e e' : ByteArray} {c c' : Nat} (h : WayG R k T 0 e c V) : WayG R k T 0 e' c' V := ⟨fun m => by rw [h.eq m, pTo_zero, pTo_zero]; omega, h.pos, h.short⟩
theorem WayG.row {R : List RulD} {k : Nat} {W V : WayD} (hap : ApartW W) {i : Nat} (hi : i < W.length) {left : Lit → Bool} (hl : left (keyL W[i].1) = true) (h : WayG R k (doneW left W) k W[i].1 W[i].2 V) (e : ByteArray) (c : Nat) :
    WayG R k (doneW (fun z => left z && !z.sameKey (keyL W[i].1)) W) 0 e c V :=
  ⟨fun m => by rw [h.eq m, doneW_step R k (m + 1) hap hi hl, paths_succ, pTo_zero]; omega, h.pos, h.short⟩
theorem WayG.done {R : List RulD} {k n : Nat} {W V : WayD} {e : ByteArray} {c : Nat} (hW : WayAt R k n W) {left : Lit → Bool} (hl : ∀ kl, left kl = false) (h : WayG R k (doneW left W) 0 e c V) : WayAt R k (n + 1) V :=
  ⟨fun m => by rw [h.eq m, doneW_end hl, hW.eq, pTo_zero, show n + (m + 1) = n + 1 + m by omega]; omega, h.pos, h.short⟩
theorem WayG.le {R : List RulD} {k n : Nat} (hk : k ≤ 4) {W V : WayD} (hap : ApartW W) {i j : Nat} (hW : WayAt R k n W) (hi : i < W.length) {left : Lit → Bool} (hl : left (keyL W[i].1) = true) (hj : j ≤ k) (h : WayG R k (doneW left W) j W[i].1 W[i].2 V) : wsum R k 0 V ≤ 4 ^ (n + 1) := by
  rw [h.eq 0]
  have h1 := doneW_step R k (0 + 1) hap hi hl
  have h0 := doneW_le R k (0 + 1) (fun z => left z && !z.sameKey (keyL W[i].1)) W
  rw [h1, paths_succ] at h0
  have h2 := pTo_mono R k 0 W[i].1 hj
  have h3 : W[i].2 * pTo R k 0 W[i].1 j ≤ W[i].2 * pTo R k 0 W[i].1 k := Nat.mul_le_mul_left _ h2
  have h4 := hW.eq (0 + 1)
  have h5 := paths_le (R := R) hk (n + (0 + 1)) ⟨#[]⟩
  rw [← h4] at h5
  have h6 : n + (0 + 1) = n + 1 := by omega
  rw [h6] at h5
  omega
theorem WayG.le0 {R : List RulD} {k n : Nat} (hk : k ≤ 4) {W V : WayD} (hW : WayAt R k n W) {left : Lit → Bool} {e : ByteArray} {c : Nat} (h : WayG R k (doneW left W) 0 e c V) : wsum R k 0 V ≤ 4 ^ (n + 1) := by
  rw [h.eq 0, pTo_zero]
  have h0 := doneW_le R k (0 + 1) left W
  have h4 := hW.eq (0 + 1)
  have h5 := paths_le (R := R) hk (n + (0 + 1)) ⟨#[]⟩
  rw [← h4] at h5
  have h6 : n + (0 + 1) = n + 1 := by omega
  rw [h6] at h5
  omega
theorem paths0 (R : List RulD) (k : Nat) (e : ByteArray) : paths R k 0 e = 1 := rfl
end Go.Proofs.YtdhaebbfiaddnaaGreatDoor
namespace Go.Proofs.YtdhaebbfiaddnaaGreatDoor
open Go.RowKit
set_option linter.unusedVariables false
theorem nodup_len {α : Type} [DecidableEq α] : ∀ {l m : List α}, l.Nodup → (∀ x ∈ l, x ∈ m) → l.length ≤ m.length
  | [], m, _, _ => Nat.zero_le _
  | a :: l, m, hn, h => by
    have h1 := List.nodup_cons.1 hn
    have ha := h a List.mem_cons_self
    have ih := nodup_len (m := m.erase a) h1.2 fun x hx => by
      have : x ≠ a := fun e => by subst e; exact h1.1 hx
      exact (List.mem_erase_of_ne this).2 (h x (List.mem_cons_of_mem _ hx))
    rw [List.length_erase_of_mem ha] at ih
    have : 0 < m.length := List.length_pos_of_mem ha
    simp only [List.length_cons]
    omega
/-- the first j letters of a row without an end -/
def pre (f : Nat → Nat) (j : Nat) : Wd := (List.range j).map fun i => lt97 (f i)
theorem pre_succ (f : Nat → Nat) (j : Nat) : pre f (j + 1) = pre f j ++ [lt97 (f j)] := by
  unfold pre; rw [List.range_succ, List.map_append]; rfl
theorem pw_row {L : List Wd} {k : Nat} {f : Nat → Nat} (hf : ∀ j, f j < k) (h : ∀ j, okL L (pre f j) (f j) = true) : ∀ (m j : Nat), 1 ≤ pwA L k m (pre f j)
  | 0, j => Nat.le_refl _
  | m + 1, j => by
    have h1 := pw_row hf h m (j + 1)
    have h2 := mem_sum (f := fun x => if okL L (pre f j) x = true then pwA L k m (pre f j ++ [lt97 x]) else 0) (List.mem_range.2 (hf j))
    simp only [h j, if_true] at h2
    rw [← pre_succ] at h2
    exact Nat.le_trans h1 h2
def un97 (y : UInt8) : Nat := y.toNat - 97
theorem un97_lt {x : Nat} (h : x < 4) : un97 (lt97 x) = x := by
  unfold un97 lt97
  simp
  omega
/-- one of the words lies in each row -/
theorem row_hit {L : List Wd} {k N : Nat} (hk : k ≤ 4) (hN : pwA L k N [] = 0) {f : Nat → Nat} (hf : ∀ j, f j < k) : ∃ r ∈ L, ∃ o, ∀ i, i < r.length → (r.map un97)[i]? = some (f (o + i)) := by
  by_cases h : ∀ j, okL L (pre f j) (f j) = true
  · have := pw_row hf h N 0
    have e : pre f 0 = [] := rfl
    rw [e, hN] at this
    omega
  · obtain ⟨j, hj⟩ := Classical.not_forall.1 h
    have h1 : endsL L (pre f (j + 1)) = true := by
      rw [pre_succ]
      unfold okL at hj
      simpa using hj
    obtain ⟨r, hr, t, ht⟩ := endsL_iff.1 h1
    refine ⟨r, hr, t.length, fun i hi => ?_⟩
    have h2 : (t ++ r)[t.length + i]? = r[i]? := by rw [List.getElem?_append_right (by omega)]; congr 1; omega
    rw [ht] at h2
    have h3 : t.length + r.length = j + 1 := by
      have := congrArg List.length ht
      simpa [pre] using this
    have h4 : (pre f (j + 1))[t.length + i]? = some (lt97 (f (t.length + i))) := by
      unfold pre
      rw [List.getElem?_map, List.getElem?_range (by omega)]
      rfl
    rw [List.getElem?_map, ← h2, h4]
    have h5 := hf (t.length + i)
    simp [un97_lt (show f (t.length + i) < 4 by omega)]
/-- rows of four letters that come again -/
def rows4 : List (List Nat) := [[0, 0, 0, 1], [0, 0, 0, 2], [0, 0, 1, 1], [0, 0, 1, 2], [0, 0, 2, 1], [0, 0, 2, 2], [0, 1, 0, 2], [0, 1, 1, 1], [0, 1, 1, 2], [0, 1, 2, 1], [0, 1, 2, 2], [0, 2, 1, 1], [0, 2, 1, 2], [0, 2, 2, 1], [0, 2, 2, 2], [1, 1, 1, 2], [1, 1, 2, 2], [1, 2, 2, 2]]
def c4 (a b c d : Nat) : Nat := min (min (a * 27 + b * 9 + c * 3 + d) (b * 27 + c * 9 + d * 3 + a)) (min (c * 27 + d * 9 + a * 3 + b) (d * 27 + a * 9 + b * 3 + c))
def cls4 : List Nat → Nat
  | a :: b :: c :: d :: _ => c4 a b c d
  | _ => 999
def at4 (u : List Nat) (j : Nat) : Nat := u.getD (j % 4) 0
theorem rows4_nodup : (rows4.map cls4).Nodup := by decide +kernel
theorem rows4_lt : ∀ u ∈ rows4, ∀ o, o < 4 → at4 u o < 3 := by decide +kernel
theorem rows4_turn : ∀ u ∈ rows4, ∀ o, o < 4 → c4 (at4 u o) (at4 u (o + 1)) (at4 u (o + 2)) (at4 u (o + 3)) = cls4 u := by decide +kernel
theorem at4_mod (u : List Nat) (o i : Nat) : at4 u (o + i) = at4 u (o % 4 + i) := by unfold at4; congr 1; omega
theorem short3 {L : List Wd} {N : Nat} (hN : pwA L 3 N [] = 0) (hlen : L.length ≤ 12) : ∃ r ∈ L, r.length ≤ 3 := by
  by_cases h : ∃ r ∈ L, r.length ≤ 3
  · exact h
  · exfalso
    have hlong : ∀ r ∈ L, 4 ≤ r.length := fun r hr => by
      by_cases h2 : r.length ≤ 3
      · exact absurd ⟨r, hr, h2⟩ h
      · omega
    have h1 := nodup_len (m := L.map fun r => cls4 (r.map un97)) rows4_nodup (fun c hc => by
      obtain ⟨u, hu, rfl⟩ := List.mem_map.1 hc
      obtain ⟨r, hr, o, ho⟩ := row_hit (by omega) hN (f := at4 u) (fun j => by
        have := rows4_lt u hu (j % 4) (Nat.mod_lt _ (by omega))
        have e := at4_mod u j 0
        simp only [Nat.add_zero] at e
        omega)
      refine List.mem_map.2 ⟨r, hr, ?_⟩
      have hl := hlong r hr
      have g0 := ho 0 (by omega)
      have g1 := ho 1 (by omega)
      have g2 := ho 2 (by omega)
      have g3 := ho 3 (by omega)
      have ht := rows4_turn u hu (o % 4) (Nat.mod_lt _ (by omega))
      rw [at4_mod] at g0 g1 g2 g3
      rw [Nat.add_zero] at g0
      have hlm : 4 ≤ (r.map un97).length := by simpa using hl
      generalize r.map un97 = z at *
      match z, hlm with
      | a :: b :: c :: d :: z', _ =>
        simp at g0 g1 g2 g3
        subst g0 g1 g2 g3
        exact ht)
    have e : (rows4.map cls4).length = 18 := by decide +kernel
    rw [e, List.length_map] at h1
    omega
/-- rows of one, two, three letters that come again -/
def rows6 : List (List Nat) := [[0, 0, 0, 0, 0, 0], [1, 1, 1, 1, 1, 1], [2, 2, 2, 2, 2, 2], [3, 3, 3, 3, 3, 3], [0, 1, 0, 1, 0, 1], [0, 2, 0, 2, 0, 2], [0, 3, 0, 3, 0, 3], [1, 2, 1, 2, 1, 2], [1, 3, 1, 3, 1, 3], [2, 3, 2, 3, 2, 3], [0, 1, 2, 0, 1, 2], [0, 2, 1, 0, 2, 1], [0, 1, 3, 0, 1, 3], [0, 3, 1, 0, 3, 1], [0, 2, 3, 0, 2, 3], [0, 3, 2, 0, 3, 2], [1, 2, 3, 1, 2, 3], [1, 3, 2, 1, 3, 2]]
def c3 (x y z : Nat) : Nat := if x = z then (if x = y then 1000 + x else 2000 + 10 * min x y + max x y) else if x = y then 9999 else if y = z then 9999 else 3000 + min (x * 16 + y * 4 + z) (min (y * 16 + z * 4 + x) (z * 16 + x * 4 + y))
def cls6 : List Nat → List Nat
  | x :: y :: z :: _ => [c3 x y z]
  | [x, y] => [c3 x y 0, c3 x y 1, c3 x y 2, c3 x y 3]
  | _ => []
def code6 (u : List Nat) : Nat := c3 (u.getD 0 0) (u.getD 1 0) (u.getD 2 0)
def at6 (u : List Nat) (j : Nat) : Nat := u.getD (j % 6) 0
theorem rows6_nodup : (rows6.map code6).Nodup := by decide +kernel
theorem rows6_lt : ∀ u ∈ rows6, ∀ o, o < 6 → at6 u o < 4 := by decide +kernel
theorem rows6_turn : ∀ u ∈ rows6, ∀ o, o < 6 → c3 (at6 u o) (at6 u (o + 1)) (at6 u (o + 2)) = code6 u := by decide +kernel
theorem at6_mod (u : List Nat) (o i : Nat) : at6 u (o + i) = at6 u (o % 6 + i) := by unfold at6; congr 1; omega
theorem at6_lt {u : List Nat} (hu : u ∈ rows6) (j : Nat) : at6 u j < 4 := by
  have := rows6_lt u hu (j % 6) (Nat.mod_lt _ (by omega))
  have e := at6_mod u j 0
  simp only [Nat.add_zero] at e
  omega
def two (L : List Wd) : Nat := (L.filter fun r => r.length == 2).length
theorem cls6_len (L : List Wd) : (L.flatMap fun r => cls6 (r.map un97)).length ≤ L.length + 3 * two L := by
  induction L with
  | nil => exact Nat.le_refl _
  | cons r L ih =>
    unfold two at *
    rw [List.flatMap_cons, List.length_append, List.filter_cons]
    generalize (L.flatMap fun r => cls6 (r.map un97)).length = n at *
    rcases r with _ | ⟨x, _ | ⟨y, _ | ⟨z, r⟩⟩⟩
    · simp [cls6]; omega
    · simp [cls6]; omega
    · simp [cls6]; omega
    · simp [cls6]; omega
theorem short4 {L : List Wd} {N : Nat} (hN : pwA L 4 N [] = 0) (hlen : L.length ≤ 12) (hl2 : ∀ r ∈ L, 2 ≤ r.length) : 2 ≤ two L := by
  have h1 := nodup_len (m := L.flatMap fun r => cls6 (r.map un97)) rows6_nodup (fun c hc => by
    obtain ⟨u, hu, rfl⟩ := List.mem_map.1 hc
    obtain ⟨r, hr, o, ho⟩ := row_hit (by omega) hN (f := at6 u) (at6_lt hu)
    refine List.mem_flatMap.2 ⟨r, hr, ?_⟩
    have hl := hl2 r hr
    have ht := rows6_turn u hu (o % 6) (Nat.mod_lt _ (by omega))
    have g0 := ho 0 (by omega)
    have g1 := ho 1 (by omega)
    have g2 := ho 2
    rw [at6_mod] at g0 g1
    rw [Nat.add_zero] at g0
    have h3 := at6_lt hu (o % 6 + 2)
    have hlm : 2 ≤ (r.map un97).length := by simpa using hl
    have hle : (r.map un97).length = r.length := by simp
    generalize r.map un97 = z at *
    match z, hlm with
    | [x, y], _ =>
      simp at g0 g1
      subst g0 g1
      rw [← ht]
      generalize at6 u (o % 6 + 2) = q at *
      have : q = 0 ∨ q = 1 ∨ q = 2 ∨ q = 3 := by omega
      rcases this with rfl | rfl | rfl | rfl <;> simp [cls6]
    | x :: y :: z :: z', _ =>
      have g2 := g2 (by simp at hle; omega)
      rw [at6_mod] at g2
      have e0 : x = at6 u (o % 6) := by simpa using g0
      have e1 : y = at6 u (o % 6 + 1) := by simpa using g1
      have e2 : z = at6 u (o % 6 + 2) := by simpa using g2
      rw [← ht, e0, e1, e2]
      simp [cls6])
  have e : (rows6.map code6).length = 18 := by decide +kernel
  rw [e] at h1
  have h2 := cls6_len L
  omega
/-- the states -/
def stQ (L : List Wd) (k : Nat) : List Wd := [] :: (List.range k).map (fun x => [lt97 x]) ++ L.flatMap fun r => (List.range (r.length - 2)).map fun i => r.take (i + 2)
theorem stQ_has {L : List Wd} {k : Nat} {q : Wd} (h : inQ L q) (hl : ∀ y ∈ q, ∃ x, x < k ∧ y = lt97 x) : q ∈ stQ L k := by
  unfold stQ
  rcases h with rfl | ⟨r, hr, y, t, e⟩
  · simp
  · match q, hl, e with
    | [], _, _ => simp
    | [z], hl, _ =>
      obtain ⟨x, hx, rfl⟩ := hl z List.mem_cons_self
      apply List.mem_append_left
      apply List.mem_cons_of_mem
      exact List.mem_map.2 ⟨x, List.mem_range.2 hx, rfl⟩
    | z :: z2 :: q', _, e =>
      apply List.mem_append_right
      refine List.mem_flatMap.2 ⟨r, hr, List.mem_map.2 ⟨q'.length, List.mem_range.2 ?_, ?_⟩⟩
      · rw [e]; simp
      · rw [e]; simp
def exSum (L : List Wd) : Nat := (L.map fun r => r.length - 2).sum
theorem stQ_len (L : List Wd) (k : Nat) : (stQ L k).length = 1 + k + exSum L := by
  unfold stQ exSum
  rw [List.length_append, List.length_flatMap]
  simp
  omega
theorem exSum_le {L : List Wd} (h8 : ∀ r ∈ L, r.length ≤ 8) : exSum L + 6 * two L ≤ 6 * L.length := by
  induction L with
  | nil => exact Nat.le_refl _
  | cons r L ih =>
    have h1 := ih fun x hx => h8 x (List.mem_cons_of_mem _ hx)
    have h2 := h8 r List.mem_cons_self
    unfold exSum two at *
    rw [List.filter_cons]
    simp only [List.map_cons, List.sum_cons, List.length_cons]
    by_cases h3 : r.length = 2
    · simp [h3]; omega
    · simp [h3]; omega
theorem exSum_one {L : List Wd} (h8 : ∀ r ∈ L, r.length ≤ 8) {r : Wd} (hr : r ∈ L) : exSum L + 6 ≤ 6 * L.length + (r.length - 2) := by
  have hp := List.perm_cons_erase hr
  have e : exSum L = (r.length - 2) + exSum (L.erase r) := by
    unfold exSum
    have := (hp.map fun r => r.length - 2).sum_nat
    rw [this]
    simp
  have h1 := exSum_le (L := L.erase r) fun x hx => h8 x (List.mem_of_mem_erase hx)
  have h2 := List.length_erase_of_mem hr
  have h3 : 0 < L.length := List.length_pos_of_mem hr
  omega
theorem fil_len (l : List Nat) (p : Nat → Bool) {y : Nat} (hy : y ∈ l) (h : p y = false) : (l.filter p).length + 1 ≤ l.length := by
  induction l with
  | nil => cases hy
  | cons a l ih =>
    rw [List.filter_cons]
    rcases List.mem_cons.1 hy with rfl | hy
    · rw [h]
      have := List.length_filter_le p l
      simp only [List.length_cons]
      simp
      omega
    · have := ih hy
      split
      · simp only [List.length_cons]; omega
      · simp only [List.length_cons]; omega
def topB : Nat := 4611686018427387903
theorem bons_ok : bon 2 76 ≤ topB ∧ bon 3 71 ≤ topB ∧ bon 4 65 ≤ topB := by decide +kernel
/-- all words that avoid twelve words are at most 2^62 - 1, if they are finitely many -/
theorem all_le {L : List Wd} {k N : Nat} (hk : k ≤ 4) (hN : pwA L k N [] = 0) (h12 : L.length ≤ 12) (h8 : ∀ r ∈ L, r.length ≤ 8) (hne : ∀ r ∈ L, r ≠ []) (hlet : ∀ r ∈ L, ∀ y ∈ r, ∃ x, x < k ∧ y = lt97 x) : tot L k N [] ≤ topB := by
  obtain ⟨b2, b3, b4⟩ := bons_ok
  have hd0 : ∀ v, ((List.range k).filter fun x => okL L v x).length ≤ k := fun v => by
    have := List.length_filter_le (fun x => okL L v x) (List.range k)
    simpa using this
  have hq := stQ_len L k
  have hs := exSum_le h8
  by_cases hdead : ∃ r ∈ L, r.length = 1
  · obtain ⟨r, hr, hr1⟩ := hdead
    obtain ⟨y, rfl⟩ := List.length_eq_one_iff.1 hr1
    obtain ⟨x, hx, rfl⟩ := hlet _ hr y List.mem_cons_self
    have hd : ∀ v, ((List.range k).filter fun x => okL L v x).length ≤ k - 1 := fun v => by
      have h1 := fil_len (List.range k) (fun x => okL L v x) (List.mem_range.2 hx) (by
        unfold okL
        have : endsL L (v ++ [lt97 x]) = true := endsL_iff.2 ⟨_, hr, List.suffix_append _ _⟩
        rw [this]; rfl)
      simp at h1
      omega
    have h1 := exSum_one h8 hr
    simp at h1
    by_cases h4 : k = 4
    · subst h4
      exact Nat.le_trans (tot_le hne (by omega) hN (fun q hq hl => stQ_has hq hl) hd) (Nat.le_trans (bon_mono 3 (by omega)) b3)
    · exact Nat.le_trans (tot_le hne hk hN (fun q hq hl => stQ_has hq hl) (d := 2) (fun v => by have := hd v; omega)) (Nat.le_trans (bon_mono 2 (by omega)) b2)
  · have hl2 : ∀ r ∈ L, 2 ≤ r.length := fun r hr => by
      have h1 : r.length ≠ 1 := fun e => hdead ⟨r, hr, e⟩
      have h2 : r.length ≠ 0 := fun e => hne r hr (List.length_eq_zero_iff.1 e)
      omega
    by_cases h4 : k = 4
    · subst h4
      have h5 := short4 hN h12 hl2
      exact Nat.le_trans (tot_le hne (by omega) hN (fun q hq hl => stQ_has hq hl) hd0) (Nat.le_trans (bon_mono 4 (by omega)) b4)
    · by_cases h3 : k = 3
      · subst h3
        obtain ⟨r, hr, hr3⟩ := short3 hN h12
        have h1 := exSum_one h8 hr
        exact Nat.le_trans (tot_le hne (by omega) hN (fun q hq hl => stQ_has hq hl) hd0) (Nat.le_trans (bon_mono 3 (by omega)) b3)
      · exact Nat.le_trans (tot_le hne hk hN (fun q hq hl => stQ_has hq hl) (d := 2) (fun v => by have := hd0 v; omega)) (Nat.le_trans (bon_mono 2 (by omega)) b2)
end Go.Proofs.YtdhaebbfiaddnaaGreatDoor
