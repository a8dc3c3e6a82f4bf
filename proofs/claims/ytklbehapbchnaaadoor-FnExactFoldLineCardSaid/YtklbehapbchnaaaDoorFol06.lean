/-
  Putting an arc into an ascending list (plain).
-/
import Derived.Test.YtklbehapbchnaaaDoorFol02
import Derived.Test.YtklbehapbchnaaaDoorFol01
import Derived.Test.YtklbehapbchnaaaDoorFol05
import Derived.Deep.Cut
namespace Go.Proofs.YtklbehapbchnaaaDoor
open Go.RowKit
set_option linter.unusedVariables false
/-- the cells of a list of structs -/
def cellsL {α : Type} (f : α → List Value) (l : List α) : List Value := l.flatMap f
theorem cellsL_app {α : Type} (f : α → List Value) (l m : List α) : cellsL f (l ++ m) = cellsL f l ++ cellsL f m := by simp [cellsL]
theorem cellsL_one {α : Type} (f : α → List Value) (x : α) : cellsL f [x] = f x := by simp [cellsL]
theorem cellsL_len {α : Type} {f : α → List Value} {m : Nat} (hf : ∀ x, (f x).length = m) : ∀ l : List α, (cellsL f l).length = l.length * m
  | [] => by simp [cellsL]
  | x :: l => by
    have ih := cellsL_len hf l
    unfold cellsL at *
    rw [List.flatMap_cons, List.length_append, hf, ih, List.length_cons, Nat.succ_mul]
    omega
theorem cellsL_at {α : Type} {f : α → List Value} {m : Nat} (hf : ∀ x, (f x).length = m) : ∀ (l : List α) (j : Nat) (hj : j < l.length) (i : Nat), i < m → (cellsL f l)[j * m + i]? = (f l[j])[i]?
  | [], j, hj, _, _ => by simp at hj
  | x :: l, 0, _, i, hi => by
    unfold cellsL
    rw [List.flatMap_cons, List.getElem?_append_left (by rw [hf]; omega)]
    simp
  | x :: l, j + 1, hj, i, hi => by
    have ih := cellsL_at hf l j (by simpa using hj) i hi
    unfold cellsL at *
    rw [List.flatMap_cons, List.getElem?_append_right (by rw [hf, Nat.succ_mul]; omega), hf]
    rw [show (j + 1) * m + i - m = j * m + i by rw [Nat.succ_mul]; omega, ih]
    rfl
/-- a row of structs -/
def RowsIn {α : Type} (f : α → List Value) (w : World) (a : Option Addr) (l : List α) : Prop := CellsIn w a (cellsL f l)
theorem RowsIn.later {α : Type} {f : α → List Value} {w w' : World} {a : Option Addr} {l : List α} (h : RowsIn f w a l) (hb : Below w.heap.size w w') : RowsIn f w' a l := CellsIn.later h hb
theorem RowsIn.cell {α : Type} {f : α → List Value} {m : Nat} (hf : ∀ x, (f x).length = m) (hm : 0 < m) {w : World} {a : Option Addr} {l : List α} (h : RowsIn f w a l) {i : Nat} (hi : i < l.length) :
    ∃ b off, a = some ⟨b, off, none⟩ ∧ b < w.heap.size ∧ ∀ j (hj : j < l.length) c v, (f l[j])[c]? = some v → w.cell? ⟨b, off + j * m + c, none⟩ = some v := by
  have hlen := cellsL_len hf l
  rcases h with h | ⟨b, off, ha, hc⟩
  · rw [h, List.length_nil] at hlen
    have : l.length * m ≠ 0 := Nat.mul_ne_zero (by omega) (by omega)
    omega
  · have key : ∀ j (hj : j < l.length) c v, (f l[j])[c]? = some v → w.cell? ⟨b, off + j * m + c, none⟩ = some v := fun j hj c v hv => by
      have hcm : c < m := by rw [← hf l[j]]; exact (List.getElem?_eq_some_iff.1 hv).1
      have h1 := cellsL_at hf l j hj c hcm
      rw [hv] at h1
      obtain ⟨h2, h3⟩ := List.getElem?_eq_some_iff.1 h1
      have h4 := hc (j * m + c) h2
      rw [h3] at h4
      rw [Nat.add_assoc]
      exact h4
    refine ⟨b, off, ha, ?_, key⟩
    have h0 : 0 < (f l[i]).length := by rw [hf]; exact hm
    exact World.block_lt_of_cell? w _ (key i hi 0 (f l[i])[0] (List.getElem?_eq_getElem h0))
end Go.Proofs.YtklbehapbchnaaaDoor
namespace Go.Proofs.YtklbehapbchnaaaDoor
open Go.RowKit
set_option linter.unusedVariables false
/-- the cells of an arc -/
def arcV (a : Arc3) : List Value := [.int .i64 ((a.1 : Nat) : Int), .int .i64 ((a.2.1 : Nat) : Int), .int .i64 ((a.2.2 : Nat) : Int)]
theorem arcV_len (a : Arc3) : (arcV a).length = 3 := rfl
abbrev ArcsIn (w : World) (a : Option Addr) (F : List Arc3) : Prop := RowsIn arcV w a F
/-- arcs as cells -/
def arcC (F : List Arc3) : List Value := cellsL arcV F
theorem arcC_len (F : List Arc3) : (arcC F).length = F.length * 3 := cellsL_len arcV_len F
theorem arcC_app (F : List Arc3) (a : Arc3) : arcC (F ++ [a]) = arcC F ++ arcV a := by
  unfold arcC; rw [cellsL_app, cellsL_one]
theorem Tryd.infoArc : (Tryd.prog.info? 66).map (fun i => (i.zero, i.size, i.bytes)) = some (some (.agg #[.int .i64 0, .int .i64 0, .int .i64 0]), 3, 24) := by kernel_rfl
/-- the arc of a letter -/
def arcOf (g u v c : Nat) : Arc3 := if c < g then (u, v, c) else (v, u, c - g)
/-- the letter as a number -/
def ltN (s : ByteArray) (i : Nat) : Nat := (s.data.toList.getD i 0).toNat - 97
/-- where the way goes on behind letter i of m letters -/
def toN (m n i : Nat) : Nat := if i + 1 < m then n else 0
def upN (m n i : Nat) : Nat := if i + 1 < m then n + 1 else n
/-- the arcs, the vertices, the place behind i letters -/
def flS (g : Nat) (s : ByteArray) (st : List Arc3 × Nat) : Nat → List Arc3 × Nat × Nat
  | 0 => (st.1, st.2, 0)
  | i + 1 => ((flS g s st i).1 ++ [arcOf g (flS g s st i).2.2 (toN s.size (flS g s st i).2.1 i) (ltN s i)], upN s.size (flS g s st i).2.1 i, toN s.size (flS g s st i).2.1 i)
theorem flS_succ {g : Nat} {s : ByteArray} {st : List Arc3 × Nat} {i n u : Nat} {F : List Arc3} (h : flS g s st i = (F, n, u)) : flS g s st (i + 1) = (F ++ [arcOf g u (toN s.size n i) (ltN s i)], upN s.size n i, toN s.size n i) := by
  show ((flS g s st i).1 ++ _, _, _) = _
  rw [h]
/-- .. behind a word -/
def flW (g : Nat) (s : ByteArray) (st : List Arc3 × Nat) : List Arc3 × Nat := ((flS g s st s.size).1, (flS g s st s.size).2.1)
/-- .. behind j words -/
def flF (g : Nat) (ws : List ByteArray) : Nat → List Arc3 × Nat
  | 0 => ([], 1)
  | j + 1 => flW g (frB g (nthS ws j) (nthS ws j).size) (flF g ws j)
/-- what holds of the arcs -/
structure FlOk (g : Nat) (F : List Arc3) (n u : Nat) : Prop where
  n1 : 1 ≤ n
  u1 : u < n
  rng : ∀ a ∈ F, a.1 < n ∧ a.2.1 < n ∧ a.2.2 < g
  con : ∀ P : Nat → Prop, P 0 → (∀ a ∈ F, P a.1 ↔ P a.2.1) → P u ∧ ∀ a ∈ F, P a.1 ∧ P a.2.1
theorem FlOk.start (g : Nat) : FlOk g [] 1 0 := ⟨by omega, by omega, fun a h => (by cases h), fun P h0 _ => ⟨h0, fun a h => (by cases h)⟩⟩
theorem FlOk.zero {g n u : Nat} {F : List Arc3} (h : FlOk g F n u) : FlOk g F n 0 := ⟨h.n1, h.n1, h.rng, fun P h0 hP => ⟨h0, (h.con P h0 hP).2⟩⟩
theorem FlOk.next {g n u m i c : Nat} {F : List Arc3} (h : FlOk g F n u) (hc : c < 2 * g) : FlOk g (F ++ [arcOf g u (toN m n i) c]) (upN m n i) (toN m n i) := by
  have h1 := h.n1
  have hu := h.u1
  have ht : toN m n i < upN m n i := by unfold toN upN; split <;> omega
  have hn : n ≤ upN m n i := by unfold upN; split <;> omega
  refine ⟨by omega, ht, fun a ha => ?_, fun P h0 hP => ?_⟩
  · rcases List.mem_append.1 ha with ha | ha
    · have := h.rng a ha; omega
    · rw [List.mem_singleton.1 ha]
      unfold arcOf
      split <;> (refine ⟨?_, ?_, ?_⟩ <;> simp only [] <;> omega)
  · obtain ⟨pu, pF⟩ := h.con P h0 (fun a ha => hP a (List.mem_append.2 (.inl ha)))
    have pa := hP (arcOf g u (toN m n i) c) (List.mem_append.2 (.inr (List.mem_singleton.2 rfl)))
    have key : P (toN m n i) ∧ P (arcOf g u (toN m n i) c).1 ∧ P (arcOf g u (toN m n i) c).2.1 := by
      unfold arcOf at pa ⊢
      split at pa
      · rename_i hcg
        rw [if_pos hcg]
        exact ⟨pa.1 pu, pu, pa.1 pu⟩
      · rename_i hcg
        rw [if_neg hcg]
        exact ⟨pa.2 pu, pa.2 pu, pu⟩
    refine ⟨key.1, fun a ha => ?_⟩
    rcases List.mem_append.1 ha with ha | ha
    · exact pF a ha
    · rw [List.mem_singleton.1 ha]; exact key.2
theorem flS_ok {g : Nat} {s : ByteArray} {F0 : List Arc3} {n0 : Nat} (h : FlOk g F0 n0 0) (hl : ∀ x ∈ s.data.toList, letG g x.toNat) : ∀ i, i ≤ s.size → FlOk g (flS g s (F0, n0) i).1 (flS g s (F0, n0) i).2.1 (flS g s (F0, n0) i).2.2 ∧ (flS g s (F0, n0) i).1.length = F0.length + i ∧ (flS g s (F0, n0) i).2.1 ≤ n0 + i
  | 0, _ => ⟨h, rfl, Nat.le_refl _⟩
  | i + 1, hi => by
    obtain ⟨h1, h2, h3⟩ := flS_ok h hl i (by omega)
    have hc : ltN s i < 2 * g := by
      have hil : i < s.data.toList.length := by rw [bszF]; omega
      have := hl (s.data.toList.getD i 0) (by rw [List.getD_eq_getElem?_getD, List.getElem?_eq_getElem hil]; exact List.getElem_mem hil)
      unfold ltN
      unfold letG at this
      omega
    refine ⟨h1.next hc, ?_, ?_⟩
    · show ((flS g s (F0, n0) i).1 ++ [_]).length = _
      rw [List.length_append, h2]; simp; omega
    · show upN _ _ _ ≤ _
      unfold upN; split <;> omega
theorem flF_ok {g : Nat} {ws : List ByteArray} (hw : ∀ j, j < ws.length → freeOkB (g : Nat) (nthS ws j) = true) : ∀ j, j ≤ ws.length → FlOk g (flF g ws j).1 (flF g ws j).2 0 ∧ (flF g ws j).1.length ≤ 16 * j ∧ (flF g ws j).2 ≤ 1 + 15 * j
  | 0, _ => ⟨FlOk.start g, by simp [flF], by simp [flF]⟩
  | j + 1, hj => by
    obtain ⟨h1, h2, h3⟩ := flF_ok hw j (by omega)
    obtain ⟨_, hs16, hlet⟩ := freeOk_let (hw j (by omega))
    have hz := frB_size g (nthS ws j) (nthS ws j).size
    obtain ⟨s, hs⟩ : ∃ s, frB g (nthS ws j) (nthS ws j).size = s := ⟨_, rfl⟩
    have hl : ∀ x ∈ s.data.toList, letG g x.toNat := fun x hx => by
      rw [← hs, frB_list] at hx
      exact hlet x (frL_mem hx)
    have e : flF g ws (j + 1) = flW g (frB g (nthS ws j) (nthS ws j).size) (flF g ws j) := rfl
    rw [e, hs]
    rw [hs] at hz
    unfold flW
    obtain ⟨i1, i2, i3⟩ := flS_ok (F0 := (flF g ws j).1) (n0 := (flF g ws j).2) h1 hl s.size (Nat.le_refl _)
    refine ⟨i1.zero, by show (flS g s (flF g ws j) s.size).1.length ≤ _; have i2' : (flS g s (flF g ws j) s.size).1.length = _ := i2; omega, ?_⟩
    show (flS g s (flF g ws j) s.size).2.1 ≤ _
    rcases Nat.eq_zero_or_pos s.size with h0 | h0
    · rw [h0]; show (flF g ws j).2 ≤ _; omega
    · obtain ⟨k, hk⟩ : ∃ k, s.size = k + 1 := ⟨s.size - 1, by omega⟩
      obtain ⟨_, _, j3⟩ := flS_ok (F0 := (flF g ws j).1) (n0 := (flF g ws j).2) h1 hl k (by omega)
      have j3' : (flS g s (flF g ws j) k).2.1 ≤ (flF g ws j).2 + k := j3
      have e : (flS g s (flF g ws j) s.size).2.1 = (flS g s (flF g ws j) k).2.1 := by
        rw [hk]
        show upN s.size _ k = _
        unfold upN; rw [if_neg (by omega)]
      rw [e]; omega
theorem FlOk.conn {g n u : Nat} {F : List Arc3} (h : FlOk g F n u) : Conn F := fun P h0 hP => (h.con P h0 hP).2
end Go.Proofs.YtklbehapbchnaaaDoor
namespace Go.Proofs.YtklbehapbchnaaaDoor
open Go.RowKit
set_option linter.unusedVariables false
/-- the number at a place of a list -/
def nthZ (l : List Int) (i : Nat) : Int := l.getD i 0
/-- the product of two elements -/
def tm (m : Nat) (ln : List Nat) (i k : Nat) : Nat := ln.getD (i * m + k) 0
/-- a table whose numbers lie in range -/
structure Tb (m : Nat) (ln : List Nat) : Prop where
  lo : 1 ≤ m
  hi : m ≤ 40
  len : ln.length = m * m
  rng : ∀ x ∈ ln, x < m
/-- a valid table -/
structure TabOk (m : Nat) (ln : List Nat) : Prop extends Tb m ln where
  left : ∀ i, i < m → tm m ln 0 i = i
  right : ∀ i, i < m → tm m ln i 0 = i
  assoc : ∀ i j k, i < m → j < m → k < m → tm m ln (tm m ln i j) k = tm m ln i (tm m ln j k)
theorem ix_lt {m i k : Nat} (hi : i < m) (hk : k < m) : i * m + k < m * m := by
  have := Nat.mul_le_mul_right m (show i + 1 ≤ m from hi)
  rw [Nat.add_mul] at this
  omega
/-- a slice of natural numbers -/
def NatsIn (w : World) (a : Option Addr) (ln : List Nat) : Prop := IntsIn w a (ln.map Int.ofNat)
theorem NatsIn.later {w w' : World} {a : Option Addr} {l : List Nat} (h : NatsIn w a l) (hb : Below w.heap.size w w') : NatsIn w' a l := IntsIn.later h hb
/-- the cells of a table's products -/
theorem Tb.cell {m : Nat} {ln : List Nat} (h : Tb m ln) {w : World} {a : Option Addr} (hn : NatsIn w a ln) :
    ∃ b off, a = some ⟨b, off, none⟩ ∧ b < w.heap.size ∧ ∀ i k, i < m → k < m → w.cell? ⟨b, off + (i * m + k), none⟩ = some (.int .i64 (tm m ln i k : Nat)) := by
  have h0 : 0 * m + 0 < m * m := ix_lt h.lo h.lo
  obtain ⟨b, off, ha, hc⟩ := IntsIn.at hn (i := 0) (by simp [h.len]; omega)
  have key : ∀ i k, i < m → k < m → w.cell? ⟨b, off + (i * m + k), none⟩ = some (.int .i64 (tm m ln i k : Nat)) := by
    intro i k hi hk
    have hlt : i * m + k < ln.length := by rw [h.len]; exact ix_lt hi hk
    rw [hc _ (by simpa using hlt)]
    simp [tm, List.getD_eq_getElem?_getD, hlt]
  exact ⟨b, off, ha, World.block_lt_of_cell? w _ (key 0 0 h.lo h.lo), key⟩
theorem IntsIn.cell {w : World} {a : Option Addr} {l : List Int} (h : IntsIn w a l) {i : Nat} (hi : i < l.length) :
    ∃ b off, a = some ⟨b, off, none⟩ ∧ b < w.heap.size ∧ ∀ j, j < l.length → w.cell? ⟨b, off + j, none⟩ = some (.int .i64 (nthZ l j)) := by
  obtain ⟨b, off, ha, hc⟩ := h.at hi
  exact ⟨b, off, ha, World.block_lt_of_cell? w _ (hc i hi), hc⟩
end Go.Proofs.YtklbehapbchnaaaDoor
namespace Go.Proofs.YtklbehapbchnaaaDoor
open Go.RowKit
set_option linter.unusedVariables false
/-- to which vertices were joined: never to a greater one -/
def ParOk (par : List Nat) : Prop := ∀ v, v < par.length → par.getD v 0 ≤ v
/-- the vertex at the end -/
def rootF (par : List Nat) : Nat → Nat → Nat
  | 0, v => v
  | k + 1, v => if v < par.length ∧ par.getD v 0 ≠ v then rootF par k (par.getD v 0) else v
def rootP (par : List Nat) (v : Nat) : Nat := rootF par v v
theorem rootF_more {par : List Nat} (h : ParOk par) : ∀ (k v : Nat), v ≤ k → rootF par k v = rootP par v := by
  intro k
  induction k using Nat.strongRecOn with
  | _ k ih =>
    intro v hv
    cases k with
    | zero => obtain rfl : v = 0 := by omega
              rfl
    | succ k =>
      show (if v < par.length ∧ par.getD v 0 ≠ v then rootF par k (par.getD v 0) else v) = rootP par v
      cases v with
      | zero =>
        have : ¬ (0 < par.length ∧ par.getD 0 0 ≠ 0) := fun ⟨h1, h2⟩ => h2 (by have := h 0 h1; omega)
        rw [if_neg this]; rfl
      | succ v =>
        show _ = (if v + 1 < par.length ∧ par.getD (v + 1) 0 ≠ v + 1 then rootF par v (par.getD (v + 1) 0) else v + 1)
        by_cases hc : v + 1 < par.length ∧ par.getD (v + 1) 0 ≠ v + 1
        · rw [if_pos hc, if_pos hc]
          have h1 := h _ hc.1
          rw [ih k (by omega) _ (by omega), ih v (by omega) _ (by omega)]
        · rw [if_neg hc, if_neg hc]
theorem root_end {par : List Nat} {v : Nat} (h : par.getD v 0 = v) : rootP par v = v := by
  unfold rootP
  cases v with
  | zero => rfl
  | succ v =>
    show (if _ then _ else _) = _
    rw [if_neg (fun hc => hc.2 h)]
theorem root_far {par : List Nat} {v : Nat} (h : par.length ≤ v) : rootP par v = v := by
  unfold rootP
  cases v with
  | zero => rfl
  | succ v =>
    show (if _ then _ else _) = _
    rw [if_neg (fun hc => by omega)]
theorem root_next {par : List Nat} (h : ParOk par) {v : Nat} (hv : v < par.length) : rootP par v = rootP par (par.getD v 0) := by
  by_cases e : par.getD v 0 = v
  · rw [e]
  · have h1 := h v hv
    obtain ⟨k, rfl⟩ : ∃ k, v = k + 1 := ⟨v - 1, by omega⟩
    show (if _ then rootF par k (par.getD (k + 1) 0) else _) = _
    rw [if_pos ⟨hv, e⟩]
    exact rootF_more h k _ (by omega)
theorem root_le {par : List Nat} (h : ParOk par) : ∀ v, rootP par v ≤ v := by
  intro v
  induction v using Nat.strongRecOn with
  | _ v ih =>
    by_cases hv : v < par.length
    · by_cases e : par.getD v 0 = v
      · rw [root_end e]; exact Nat.le_refl _
      · have h1 := h v hv
        rw [root_next h hv]
        exact Nat.le_trans (ih _ (by omega)) h1
    · rw [root_far (by omega)]; exact Nat.le_refl _
theorem root_fix {par : List Nat} (h : ParOk par) : ∀ v, v < par.length → par.getD (rootP par v) 0 = rootP par v := by
  intro v
  induction v using Nat.strongRecOn with
  | _ v ih =>
    intro hv
    by_cases e : par.getD v 0 = v
    · rw [root_end e]; exact e
    · have h1 := h v hv
      rw [root_next h hv]
      exact ih _ (by omega) (by omega)
/-- two roots made one -/
theorem root_link {par : List Nat} (h : ParOk par) {x y : Nat} (hx : x < par.length) (hy : y < par.length) (hxr : par.getD x 0 = x) (hyr : par.getD y 0 = y) (hne : x ≠ y) :
    ParOk (par.set (max x y) (min x y)) ∧ ∀ v, rootP (par.set (max x y) (min x y)) v = mgV x y (rootP par v) := by
  have hg : ∀ v, v ≠ max x y → (par.set (max x y) (min x y)).getD v 0 = par.getD v 0 := fun v hv => by
    simp only [List.getD_eq_getElem?_getD]
    rw [List.getElem?_set_ne (fun e => hv e.symm)]
  have hm : (par.set (max x y) (min x y)).getD (max x y) 0 = min x y := by
    simp only [List.getD_eq_getElem?_getD]
    rw [List.getElem?_set_self (by omega)]; rfl
  have hmn : (par.set (max x y) (min x y)).getD (min x y) 0 = min x y := by
    rw [hg _ (by omega)]
    rcases Nat.le_total x y with e | e
    · rw [Nat.min_eq_left e]; exact hxr
    · rw [Nat.min_eq_right e]; exact hyr
  have hok : ParOk (par.set (max x y) (min x y)) := fun v hv => by
    rw [List.length_set] at hv
    by_cases e : v = max x y
    · rw [e, hm]; omega
    · rw [hg v e]; exact h v hv
  refine ⟨hok, fun v => ?_⟩
  induction v using Nat.strongRecOn with
  | _ v ih =>
    by_cases hv : v < par.length
    · have hv2 : v < (par.set (max x y) (min x y)).length := by rw [List.length_set]; exact hv
      by_cases e : v = max x y
      · have hmx : par.getD (max x y) 0 = max x y := by
          rcases Nat.le_total x y with e | e
          · rw [Nat.max_eq_right e]; exact hyr
          · rw [Nat.max_eq_left e]; exact hxr
        rw [root_next hok hv2, e, hm, root_end hmn, root_end hmx]
        unfold mgV; rw [if_pos rfl]
      · by_cases e2 : par.getD v 0 = v
        · rw [root_end e2, root_end ((hg v e).trans e2)]
          unfold mgV; rw [if_neg e]
        · have h1 := h v hv
          rw [root_next hok hv2, root_next h hv, hg v e]
          exact ih _ (by omega)
    · rw [root_far (by rw [List.length_set]; omega), root_far (by omega)]
      unfold mgV; rw [if_neg (by omega)]
theorem nat_cell {w : World} {a : Option Addr} {par : List Nat} (h : IntsIn w a (par.map Int.ofNat)) {v : Nat} (hv : v < par.length) : ∃ b off, a = some ⟨b, off, none⟩ ∧ ∀ u, u < par.length → w.cell? ⟨b, off + u, none⟩ = some (.int .i64 ((par.getD u 0 : Nat) : Int)) := by
  obtain ⟨b, off, rfl, _, hc⟩ := h.cell (i := v) (by simpa using hv)
  refine ⟨b, off, rfl, fun u hu => ?_⟩
  rw [hc u (by simpa using hu)]
  unfold nthZ
  simp [List.getD_eq_getElem?_getD, hu]
set_option maxHeartbeats 1000000 in
theorem l25Find_any (par : List Nat) (a : Option Addr) (cap v : Nat) (w : World) (hI : IntsIn w a (par.map Int.ofNat)) (hP : ParOk par) (hv : v < par.length) (hl : par.length ≤ 1000) :
    Calls Tryd.prog 42 #[.slice a par.length cap, .int .i64 (v : Nat)] w fun e w' => e = .returned (.int .i64 ((rootP par v : Nat) : Int)) ∧ w = w' := by
  obtain ⟨b, off, rfl, hc⟩ := nat_cell hI hv
  have HC := Lib.hid hc
  have HP := Lib.hid hP
  clear hc hI hP
  go_enter Tryd.func42, Tryd.ntmps42
  go_wp2_with fail
  go_loopw [1] (fun vu wr => ∃ u : Nat, vu = .int .i64 (u : Nat) ∧ u < par.length ∧ rootP par u = rootP par v ∧ wr = w) (fun vu _ => (intOf vu).toNat)
  case atStart => exact ⟨v, rfl, hv, rfl, rfl⟩
  case round =>
    obtain ⟨u, rfl, hu, hr, rfl⟩ := hrel
    have hcu := HC.out u hu
    have hui : (u : Int) < (par.length : Int) := by omega
    have hle := HP.out u hu
    have HRT := Lib.hid hr
    by_cases e : par.getD u 0 = u
    · have F : Hid (rootP par v = u) := Lib.hid (hr.symm.trans (root_end e))
      rw [e] at hcu
      clear hr e hle
      go_wp2_with fail
      go_ret
      exact ⟨congrArg (fun n : Nat => Ending.returned (.int .i64 (n : Int))) F.out.symm, rfl⟩
    · have HN := Lib.hid (root_next HP.out hu)
      have hneq : (((par.getD u 0 : Nat) : Int) != ((u : Nat) : Int)) = true := by rw [bne_iff_ne]; omega
      have hlt : par.getD u 0 < u := by omega
      generalize par.getD u 0 = p at *
      clear hr hle e
      go_wp2_with fail
      go_roundw
      case rel => exact ⟨p, rfl, by omega, HN.out.symm.trans HRT.out, trivial⟩
      case measure => simp [intOf]; omega
end Go.Proofs.YtklbehapbchnaaaDoor
namespace Go.Proofs.YtklbehapbchnaaaDoor
open Go.RowKit
set_option linter.unusedVariables false
theorem ltA_1 {a b : Arc3} (h : a.1 ≠ b.1) : ltA a b = decide (a.1 < b.1) := by
  unfold ltA
  rw [beq_eq_false_iff_ne.2 h]; simp
theorem ltA_2 {a b : Arc3} (h : a.1 = b.1) (h2 : a.2.2 ≠ b.2.2) : ltA a b = decide (a.2.2 < b.2.2) := by
  unfold ltA
  rw [beq_eq_false_iff_ne.2 h2, h]; simp
theorem ltA_3 {a b : Arc3} (h : a.1 = b.1) (h2 : a.2.2 = b.2.2) : ltA a b = decide (a.2.1 < b.2.1) := by
  unfold ltA
  rw [h, h2]; simp
theorem l25Less_any (a b : Arc3) (w : World) :
    Calls Tryd.prog 63 #[.agg #[.int .i64 ((a.1 : Nat) : Int), .int .i64 ((a.2.1 : Nat) : Int), .int .i64 ((a.2.2 : Nat) : Int)], .agg #[.int .i64 ((b.1 : Nat) : Int), .int .i64 ((b.2.1 : Nat) : Int), .int .i64 ((b.2.2 : Nat) : Int)]] w fun e w' => e = .returned (.bool (ltA a b)) ∧ Below w.heap.size w w' := by
  obtain ⟨a1, a2, a3⟩ := a
  obtain ⟨b1, b2, b3⟩ := b
  simp only []
  have HB : Hid (∀ o1 o2, Below w.heap.size w ((w.alloc o1).alloc o2)) := Lib.hid (fun o1 o2 => ((Below.refl _ w).alloc (Nat.le_refl _) _).alloc (by simp) _)
  by_cases h1 : a1 = b1
  · by_cases h2 : a3 = b3
    · have F : Hid (ltA (a1, a2, a3) (b1, b2, b3) = decide (a2 < b2)) := Lib.hid (ltA_3 h1 h2)
      subst h1 h2
      go_enter Tryd.func63, Tryd.ntmps63
      go_wp2_with fail
      go_ret
      exact ⟨ret_bool (by rw [F.out]), HB.out _ _⟩
    · have F : Hid (ltA (a1, a2, a3) (b1, b2, b3) = decide (a3 < b3)) := Lib.hid (ltA_2 h1 h2)
      have hn : (((a3 : Nat) : Int) != ((b3 : Nat) : Int)) = true := by rw [bne_iff_ne]; omega
      subst h1
      clear h2
      go_enter Tryd.func63, Tryd.ntmps63
      go_wp2_with fail
      go_ret
      exact ⟨ret_bool (by rw [F.out]), HB.out _ _⟩
  · have F : Hid (ltA (a1, a2, a3) (b1, b2, b3) = decide (a1 < b1)) := Lib.hid (ltA_1 h1)
    have hn : (((a1 : Nat) : Int) != ((b1 : Nat) : Int)) = true := by rw [bne_iff_ne]; omega
    clear h1
    go_enter Tryd.func63, Tryd.ntmps63
    go_wp2_with fail
    go_ret
    exact ⟨ret_bool (by rw [F.out]), HB.out _ _⟩
theorem idx_lt {ord : List Nat} {x j : Nat} (h : ∀ i, i < j → ord.getD i 0 ≠ x) (hj : j < ord.length) (he : ord.getD j 0 = x) : ord.idxOf x = j := by
  have hx : x ∈ ord := by rw [← he, List.getD_eq_getElem?_getD, List.getElem?_eq_getElem hj]; exact List.getElem_mem hj
  have h1 := List.idxOf_lt_length_of_mem hx
  have h2 := List.getElem_idxOf h1
  refine Nat.le_antisymm (Nat.le_of_not_lt fun hlt => ?_) (Nat.le_of_not_lt fun hlt => ?_)
  · have h3 := List.not_of_lt_findIdx (p := (· == x)) (xs := ord) (i := j) hlt
    rw [List.getD_eq_getElem?_getD, List.getElem?_eq_getElem hj] at he
    have he' : ord[j] = x := he
    simp [he'] at h3
  · refine h _ hlt ?_
    rw [List.getD_eq_getElem?_getD, List.getElem?_eq_getElem h1]
    exact h2
/-- the index, or -1 -/
def idxZ (ord : List Nat) (x : Nat) : Int := if x ∈ ord then ((ord.idxOf x : Nat) : Int) else -1
set_option maxHeartbeats 1000000 in
theorem l25Index_any (ord : List Nat) (a : Option Addr) (cap x : Nat) (w : World) (hI : IntsIn w a (ord.map Int.ofNat)) (hl : ord.length ≤ 1000) :
    Calls Tryd.prog 44 #[.slice a ord.length cap, .int .i64 (x : Nat)] w fun e w' => e = .returned (.int .i64 (idxZ ord x)) ∧ w = w' := by
  have HI := Lib.hid hI
  clear hI
  go_enter Tryd.func44, Tryd.ntmps44
  go_wp2_with fail
  go_loopw [9] (fun vi wr => ∃ i : Nat, i ≤ ord.length ∧ vi = .int .i64 (i : Nat) ∧ Hid (∀ k, k < i → ord.getD k 0 ≠ x) ∧ wr = w) (fun vi _ => ord.length - (intOf vi).toNat)
  case atStart => exact ⟨0, Nat.zero_le _, rfl, Lib.hid (fun k hk => by omega), rfl⟩
  case round =>
    obtain ⟨i, hi, rfl, HN, rfl⟩ := hrel
    by_cases hil : i < ord.length
    · obtain ⟨b, off, rfl, hc⟩ := nat_cell HI.out hil
      have hci := hc i hil
      have hii : (i : Int) < (ord.length : Int) := by omega
      clear hc
      by_cases e : ord.getD i 0 = x
      · have F : Hid (idxZ ord x = ((i : Nat) : Int)) := Lib.hid (by
          unfold idxZ
          rw [if_pos (by rw [← e, List.getD_eq_getElem?_getD, List.getElem?_eq_getElem hil]; exact List.getElem_mem hil), idx_lt HN.out hil e])
        rw [e] at hci
        clear e
        go_wp2_with fail
        go_ret
        exact ⟨congrArg (fun n : Int => Ending.returned (.int .i64 n)) F.out.symm, rfl⟩
      · have hq : (((ord.getD i 0 : Nat) : Int) == ((x : Nat) : Int)) = false := by rw [beq_eq_false_iff_ne]; omega
        have HN2 : Hid (∀ k, k < i + 1 → ord.getD k 0 ≠ x) := Lib.hid (fun k hk => by
          by_cases e2 : k = i
          · rw [e2]; exact e
          · exact HN.out k (by omega))
        clear e
        generalize ord.getD i 0 = y at *
        go_wp2_with fail
        go_roundw
        case rel => exact ⟨i + 1, by omega, by go_num, HN2, trivial⟩
        case measure => simp [intOf]; omega
    · obtain rfl : i = ord.length := by omega
      have F : Hid (idxZ ord x = -1) := Lib.hid (by
        unfold idxZ
        rw [if_neg (fun hx => by
          have h1 := List.idxOf_lt_length_of_mem hx
          refine HN.out _ h1 ?_
          rw [List.getD_eq_getElem?_getD, List.getElem?_eq_getElem h1]
          exact List.getElem_idxOf h1)])
      go_wp2_with fail
      go_ret
      exact ⟨congrArg (fun n : Int => Ending.returned (.int .i64 n)) F.out.symm, rfl⟩
end Go.Proofs.YtklbehapbchnaaaDoor
namespace Go.Proofs.YtklbehapbchnaaaDoor
open Go.RowKit
set_option linter.unusedVariables false
theorem sum_setN : ∀ (l : List Nat) (i x : Nat), i < l.length → (l.set i x).sum + l.getD i 0 = l.sum + x
  | [], i, x, h => by simp at h
  | a :: l, 0, x, h => by simp; omega
  | a :: l, i + 1, x, h => by
    have ih := sum_setN l i x (by simpa using h)
    simp only [List.set_cons_succ, List.sum_cons, List.getD_cons_succ]
    omega
/-- nothing to join for a pair of arcs -/
def okPr (r : Nat → Nat) (a b : Arc3) : Prop := a.2.2 = b.2.2 → (r a.1 = r b.1 ↔ r a.2.1 = r b.2.1)
structure ParS (F : List Arc3) (n : Nat) (par : List Nat) : Prop where
  len : par.length = n
  ok : ParOk par
  fs : FoldS F (rootP par)
theorem range_at {n v : Nat} (h : v < n) : (List.range n).getD v 0 = v := by
  rw [List.getD_eq_getElem?_getD, List.getElem?_range h]; rfl
theorem ParS.start (F : List Arc3) (n : Nat) : ParS F n (List.range n) := by
  refine ⟨List.length_range, fun v hv => ?_, ?_⟩
  · rw [List.length_range] at hv
    rw [range_at hv]; exact Nat.le_refl _
  · have e : rootP (List.range n) = id := by
      funext v
      by_cases hv : v < n
      · exact root_end (range_at hv)
      · exact root_far (by rw [List.length_range]; omega)
    rw [e]; exact FoldS.start F
theorem ParS.link {F : List Arc3} {n : Nat} {par : List Nat} (h : ParS F n par) {x y : Nat} (hx : x < n) (hy : y < n) (hxr : par.getD x 0 = x) (hyr : par.getD y 0 = y) (hne : x ≠ y) (hc : FoldC F x y) :
    ParS F n (par.set (max x y) (min x y)) ∧ (par.set (max x y) (min x y)).sum < par.sum := by
  have hl := h.len
  obtain ⟨h1, h2⟩ := root_link h.ok (by omega) (by omega) hxr hyr hne
  refine ⟨⟨by rw [List.length_set]; exact hl, h1, ?_⟩, ?_⟩
  · have e : rootP (par.set (max x y) (min x y)) = fun v => mgV x y (rootP par v) := funext h2
    rw [e]; exact h.fs.merge hc
  · have hs := sum_setN par (max x y) (min x y) (by omega)
    have hm : par.getD (max x y) 0 = max x y := by
      rcases Nat.le_total x y with e | e
      · rw [Nat.max_eq_right e]; exact hyr
      · rw [Nat.max_eq_left e]; exact hxr
    omega
/-- while a pass goes on -/
def PassP (F : List Arc3) (par0 par : List Nat) (ch : Bool) (i j : Nat) : Prop :=
  (ch = true → par.sum < par0.sum) ∧ (ch = false → par = par0 ∧ ∀ i' j' (h : i' < F.length) (h' : j' < F.length), j' < i' → (i' < i ∨ i' = i ∧ j' < j) → okPr (rootP par0) F[i'] F[j'])
theorem PassP.start (F : List Arc3) (par : List Nat) : PassP F par par false 0 0 := ⟨fun h => (by cases h), fun _ => ⟨rfl, fun i' j' _ _ _ h => by omega⟩⟩
theorem PassP.row {F : List Arc3} {par0 par : List Nat} {ch : Bool} {i : Nat} (h : PassP F par0 par ch i i) : PassP F par0 par ch (i + 1) 0 :=
  ⟨h.1, fun hc => ⟨(h.2 hc).1, fun i' j' h1 h2 h3 h4 => (h.2 hc).2 i' j' h1 h2 h3 (by omega)⟩⟩
theorem PassP.skip {F : List Arc3} {par0 par : List Nat} {ch : Bool} {i j : Nat} (h : PassP F par0 par ch i j) (hi : i < F.length) (hj : j < F.length) (ho : okPr (rootP par) F[i] F[j]) : PassP F par0 par ch i (j + 1) := by
  refine ⟨h.1, fun hc => ?_⟩
  obtain ⟨h1, h2⟩ := h.2 hc
  refine ⟨h1, fun i' j' a b c d => ?_⟩
  by_cases e : i' = i ∧ j' = j
  · obtain ⟨rfl, rfl⟩ := e
    rw [h1] at ho; exact ho
  · exact h2 i' j' a b c (by omega)
theorem PassP.drop {F : List Arc3} {par0 par par' : List Nat} {ch : Bool} {i j : Nat} (h : PassP F par0 par ch i j) (hs : par'.sum < par.sum) (j' : Nat) : PassP F par0 par' true i j' := by
  refine ⟨fun _ => ?_, fun hc => by cases hc⟩
  cases ch with
  | true => have := h.1 rfl; omega
  | false => have := (h.2 rfl).1; rw [this] at hs; exact hs
theorem PassP.shut {F : List Arc3} {par0 par : List Nat} {j : Nat} (h : PassP F par0 par false F.length j) : par = par0 ∧ Shut F (rootP par) := by
  obtain ⟨h1, h2⟩ := h.2 rfl
  refine ⟨h1, fun a ha b hb he => ?_⟩
  rw [h1]
  obtain ⟨i, hi, rfl⟩ := List.mem_iff_getElem.1 ha
  obtain ⟨k, hk, rfl⟩ := List.mem_iff_getElem.1 hb
  rcases Nat.lt_trichotomy k i with e | e | e
  · have := h2 i k hi hk e (.inl hi) he
    exact ⟨this.1, this.2⟩
  · subst e; exact ⟨fun _ => rfl, fun _ => rfl⟩
  · have := h2 k i hk hi e (.inl hk) he.symm
    exact ⟨fun e => (this.1 e.symm).symm, fun e => (this.2 e.symm).symm⟩
/-- the parents in memory -/
def PaR (w wr : World) (g cap : Nat) (par : List Nat) : Prop := Bld 3 1 w wr (.slice (some ⟨g, 0, none⟩) par.length cap) par.length ((par.map Int.ofNat).map (Value.int .i64))
theorem PaR.later {w wr wr' : World} {g cap : Nat} {par : List Nat} (h : PaR w wr g cap par) (hb : Below wr.heap.size wr wr') : PaR w wr' g cap par := Bld.later h hb
theorem PaR.set {w wr : World} {g cap : Nat} {par : List Nat} (h : PaR w wr g cap par) (j x : Nat) : PaR w (wr.setCell ⟨g, j, none⟩ (.int .i64 (x : Nat))) g cap (par.set j x) := by
  unfold PaR at h ⊢
  rw [List.length_set, List.map_set, List.map_set]
  exact ⟨(h.1.stored j _).1, h.2.setCell (h.1.lt g rfl).1 _⟩
theorem PaR.ints {w wr : World} {g cap : Nat} {par : List Nat} (h : PaR w wr g cap par) : IntsIn wr (some ⟨g, 0, none⟩) (par.map Int.ofNat) := owns_ints h.1
theorem PaR.cell {w wr : World} {g cap : Nat} {par : List Nat} (h : PaR w wr g cap par) {j : Nat} (hj : j < par.length) : wr.cell? ⟨g, j, none⟩ = some (.int .i64 ((par.getD j 0 : Nat) : Int)) := by
  obtain ⟨b, off, e, hc⟩ := nat_cell h.ints hj
  simp only [Option.some.injEq, Addr.mk.injEq, and_true] at e
  obtain ⟨rfl, rfl⟩ := e
  have := hc j hj
  rwa [Nat.zero_add] at this
theorem PaR.frozen {w wr : World} {g cap : Nat} {par : List Nat} (h : PaR w wr g cap par) (j : Nat) : wr.frozen? ⟨g, j, none⟩ = false := h.1.frozenAt j
theorem PaR.cap {w wr : World} {g cap : Nat} {par : List Nat} (h : PaR w wr g cap par) : par.length ≤ cap := by
  rcases h.1.2 with ⟨hv, _⟩ | ⟨g', cap', cur, hv, _, _, hn, _⟩
  · simp at hv
  · simp only [Value.slice.injEq] at hv
    obtain ⟨_, _, rfl⟩ := hv
    exact hn
/-- what the pass is left with -/
def RetPar (F : List Arc3) (n : Nat) (w : World) (e : Ending) (w' : World) : Prop := ∃ g cap par, e = .returned (.slice (some ⟨g, 0, none⟩) n cap) ∧ PaR w w' g cap par ∧ ParS F n par ∧ Shut F (rootP par)
end Go.Proofs.YtklbehapbchnaaaDoor
namespace Go.Proofs.YtklbehapbchnaaaDoor
open Go.RowKit
set_option linter.unusedVariables false
theorem putA_at : ∀ {L : List Arc3} {a : Arc3} {k : Nat}, (∀ i (h : i < L.length), i < k → ltA L[i] a = true) → (∀ h : k < L.length, ltA L[k] a = false) → k ≤ L.length → putA L a = if L[k]? = some a then L else L.take k ++ a :: L.drop k
  | [], a, k, h1, h2, hk => by
    obtain rfl : k = 0 := by simpa using hk
    simp [putA]
  | b :: L, a, 0, h1, h2, hk => by
    have h3 : ltA b a = false := h2 (by simp)
    unfold putA
    rw [if_neg (by rw [h3]; exact Bool.false_ne_true)]
    by_cases e : b = a
    · rw [if_pos e]; simp [e]
    · rw [if_neg e]; simp [e]
  | b :: L, a, k + 1, h1, h2, hk => by
    have h3 : ltA b a = true := h1 0 (by simp) (by omega)
    have ih := putA_at (L := L) (a := a) (k := k) (fun i h hi => by have := h1 (i + 1) (by simp; omega) (by omega); exact this) (fun h => by have := h2 (by simp; omega); exact this) (by simpa using hk)
    unfold putA
    rw [if_pos h3, ih]
    simp only [List.getElem?_cons_succ, List.take_succ_cons, List.drop_succ_cons]
    split <;> simp
theorem putA_len : ∀ (L : List Arc3) (a : Arc3), (putA L a).length ≤ L.length + 1
  | [], a => by simp [putA]
  | b :: L, a => by
    have ih := putA_len L a
    unfold putA
    split
    · simp; omega
    · split <;> simp
/-- the cells of an arc of a list -/
theorem arc_cells {w : World} {a : Option Addr} {L : List Arc3} (h : ArcsIn w a L) {k : Nat} (hk : k < L.length) : ∃ b off, a = some ⟨b, off, none⟩ ∧ b < w.heap.size ∧ ∀ j (hj : j < L.length), w.cell? ⟨b, off + j * 3, none⟩ = some (.int .i64 ((L[j].1 : Nat) : Int)) ∧ w.cell? ⟨b, off + j * 3 + 1, none⟩ = some (.int .i64 ((L[j].2.1 : Nat) : Int)) ∧ w.cell? ⟨b, off + j * 3 + 2, none⟩ = some (.int .i64 ((L[j].2.2 : Nat) : Int)) := by
  obtain ⟨b, off, ha, hb, hc⟩ := RowsIn.cell arcV_len (by omega) h hk
  exact ⟨b, off, ha, hb, fun j hj => ⟨hc j hj 0 _ rfl, hc j hj 1 _ rfl, hc j hj 2 _ rfl⟩⟩
theorem arcC_take (L : List Arc3) (k : Nat) : arcC (L.take k) = (arcC L).take (k * 3) := by
  induction L generalizing k with
  | nil => simp [arcC, cellsL]
  | cons b L ih =>
    cases k with
    | zero => simp [arcC, cellsL]
    | succ k =>
      have := ih k
      unfold arcC cellsL at *
      rw [List.take_succ_cons, List.flatMap_cons, List.flatMap_cons, this, show (k + 1) * 3 = 3 + k * 3 by omega, List.take_append, arcV_len]
      rw [List.take_of_length_le (show (arcV b).length ≤ 3 + k * 3 by rw [arcV_len]; omega), show 3 + k * 3 - 3 = k * 3 by omega]
theorem ArcsIn.take {w : World} {a : Option Addr} {L : List Arc3} (h : ArcsIn w a L) (k : Nat) : ArcsIn w a (L.take k) := by
  rcases h with h | ⟨b, off, ha, hc⟩
  · refine .inl ?_
    have h2 : arcC L = [] := h
    show arcC (L.take k) = []
    rw [arcC_take, h2]; simp
  · refine .inr ⟨b, off, ha, fun i hi => ?_⟩
    have h2 : i < ((arcC L).take (k * 3)).length := by rw [← arcC_take]; exact hi
    have h3 : i < (arcC L).length := by rw [List.length_take] at h2; omega
    rw [hc i h3]
    have e : (cellsL arcV (L.take k))[i]? = (cellsL arcV L)[i]? := by
      show (arcC (L.take k))[i]? = (arcC L)[i]?
      rw [arcC_take, List.getElem?_take_of_lt (by rw [List.length_take] at h2; omega)]
    rw [List.getElem?_eq_getElem hi] at e
    replace e := e.trans (List.getElem?_eq_getElem (l := cellsL arcV L) h3)
    simp only [Option.some.injEq] at e
    exact congrArg some e.symm
theorem arcC_drop (L : List Arc3) (k : Nat) : arcC (L.drop k) = (arcC L).drop (k * 3) := by
  induction L generalizing k with
  | nil => simp [arcC, cellsL]
  | cons b L ih =>
    cases k with
    | zero => simp
    | succ k =>
      have := ih k
      unfold arcC cellsL at *
      rw [List.drop_succ_cons, List.flatMap_cons, this, show (k + 1) * 3 = 3 + k * 3 by omega, List.drop_append, arcV_len]
      rw [List.drop_eq_nil_of_le (show (arcV b).length ≤ 3 + k * 3 by rw [arcV_len]; omega), show 3 + k * 3 - 3 = k * 3 by omega]
      rfl
theorem ArcsIn.drop {w : World} {b off : Nat} {L : List Arc3} (h : ArcsIn w (some ⟨b, off, none⟩) L) (k : Nat) : ArcsIn w (some ⟨b, off + k * 3, none⟩) (L.drop k) := by
  rcases h with h | ⟨b', off', ha, hc⟩
  · refine .inl ?_
    have h2 : arcC L = [] := h
    show arcC (L.drop k) = []
    rw [arcC_drop, h2]; simp
  · simp only [Option.some.injEq, Addr.mk.injEq, and_true] at ha
    obtain ⟨rfl, rfl⟩ := ha
    refine .inr ⟨b, off + k * 3, rfl, fun i hi => ?_⟩
    have h2 : i < ((arcC L).drop (k * 3)).length := by rw [← arcC_drop]; exact hi
    have h3 : k * 3 + i < (arcC L).length := by rw [List.length_drop] at h2; omega
    rw [show off + k * 3 + i = off + (k * 3 + i) by omega, hc _ h3]
    have e : (cellsL arcV (L.drop k))[i]? = (cellsL arcV L)[k * 3 + i]? := by
      show (arcC (L.drop k))[i]? = (arcC L)[k * 3 + i]?
      rw [arcC_drop, List.getElem?_drop]
    rw [List.getElem?_eq_getElem hi] at e
    replace e := e.trans (List.getElem?_eq_getElem (l := cellsL arcV L) h3)
    simp only [Option.some.injEq] at e
    exact congrArg some e.symm
theorem ArcsIn.none {w : World} {L : List Arc3} (h : ArcsIn w Option.none L) : L = [] := by
  rcases h with h | ⟨_, _, ha, _⟩
  · have h2 := arcC_len L
    have h3 : arcC L = [] := h
    rw [h3] at h2
    exact List.eq_nil_of_length_eq_zero (by simp at h2; omega)
  · cases ha
end Go.Proofs.YtklbehapbchnaaaDoor
