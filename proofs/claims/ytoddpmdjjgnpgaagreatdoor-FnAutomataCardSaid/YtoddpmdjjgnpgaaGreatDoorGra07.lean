/-
  Functions over slices of integers: indices, and the laws' own copies and comparisons.
-/
import Derived.Test.YtoddpmdjjgnpgaaGreatDoorGra06
import Derived.Test.YtoddpmdjjgnpgaaGreatDoorGra03
import Derived.Test.YtoddpmdjjgnpgaaGreatDoorGra01
import Derived.Test.YtoddpmdjjgnpgaaGreatDoorGra04
import Derived.Deep.QuietTactic
import Derived.BigQuiet
import Derived.Test.YtoddpmdjjgnpgaaGreatDoorGra05
namespace Go.Proofs.YtoddpmdjjgnpgaaGreatDoor
open Go.RowKit
set_option linter.unusedVariables false
open Classical in
/-- the normal form of a word, if there is one -/
noncomputable def nfC (R : List RulD) (u : ByteArray) : ByteArray := if h : ∃ x, NormIs R u x then Classical.choose h else ⟨#[]⟩
theorem nfC_eq {R : List RulD} {u x : ByteArray} (h : NormIs R u x) : nfC R u = x := by
  have h1 : ∃ x, NormIs R u x := ⟨x, h⟩
  unfold nfC
  rw [dif_pos h1]
  exact (Classical.choose_spec h1).uniq h
/-- the place of a word among words -/
def idxTo (L : List ByteArray) (v : ByteArray) (j : Nat) : Option Nat := (List.range j).find? fun i => (nthS L i).toList == v.toList
def idxB (L : List ByteArray) (v : ByteArray) : Int := match idxTo L v L.length with | some i => (i : Int) | none => -1
theorem idxTo_zero (L : List ByteArray) (v : ByteArray) : idxTo L v 0 = none := rfl
theorem idxTo_succ {L : List ByteArray} {v : ByteArray} {j : Nat} (h : idxTo L v j = none) (hne : ((nthS L j).toList == v.toList) = false) : idxTo L v (j + 1) = none := by
  unfold idxTo at *
  rw [List.range_succ, List.find?_append, h]
  simp [hne]
theorem idxB_at {L : List ByteArray} {v : ByteArray} {j : Nat} (h : idxTo L v j = none) (hj : j < L.length) (he : ((nthS L j).toList == v.toList) = true) : idxB L v = (j : Int) := by
  have h1 : idxTo L v (j + 1) = some j := by
    unfold idxTo at *
    rw [List.range_succ, List.find?_append, h]
    simp [he]
  have h2 : idxTo L v L.length = some j := by
    obtain ⟨d, hd⟩ := Nat.exists_eq_add_of_le hj
    rw [hd]
    unfold idxTo at *
    rw [List.range_add, List.find?_append, show j.succ = j + 1 from rfl, h1]
    rfl
  unfold idxB
  rw [h2]
theorem idxB_none {L : List ByteArray} {v : ByteArray} {j : Nat} (h : idxTo L v j = none) (hj : ¬ j < L.length) (hl : j ≤ L.length) : idxB L v = -1 := by
  obtain rfl : j = L.length := by omega
  unfold idxB
  rw [h]
/-- the entries of a row of the table, up to a column -/
noncomputable def rowTo (R : List RulD) (L : List ByteArray) (i j : Nat) : List Int := (List.range j).map fun b => idxB L (nfC R (nthS L i ++ nthS L b))
/-- the entries of the rows before i, and of the row i up to a column -/
noncomputable def prodTo (R : List RulD) (L : List ByteArray) (i j : Nat) : List Int := ((List.range i).flatMap fun a => rowTo R L a L.length) ++ rowTo R L i j
noncomputable def prodF (R : List RulD) (L : List ByteArray) : List Int := (List.range L.length).flatMap fun a => rowTo R L a L.length
theorem prodTo_done (R : List RulD) (L : List ByteArray) : prodTo R L L.length 0 = prodF R L := by
  unfold prodTo prodF
  simp [rowTo]
theorem prodTo_len (R : List RulD) (L : List ByteArray) (i j : Nat) : (prodTo R L i j).length = i * L.length + j := by
  unfold prodTo
  rw [List.length_append]
  have h : ∀ n, ((List.range n).flatMap fun a => rowTo R L a L.length).length = n * L.length := fun n => by
    induction n with
    | zero => simp
    | succ n ih =>
      rw [List.range_succ, List.flatMap_append, List.length_append, ih, Nat.succ_mul]
      simp [rowTo]
  rw [h]
  simp [rowTo]
theorem prodTo_few {R : List RulD} {L : List ByteArray} (h : L.length ≤ 40) {i j : Nat} (hi : i ≤ L.length) (hj : j ≤ L.length) : (prodTo R L i j).length ≤ 1640 := by
  rw [prodTo_len]
  have : i * L.length ≤ 40 * 40 := Nat.mul_le_mul (by omega) h
  omega
end Go.Proofs.YtoddpmdjjgnpgaaGreatDoor
namespace Go.Proofs.YtoddpmdjjgnpgaaGreatDoor
open Go.RowKit
set_option linter.unusedVariables false
abbrev Wd := List UInt8
def lt97 (x : Nat) : UInt8 := UInt8.ofNat (97 + x)
/-- one of the words ends v -/
def endsL (L : List Wd) (v : Wd) : Bool := L.any fun r => r.isSuffixOf v
theorem endsL_iff {L : List Wd} {v : Wd} : endsL L v = true ↔ ∃ r ∈ L, r <:+ v := by simp [endsL, List.any_eq_true]
def okL (L : List Wd) (v : Wd) (x : Nat) : Bool := !endsL L (v ++ [lt97 x])
/-- the number of ways to go on by m letters -/
def pwA (L : List Wd) (k : Nat) : Nat → Wd → Nat
  | 0, _ => 1
  | m + 1, v => ((List.range k).map fun x => if okL L v x = true then pwA L k m (v ++ [lt97 x]) else 0).sum
theorem suf_snoc {p v : Wd} {x : UInt8} (h : p <:+ v ++ [x]) : p = [] ∨ ∃ p', p = p' ++ [x] ∧ p' <:+ v := by
  rcases List.eq_nil_or_concat p with rfl | ⟨p', y, rfl⟩
  · exact .inl rfl
  · right
    rw [List.concat_eq_append] at h ⊢
    obtain ⟨t, ht⟩ := h
    rw [← List.append_assoc] at ht
    have h1 := List.append_inj' ht rfl
    obtain ⟨h2, h3⟩ := h1
    simp only [List.cons.injEq, and_true] at h3
    exact ⟨p', by rw [h3], t, h2⟩
theorem snoc_suf {p v : Wd} (h : p <:+ v) (x : UInt8) : p ++ [x] <:+ v ++ [x] := by
  obtain ⟨t, rfl⟩ := h
  exact ⟨t, by simp⟩
/-- what a reader keeps: proper beginnings of the words -/
def inQ (L : List Wd) (q : Wd) : Prop := q = [] ∨ ∃ r ∈ L, ∃ y t, r = q ++ y :: t
theorem inQ_init {L : List Wd} {q : Wd} {x : UInt8} (h : inQ L (q ++ [x])) : inQ L q := by
  rcases h with h | ⟨r, hr, y, t, e⟩
  · simp at h
  · exact .inr ⟨r, hr, x, y :: t, by rw [e]; simp⟩
theorem keeps_ok {L : List Wd} (hne : ∀ r ∈ L, r ≠ []) {v s : Wd} (h : s <:+ v ∧ ∀ q, inQ L q → q <:+ v → q <:+ s) (x : Nat) : okL L v x = okL L s x := by
  unfold okL
  congr 1
  rw [Bool.eq_iff_iff, endsL_iff, endsL_iff]
  constructor
  · rintro ⟨r, hr, hs⟩
    rcases suf_snoc hs with rfl | ⟨p, rfl, hp⟩
    · exact absurd rfl (hne _ hr)
    · exact ⟨_, hr, snoc_suf (h.2 p (.inr ⟨_, hr, lt97 x, [], rfl⟩) hp) _⟩
  · rintro ⟨r, hr, hs⟩
    exact ⟨r, hr, hs.trans (snoc_suf h.1 _)⟩
theorem keeps_pw {L : List Wd} (hne : ∀ r ∈ L, r ≠ []) (k : Nat) : ∀ (m : Nat) {v s : Wd}, (s <:+ v ∧ ∀ q, inQ L q → q <:+ v → q <:+ s) → pwA L k m v = pwA L k m s
  | 0, v, s, _ => rfl
  | m + 1, v, s, h => by
    unfold pwA
    congr 1
    apply List.map_congr_left
    intro x _
    rw [keeps_ok hne h x]
    have := keeps_pw hne k m (v := v ++ [lt97 x]) (s := s ++ [lt97 x]) ⟨snoc_suf h.1 _, fun q hq hs => by
      rcases suf_snoc hs with rfl | ⟨p, rfl, hp⟩
      · exact List.nil_suffix
      · exact snoc_suf (h.2 p (inQ_init hq) hp) _⟩
    rw [this]
theorem sum_zero (l : List Nat) : (l.map fun _ => 0).sum = 0 := by
  induction l with
  | nil => rfl
  | cons a l ih => simp only [List.map_cons, List.sum_cons, ih]
theorem mem_sum {l : List Nat} {f : Nat → Nat} {x : Nat} (h : x ∈ l) : f x ≤ (l.map f).sum := by
  induction l with
  | nil => cases h
  | cons a l ih =>
    simp only [List.map_cons, List.sum_cons]
    rcases List.mem_cons.1 h with rfl | h
    · omega
    · have := ih h; omega
/-- how many of Q are in U -/
def cnt (Q : List Wd) (U : Wd → Bool) : Nat := (Q.filter U).length
/-- t, and what lies below it -/
def down (f : Wd → Nat) (t : Wd) : Wd → Bool := fun u => decide (f u < f t) || decide (u = t)
end Go.Proofs.YtoddpmdjjgnpgaaGreatDoor
namespace Go.Proofs.YtoddpmdjjgnpgaaGreatDoor
set_option linter.unusedVariables false
/-- the number of a word, in base 257 -/
def wtL : Wd → Nat → Nat
  | [], a => a
  | y :: v, a => wtL v (a * 257 + (y.toNat + 1))
def wt (v : Wd) : Nat := wtL v 0
theorem wtL_add : ∀ (v : Wd) (a : Nat), wtL v a = a * 257 ^ v.length + wt v
  | [], a => by simp [wtL, wt]
  | y :: v, a => by
    unfold wt
    simp only [wtL]
    rw [wtL_add v, wtL_add v (0 * 257 + _)]
    rw [List.length_cons, Nat.pow_succ, Nat.add_mul, Nat.zero_mul, Nat.zero_add, Nat.mul_comm (257 ^ v.length) 257, ← Nat.mul_assoc]
    omega
theorem wt_app (u v : Wd) : wt (u ++ v) = wt u * 257 ^ v.length + wt v := by
  have h : ∀ (u : Wd) (a : Nat), wtL (u ++ v) a = wtL v (wtL u a) := fun u => by
    induction u with
    | nil => intro a; rfl
    | cons y u ih => intro a; exact ih _
  unfold wt
  rw [h, wtL_add]
  rfl
theorem wt_cons (y : UInt8) (v : Wd) : wt (y :: v) = (y.toNat + 1) * 257 ^ v.length + wt v := by
  have h := wt_app [y] v
  have e : wt [y] = y.toNat + 1 := by simp [wt, wtL]
  rw [e] at h
  exact h
theorem wt_lt : ∀ (v : Wd), wt v < 257 ^ v.length
  | [] => by simp [wt, wtL]
  | y :: v => by
    have ih := wt_lt v
    have h1 := y.toNat_lt
    rw [wt_cons, List.length_cons, Nat.pow_succ]
    have h2 : (y.toNat + 1) * 257 ^ v.length ≤ 256 * 257 ^ v.length := Nat.mul_le_mul_right _ (by omega)
    omega
theorem wt_ge (y : UInt8) (v : Wd) : 257 ^ v.length ≤ wt (y :: v) := by
  rw [wt_cons]
  have h2 : 1 * 257 ^ v.length ≤ (y.toNat + 1) * 257 ^ v.length := Nat.mul_le_mul_right _ (by omega)
  omega
theorem wt_len {a b : Wd} (h : wt a < wt b) : a.length ≤ b.length := by
  rcases Nat.lt_or_ge b.length a.length with h1 | h1
  · exfalso
    cases a with
    | nil => simp at h1
    | cons y v =>
      have h2 := wt_ge y v
      have h3 := wt_lt b
      have h4 : 257 ^ b.length ≤ 257 ^ v.length := Nat.pow_le_pow_right (by omega) (by simp at h1; omega)
      omega
  · exact h1
theorem wt_ctx {a b : Wd} (x y : Wd) (h : wt a < wt b) : wt (x ++ (a ++ y)) < wt (x ++ (b ++ y)) := by
  have hl := wt_len h
  rw [wt_app x (a ++ y), wt_app x (b ++ y), wt_app a y, wt_app b y, List.length_append, List.length_append, Nat.pow_add, Nat.pow_add]
  have h2 : 257 ^ a.length ≤ 257 ^ b.length := Nat.pow_le_pow_right (by omega) hl
  have h3 : wt x * (257 ^ a.length * 257 ^ y.length) ≤ wt x * (257 ^ b.length * 257 ^ y.length) := Nat.mul_le_mul_left _ (Nat.mul_le_mul_right _ h2)
  have h4 : (wt a + 1) * 257 ^ y.length ≤ wt b * 257 ^ y.length := Nat.mul_le_mul_right _ h
  have h5 : 1 ≤ 257 ^ y.length := Nat.one_le_pow _ _ (by omega)
  rw [Nat.add_mul, Nat.one_mul] at h4
  omega
theorem wt_lex : ∀ {u v : Wd}, u.length = v.length → u < v → wt u < wt v
  | [], [], _, h => absurd h (List.lt_irrefl _)
  | [], _ :: _, h, _ => by simp at h
  | _ :: _, [], h, _ => by simp at h
  | a :: u, b :: v, hl, h => by
    have hl2 : u.length = v.length := by simpa using hl
    rw [wt_cons, wt_cons, hl2]
    rcases List.cons_lt_cons_iff.1 h with h1 | ⟨rfl, h1⟩
    · have h2 := UInt8.lt_iff_toNat_lt.1 h1
      have h3 := wt_lt u
      rw [hl2] at h3
      have h4 : (a.toNat + 1 + 1) * 257 ^ v.length ≤ (b.toNat + 1) * 257 ^ v.length := Nat.mul_le_mul_right _ (by omega)
      rw [Nat.add_mul] at h4
      omega
    · have := wt_lex hl2 h1
      omega
theorem wt_short {u v : Wd} (h : u.length < v.length) : wt u < wt v := by
  cases v with
  | nil => simp at h
  | cons y v =>
    have h1 := wt_lt u
    have h2 := wt_ge y v
    have h3 : 257 ^ u.length ≤ 257 ^ v.length := Nat.pow_le_pow_right (by omega) (by simp at h; omega)
    omega
/-- rules: which left side has which right side -/
abbrev Rs := Wd → Wd → Prop
/-- one step -/
def Stp (E : Rs) (u v : Wd) : Prop := ∃ x l r y, E l r ∧ u = x ++ (l ++ y) ∧ v = x ++ (r ++ y)
theorem Stp.ctx {E : Rs} {u v : Wd} (x y : Wd) (h : Stp E u v) : Stp E (x ++ (u ++ y)) (x ++ (v ++ y)) := by
  obtain ⟨a, l, r, b, h1, rfl, rfl⟩ := h
  exact ⟨x ++ a, l, r, b ++ y, h1, by simp [List.append_assoc], by simp [List.append_assoc]⟩
theorem Stp.mono {E F : Rs} (h : ∀ l r, E l r → F l r) {u v : Wd} (s : Stp E u v) : Stp F u v := by
  obtain ⟨a, l, r, b, h1, h2, h3⟩ := s
  exact ⟨a, l, r, b, h _ _ h1, h2, h3⟩
theorem Stp.rule {E : Rs} {l r : Wd} (h : E l r) : Stp E l r := ⟨[], l, r, [], h, by simp, by simp⟩
/-- each rule makes a word less -/
def Dwn (E : Rs) : Prop := ∀ l r, E l r → wt r < wt l
theorem Dwn.stp {E : Rs} (h : Dwn E) {u v : Wd} (s : Stp E u v) : wt v < wt u := by
  obtain ⟨x, l, r, y, h1, rfl, rfl⟩ := s
  exact wt_ctx x y (h _ _ h1)
/-- many steps -/
inductive Red (E : Rs) : Wd → Wd → Prop
  | refl (u : Wd) : Red E u u
  | step {u v x : Wd} : Stp E u v → Red E v x → Red E u x
theorem Red.trans {E : Rs} {u v x : Wd} (a : Red E u v) (b : Red E v x) : Red E u x := by
  induction a with
  | refl => exact b
  | step s _ ih => exact .step s (ih b)
theorem Red.one {E : Rs} {u v : Wd} (s : Stp E u v) : Red E u v := .step s (.refl _)
theorem Red.ctx {E : Rs} {u v : Wd} (x y : Wd) (h : Red E u v) : Red E (x ++ (u ++ y)) (x ++ (v ++ y)) := by
  induction h with
  | refl => exact .refl _
  | step s _ ih => exact .step (s.ctx x y) ih
theorem Red.le {E : Rs} (hd : Dwn E) {u v : Wd} (h : Red E u v) : wt v ≤ wt u := by
  induction h with
  | refl => exact Nat.le_refl _
  | step s _ ih => have := hd.stp s; omega
theorem Red.mono {E F : Rs} (h : ∀ l r, E l r → F l r) {u v : Wd} (s : Red E u v) : Red F u v := by
  induction s with
  | refl => exact .refl _
  | step s _ ih => exact .step (s.mono h) ih
/-- no step can be made -/
def Irr (E : Rs) (u : Wd) : Prop := ∀ v, ¬ Stp E u v
/-- connected by steps, forth and back, all words below a number -/
inductive Conn (E : Rs) (n : Nat) : Wd → Wd → Prop
  | refl (u : Wd) : Conn E n u u
  | fwd {u v x : Wd} : wt u < n → wt v < n → Stp E u v → Conn E n v x → Conn E n u x
  | bwd {u v x : Wd} : wt u < n → wt v < n → Stp E v u → Conn E n v x → Conn E n u x
theorem Conn.trans {E : Rs} {n : Nat} {u v x : Wd} (a : Conn E n u v) (b : Conn E n v x) : Conn E n u x := by
  induction a with
  | refl => exact b
  | fwd h1 h2 s _ ih => exact .fwd h1 h2 s (ih b)
  | bwd h1 h2 s _ ih => exact .bwd h1 h2 s (ih b)
theorem Conn.symm {E : Rs} {n : Nat} {u v : Wd} (a : Conn E n u v) : Conn E n v u := by
  induction a with
  | refl => exact .refl _
  | fwd h1 h2 s _ ih => exact ih.trans (.bwd h2 h1 s (.refl _))
  | bwd h1 h2 s _ ih => exact ih.trans (.fwd h2 h1 s (.refl _))
theorem Conn.mono {E : Rs} {n k : Nat} (h : n ≤ k) {u v : Wd} (a : Conn E n u v) : Conn E k u v := by
  induction a with
  | refl => exact .refl _
  | fwd h1 h2 s _ ih => exact .fwd (by omega) (by omega) s ih
  | bwd h1 h2 s _ ih => exact .bwd (by omega) (by omega) s ih
theorem Conn.ctx {E : Rs} {w u v : Wd} (x y : Wd) (a : Conn E (wt w) u v) : Conn E (wt (x ++ (w ++ y))) (x ++ (u ++ y)) (x ++ (v ++ y)) := by
  induction a with
  | refl => exact .refl _
  | fwd h1 h2 s _ ih => exact .fwd (wt_ctx x y h1) (wt_ctx x y h2) (s.ctx x y) ih
  | bwd h1 h2 s _ ih => exact .bwd (wt_ctx x y h1) (wt_ctx x y h2) (s.ctx x y) ih
theorem Conn.red {E : Rs} (hd : Dwn E) {n : Nat} {u v : Wd} (h : Red E u v) (hu : wt u < n) : Conn E n u v := by
  induction h with
  | refl => exact .refl _
  | step s _ ih => have := hd.stp s; exact .fwd hu (by omega) s (ih (by omega))
/-- the critical pairs of S are connected in E below their words -/
structure Crit (S E : Rs) : Prop where
  inn : ∀ l1 r1 l2 r2 x y, S l1 r1 → S l2 r2 → l1 = x ++ (l2 ++ y) → Conn E (wt l1) r1 (x ++ (r2 ++ y))
  acr : ∀ l1 r1 l2 r2 x t y, S l1 r1 → S l2 r2 → l1 = x ++ t → l2 = t ++ y → t ≠ [] → x ≠ [] → y ≠ [] → Conn E (wt (x ++ (t ++ y))) (r1 ++ y) (x ++ r2)
/-- two words that are one: the first of two parts lies in front -/
theorem split_two {p1 q1 p2 q2 : Wd} (h : p1 ++ q1 = p2 ++ q2) (hl : p1.length ≤ p2.length) : ∃ t, p2 = p1 ++ t ∧ q1 = t ++ q2 := by
  obtain ⟨t, ht⟩ : p1 <+: p2 := List.prefix_of_prefix_length_le (List.prefix_append p1 q1) (h ▸ List.prefix_append p2 q2) hl
  refine ⟨t, ht.symm, ?_⟩
  rw [← ht, List.append_assoc] at h
  exact List.append_cancel_left h
/-- two steps from one word, the first one's place in front -/
theorem local_le {S : Rs} (hd : Dwn S) (hc : Crit S S) {p1 l1 r1 q1 p2 l2 r2 q2 : Wd} (h1 : S l1 r1) (h2 : S l2 r2) (h : p1 ++ (l1 ++ q1) = p2 ++ (l2 ++ q2)) (hl : p1.length ≤ p2.length) :
    Conn S (wt (p1 ++ (l1 ++ q1))) (p1 ++ (r1 ++ q1)) (p2 ++ (r2 ++ q2)) := by
  obtain ⟨t, rfl, h3⟩ := split_two h hl
  -- l1 ++ q1 = t ++ (l2 ++ q2)
  rcases Nat.lt_or_ge t.length l1.length with hlt | hge
  · obtain ⟨s, rfl, h5⟩ := split_two h3.symm (Nat.le_of_lt hlt)
    -- l1 = t ++ s, l2 ++ q2 = s ++ q1
    have hs : s ≠ [] := by rintro rfl; simp at hlt
    rcases Nat.lt_or_ge s.length l2.length with hlt2 | hge2
    · obtain ⟨y, rfl, rfl⟩ := split_two h5.symm (Nat.le_of_lt hlt2)
      have hy : y ≠ [] := by rintro rfl; simp at hlt2
      by_cases ht : t = []
      · subst ht
        have h6 := hc.inn _ _ _ _ [] y h2 h1 (by simp)
        have h7 := (h6.ctx p1 q2).symm
        simpa [List.append_assoc] using h7
      · have h6 := hc.acr _ _ _ _ t s y h1 h2 rfl rfl hs ht hy
        have h7 := h6.ctx p1 q2
        simpa [List.append_assoc] using h7
    · obtain ⟨y, rfl, rfl⟩ := split_two h5 hge2
      have h6 := hc.inn _ _ _ _ t y h1 h2 rfl
      have h7 := h6.ctx p1 q1
      simpa [List.append_assoc] using h7
  · obtain ⟨s, rfl, rfl⟩ := split_two h3 hge
    -- t = l1 ++ s, q1 = s ++ (l2 ++ q2)
    have s1 : Stp S (p1 ++ (r1 ++ (s ++ (l2 ++ q2)))) (p1 ++ (r1 ++ (s ++ (r2 ++ q2)))) := ⟨p1 ++ (r1 ++ s), l2, r2, q2, h2, by simp [List.append_assoc], by simp [List.append_assoc]⟩
    have s2 : Stp S (p1 ++ (l1 ++ (s ++ (r2 ++ q2)))) (p1 ++ (r1 ++ (s ++ (r2 ++ q2)))) := ⟨p1, l1, r1, _, h1, rfl, rfl⟩
    have s3 : Stp S (p1 ++ (l1 ++ (s ++ (l2 ++ q2)))) (p1 ++ (r1 ++ (s ++ (l2 ++ q2)))) := ⟨p1, l1, r1, _, h1, rfl, rfl⟩
    have s4 : Stp S (p1 ++ (l1 ++ (s ++ (l2 ++ q2)))) (p1 ++ (l1 ++ (s ++ (r2 ++ q2)))) := ⟨p1 ++ (l1 ++ s), l2, r2, q2, h2, by simp [List.append_assoc], by simp [List.append_assoc]⟩
    have d1 := hd.stp s1
    have d3 := hd.stp s3
    have d4 := hd.stp s4
    have h7 : Conn S (wt (p1 ++ (l1 ++ (s ++ (l2 ++ q2))))) (p1 ++ (r1 ++ (s ++ (l2 ++ q2)))) (p1 ++ (l1 ++ (s ++ (r2 ++ q2)))) := .fwd d3 (by omega) s1 (.bwd (by omega) d4 s2 (.refl _))
    simpa [List.append_assoc] using h7
/-- two steps from one word -/
theorem local_all {S : Rs} (hd : Dwn S) (hc : Crit S S) {w a b : Wd} (s1 : Stp S w a) (s2 : Stp S w b) : Conn S (wt w) a b := by
  obtain ⟨p1, l1, r1, q1, h1, rfl, rfl⟩ := s1
  obtain ⟨p2, l2, r2, q2, h2, h, rfl⟩ := s2
  rcases Nat.le_total p1.length p2.length with hl | hl
  · exact local_le hd hc h1 h2 h hl
  · rw [h]
    exact (local_le hd hc h2 h1 h.symm hl).symm
/-- a normal form -/
def Nf (S : Rs) (u x : Wd) : Prop := Red S u x ∧ Irr S x
theorem Nf.ex {S : Rs} (hd : Dwn S) : ∀ (n : Nat) (u : Wd), wt u < n → ∃ x, Nf S u x
  | 0, u, h => by omega
  | n + 1, u, h => by
    by_cases hi : Irr S u
    · exact ⟨u, .refl _, hi⟩
    · obtain ⟨v, hv⟩ : ∃ v, Stp S u v := Classical.byContradiction fun hn => hi fun v hv => hn ⟨v, hv⟩
      have := hd.stp hv
      obtain ⟨x, h1, h2⟩ := Nf.ex hd n v (by omega)
      exact ⟨x, .step hv h1, h2⟩
theorem Nf.conn {S : Rs} (hd : Dwn S) {n : Nat} (hu : ∀ u, wt u < n → ∀ x y, Nf S u x → Nf S u y → x = y) {u v : Wd} (h : Conn S n u v) : ∀ x, Nf S u x → Nf S v x := by
  induction h with
  | refl => intro x hx; exact hx
  | @fwd u v z h1 h2 s _ ih =>
    intro x hx
    obtain ⟨y, hy⟩ := Nf.ex hd _ v (Nat.lt_succ_self _)
    obtain rfl := hu u h1 x y hx ⟨.step s hy.1, hy.2⟩
    exact ih _ hy
  | @bwd u v z h1 h2 s _ ih =>
    intro x hx
    exact ih _ ⟨.step s hx.1, hx.2⟩
theorem Nf.uniq {S : Rs} (hd : Dwn S) (hc : Crit S S) : ∀ (n : Nat) (u : Wd), wt u < n → ∀ x y, Nf S u x → Nf S u y → x = y
  | 0, u, h => by omega
  | n + 1, u, h => by
    rintro x y ⟨h1, h2⟩ ⟨h3, h4⟩
    cases h1 with
    | refl =>
      cases h3 with
      | refl => rfl
      | step s _ => exact absurd s (h2 _)
    | @step _ a _ s1 r1 =>
      cases h3 with
      | refl => exact absurd s1 (h4 _)
      | @step _ b _ s2 r2 =>
        have c := local_all hd hc s1 s2
        have d2 := hd.stp s2
        have IH := Nf.uniq hd hc n
        have h5 := Nf.conn hd (fun v hv => IH v (by omega)) c x ⟨r1, h2⟩
        exact IH b (by omega) x y h5 ⟨r2, h4⟩
end Go.Proofs.YtoddpmdjjgnpgaaGreatDoor
namespace Go.Proofs.YtoddpmdjjgnpgaaGreatDoor
open Go.RowKit
set_option linter.unusedVariables false
theorem ba_ext0 {a b : ByteArray} (h : a.data.toList = b.data.toList) : a = b := blW_inj h
def sufBB (x p : ByteArray) : Bool := p.data.toList.isSuffixOf x.data.toList
/-- a Left of a rule ends v -/
def endsR (R : List RulD) (v : ByteArray) : Bool := R.any fun r => sufBB v r.1
theorem endsR_iff {R : List RulD} {v : ByteArray} : endsR R v = true ↔ ∃ r ∈ R, sufBB v r.1 = true := by simp [endsR, List.any_eq_true]
def keepR (R : List RulD) : Nat := lsL R - 1
/-- the letters that are kept -/
def cutR (R : List RulD) (v : ByteArray) : ByteArray := v.extract (v.size - keepR R) v.size
theorem cutR_size (R : List RulD) (v : ByteArray) : (cutR R v).size ≤ keepR R := by unfold cutR; rw [ByteArray.size_extract]; omega
theorem ba_all (v : ByteArray) : v.extract 0 v.size = v := by
  apply ba_ext0
  rw [ByteArray.data_extract, Array.toList_extract, List.extract_eq_take_drop]
  have : v.data.toList.length = v.size := rfl
  simp
  exact List.take_of_length_le (Nat.le_of_eq this)
theorem cutR_short {R : List RulD} {v : ByteArray} (h : v.size ≤ keepR R) : cutR R v = v := by
  unfold cutR; rw [show v.size - keepR R = 0 by omega, ba_all]
def okX (R : List RulD) (e : ByteArray) (x : Nat) : Bool := !endsR R (e ++ letterN x)
def nxtX (R : List RulD) (e : ByteArray) (x : Nat) : ByteArray := cutR R (e ++ letterN x)
/-- the number of ways to go on from an end by m letters -/
def paths (R : List RulD) (k : Nat) : Nat → ByteArray → Nat
  | 0, _ => 1
  | m + 1, e => ((List.range k).map fun x => if okX R e x = true then paths R k m (nxtX R e x) else 0).sum
/-- .. that begin with one of the first j letters -/
def pTo (R : List RulD) (k m : Nat) (e : ByteArray) (j : Nat) : Nat := ((List.range j).map fun x => if okX R e x = true then paths R k m (nxtX R e x) else 0).sum
theorem paths_succ (R : List RulD) (k m : Nat) (e : ByteArray) : paths R k (m + 1) e = pTo R k m e k := rfl
theorem pTo_zero (R : List RulD) (k m : Nat) (e : ByteArray) : pTo R k m e 0 = 0 := rfl
theorem pTo_yes {R : List RulD} {k m : Nat} {e : ByteArray} {j : Nat} (h : okX R e j = true) : pTo R k m e (j + 1) = pTo R k m e j + paths R k m (nxtX R e j) := by
  unfold pTo; rw [List.range_succ, List.map_append, List.sum_append]; simp [h]
theorem pTo_no {R : List RulD} {k m : Nat} {e : ByteArray} {j : Nat} (h : okX R e j = false) : pTo R k m e (j + 1) = pTo R k m e j := by
  unfold pTo; rw [List.range_succ, List.map_append, List.sum_append]; simp [h]
theorem paths_le {R : List RulD} {k : Nat} (hk : k ≤ 4) : ∀ (m : Nat) (e : ByteArray), paths R k m e ≤ 4 ^ m
  | 0, e => Nat.le_refl _
  | m + 1, e => by
    rw [paths_succ]
    have key : ∀ j, pTo R k m e j ≤ j * 4 ^ m := fun j => by
      induction j with
      | zero => rw [pTo_zero]; omega
      | succ j ih =>
        have := paths_le (R := R) hk m (nxtX R e j)
        rw [Nat.succ_mul]
        cases h : okX R e j
        · rw [pTo_no h]; omega
        · rw [pTo_yes h]; omega
    have h1 := key k
    have h2 : k * 4 ^ m ≤ 4 * 4 ^ m := Nat.mul_le_mul_right _ hk
    rw [Nat.pow_succ, Nat.mul_comm (4 ^ m) 4]
    omega
theorem pTo_mono (R : List RulD) (k m : Nat) (e : ByteArray) {i j : Nat} (h : i ≤ j) : pTo R k m e i ≤ pTo R k m e j := by
  induction h with
  | refl => exact Nat.le_refl _
  | @step j _ ih =>
    cases h : okX R e j
    · rw [pTo_no h]; exact ih
    · rw [pTo_yes h]; omega
/-- ends, and how many words have each of them -/
abbrev WayD := List (ByteArray × Nat)
/-- the words that they become by m letters more -/
def wsum (R : List RulD) (k m : Nat) (W : WayD) : Nat := (W.map fun p => p.2 * paths R k m p.1).sum
theorem wsum_app (R : List RulD) (k m : Nat) (W V : WayD) : wsum R k m (W ++ V) = wsum R k m W + wsum R k m V := by unfold wsum; rw [List.map_append, List.sum_append]
theorem wsum_one (R : List RulD) (k m : Nat) (v : ByteArray) (c : Nat) : wsum R k m [(v, c)] = c * paths R k m v := by simp [wsum]
theorem wsum_take (R : List RulD) (k m : Nat) (W : WayD) {i : Nat} (h : i < W.length) : wsum R k m (W.take (i + 1)) = wsum R k m (W.take i) + W[i].2 * paths R k m W[i].1 := by
  rw [List.take_succ_eq_append_getElem h, wsum_app, wsum_one]
theorem wsum_take_le (R : List RulD) (k m : Nat) (W : WayD) (i : Nat) : wsum R k m (W.take i) ≤ wsum R k m W := by
  have h := wsum_app R k m (W.take i) (W.drop i)
  rw [List.take_append_drop] at h
  omega
/-- more words with an end that is there -/
def addW (W : WayD) (i c : Nat) : WayD := W.modify i fun p => (p.1, p.2 + c)
theorem addW_split {W : WayD} {i c : Nat} (h : i < W.length) : addW W i c = W.take i ++ [(W[i].1, W[i].2 + c)] ++ W.drop (i + 1) := by
  unfold addW
  rw [List.modify_eq_take_cons_drop h]
  simp
theorem wsum_add {R : List RulD} {k m : Nat} {W : WayD} {i c : Nat} (h : i < W.length) : wsum R k m (addW W i c) = wsum R k m W + c * paths R k m W[i].1 := by
  have e : W = W.take i ++ [W[i]] ++ W.drop (i + 1) := by
    conv => lhs; rw [← List.take_append_drop i W, List.drop_eq_getElem_cons h]
    simp
  have h1 : wsum R k m W = wsum R k m (W.take i) + W[i].2 * paths R k m W[i].1 + wsum R k m (W.drop (i + 1)) := by
    conv => lhs; rw [e]
    rw [wsum_app, wsum_app]
    congr 2
  rw [addW_split h, wsum_app, wsum_app, wsum_one, h1, Nat.add_mul]
  omega
/-- each number is at least one -/
def PosW (W : WayD) : Prop := ∀ p ∈ W, 1 ≤ p.2
theorem PosW.len {R : List RulD} {k : Nat} : ∀ {W : WayD}, PosW W → W.length ≤ wsum R k 0 W
  | [], _ => Nat.le_refl _
  | p :: W, h => by
    have ih := PosW.len (R := R) (k := k) (W := W) (fun q hq => h q (List.mem_cons_of_mem _ hq))
    have h1 := h p List.mem_cons_self
    have e : wsum R k 0 (p :: W) = p.2 * 1 + wsum R k 0 W := by simp [wsum, paths]
    rw [e, List.length_cons]; omega
theorem PosW.add {W : WayD} (h : PosW W) (i c : Nat) : PosW (addW W i c) := fun p hp => by
  unfold addW at hp
  obtain ⟨j, hj, he⟩ := List.getElem_of_mem hp
  rw [List.getElem_modify] at he
  have h1 := h _ (List.getElem_mem (show j < W.length by simpa using hj))
  split at he
  · rw [← he]; show 1 ≤ _ + c; omega
  · rw [← he]; exact h1
theorem PosW.push {W : WayD} (h : PosW W) {v : ByteArray} {c : Nat} (hc : 1 ≤ c) : PosW (W ++ [(v, c)]) := fun p hp => by
  rcases List.mem_append.1 hp with hp | hp
  · exact h p hp
  · rw [List.mem_singleton.1 hp]; exact hc
/-- the ends are short -/
def ShortW (n : Nat) (W : WayD) : Prop := ∀ p ∈ W, p.1.size ≤ n
theorem ShortW.add {n : Nat} {W : WayD} (h : ShortW n W) (i c : Nat) : ShortW n (addW W i c) := fun p hp => by
  unfold addW at hp
  obtain ⟨j, hj, he⟩ := List.getElem_of_mem hp
  rw [List.getElem_modify] at he
  have h1 := h _ (List.getElem_mem (show j < W.length by simpa using hj))
  split at he
  · rw [← he]; exact h1
  · rw [← he]; exact h1
theorem ShortW.push {n : Nat} {W : WayD} (h : ShortW n W) {v : ByteArray} {c : Nat} (hv : v.size ≤ n) : ShortW n (W ++ [(v, c)]) := fun p hp => by
  rcases List.mem_append.1 hp with hp | hp
  · exact h p hp
  · rw [List.mem_singleton.1 hp]; exact hv
/-- the numbers of reduced words of the lengths from 0 to n -/
def growL (R : List RulD) (k n : Nat) : List Int := (List.range (n + 1)).map fun i => ((paths R k i ⟨#[]⟩ : Nat) : Int)
theorem growL_len (R : List RulD) (k n : Nat) : (growL R k n).length = n + 1 := by simp [growL]
theorem growL_succ (R : List RulD) (k n : Nat) : growL R k (n + 1) = growL R k n ++ [((paths R k (n + 1) ⟨#[]⟩ : Nat) : Int)] := by
  unfold growL; rw [List.range_succ, List.map_append]; rfl
/-- the ways of a length -/
structure WayAt (R : List RulD) (k i : Nat) (W : WayD) : Prop where
  eq : ∀ m, wsum R k m W = paths R k (i + m) ⟨#[]⟩
  pos : PosW W
  short : ShortW (keepR R) W
theorem WayAt.start (R : List RulD) (k : Nat) : WayAt R k 0 [(⟨#[]⟩, 1)] := by
  refine ⟨fun m => by rw [wsum_one, Nat.zero_add]; omega, fun p hp => ?_, fun p hp => ?_⟩
  · rw [List.mem_singleton.1 hp]; exact Nat.le_refl _
  · rw [List.mem_singleton.1 hp]; exact Nat.zero_le _
/-- behind i ends and j letters of the next one -/
structure WayTo (R : List RulD) (k : Nat) (W : WayD) (i j : Nat) (e : ByteArray) (c : Nat) (V : WayD) : Prop where
  eq : ∀ m, wsum R k m V = wsum R k (m + 1) (W.take i) + c * pTo R k m e j
  pos : PosW V
  short : ShortW (keepR R) V
theorem WayTo.start (R : List RulD) (k : Nat) (W : WayD) (e : ByteArray) (c : Nat) : WayTo R k W 0 0 e c [] :=
  ⟨fun m => by rw [pTo_zero]; simp [wsum], fun p hp => (by cases hp), fun p hp => (by cases hp)⟩
theorem WayTo.no {R : List RulD} {k : Nat} {W V : WayD} {i j c : Nat} {e : ByteArray} (h : WayTo R k W i j e c V) (hx : okX R e j = false) : WayTo R k W i (j + 1) e c V :=
  ⟨fun m => by rw [pTo_no hx]; exact h.eq m, h.pos, h.short⟩
theorem WayTo.old {R : List RulD} {k : Nat} {W V : WayD} {i j c a : Nat} {e : ByteArray} (h : WayTo R k W i j e c V) (hx : okX R e j = true) (ha : a < V.length) (he : V[a].1 = nxtX R e j) : WayTo R k W i (j + 1) e c (addW V a c) :=
  ⟨fun m => by rw [wsum_add ha, he, h.eq m, pTo_yes hx, Nat.mul_add]; omega, h.pos.add _ _, h.short.add _ _⟩
theorem WayTo.new {R : List RulD} {k : Nat} {W V : WayD} {i j c : Nat} {e : ByteArray} (h : WayTo R k W i j e c V) (hx : okX R e j = true) (hc : 1 ≤ c) : WayTo R k W i (j + 1) e c (V ++ [(nxtX R e j, c)]) :=
  ⟨fun m => by rw [wsum_app, wsum_one, h.eq m, pTo_yes hx, Nat.mul_add]; omega, h.pos.push hc, h.short.push (cutR_size _ _)⟩
theorem WayTo.row {R : List RulD} {k : Nat} {W V : WayD} {i : Nat} (hi : i < W.length) (h : WayTo R k W i k W[i].1 W[i].2 V) (e : ByteArray) (c : Nat) : WayTo R k W (i + 1) 0 e c V :=
  ⟨fun m => by rw [h.eq m, wsum_take _ _ _ _ hi, paths_succ, pTo_zero]; omega, h.pos, h.short⟩
theorem WayTo.other {R : List RulD} {k : Nat} {W V : WayD} {i : Nat} {e e' : ByteArray} {c c' : Nat} (h : WayTo R k W i 0 e c V) : WayTo R k W i 0 e' c' V := ⟨fun m => by rw [h.eq m, pTo_zero, pTo_zero]; omega, h.pos, h.short⟩
theorem WayTo.done {R : List RulD} {k n : Nat} {W V : WayD} {e : ByteArray} {c : Nat} (hW : WayAt R k n W) (h : WayTo R k W W.length 0 e c V) : WayAt R k (n + 1) V :=
  ⟨fun m => by rw [h.eq m, List.take_length, hW.eq, pTo_zero, show n + (m + 1) = n + 1 + m by omega]; omega, h.pos, h.short⟩
/-- the numbers stay small -/
theorem WayTo.le {R : List RulD} {k n : Nat} (hk : k ≤ 4) {W V : WayD} {i j : Nat} (hW : WayAt R k n W) (hi : i < W.length) (hj : j ≤ k) (h : WayTo R k W i j W[i].1 W[i].2 V) : wsum R k 0 V ≤ 4 ^ (n + 1) := by
  rw [h.eq 0]
  have h1 := wsum_take_le R k (0 + 1) W (i + 1)
  rw [wsum_take _ _ _ _ hi, paths_succ] at h1
  have h2 := pTo_mono R k 0 W[i].1 hj
  have h3 : W[i].2 * pTo R k 0 W[i].1 j ≤ W[i].2 * pTo R k 0 W[i].1 k := Nat.mul_le_mul_left _ h2
  have h4 := hW.eq (0 + 1)
  have h5 := paths_le (R := R) hk (n + (0 + 1)) ⟨#[]⟩
  rw [← h4] at h5
  have h6 : n + (0 + 1) = n + 1 := by omega
  rw [h6] at h5
  omega
theorem pow16 {n : Nat} (h : n ≤ 17) : 4 ^ n ≤ 17179869184 := Nat.le_trans (Nat.pow_le_pow_right (by omega) h) (by decide)
end Go.Proofs.YtoddpmdjjgnpgaaGreatDoor
namespace Go.Proofs.YtoddpmdjjgnpgaaGreatDoor
open Go.RowKit
set_option linter.unusedVariables false
theorem sufBB_iff {s p : ByteArray} : sufBB s p = true ↔ p.size ≤ s.size ∧ s.extract (s.size - p.size) s.size = p := by
  unfold sufBB
  rw [List.isSuffixOf_iff_suffix]
  have hl : ∀ s : ByteArray, s.data.toList.length = s.size := fun s => rfl
  have hx : p.size ≤ s.size → (s.extract (s.size - p.size) s.size).data.toList = s.data.toList.drop (s.size - p.size) := fun h => by
    rw [ByteArray.data_extract, Array.toList_extract, List.extract_eq_take_drop, List.take_of_length_le (by rw [List.length_drop, hl]; exact Nat.le_refl _)]
  constructor
  · rintro ⟨t, ht⟩
    have h1 : p.size ≤ s.size := by rw [← hl, ← hl, ← ht, List.length_append]; omega
    refine ⟨h1, ba_ext0 ?_⟩
    rw [hx h1, ← ht, List.drop_left']
    have := congrArg List.length ht
    rw [List.length_append, hl, hl] at this
    omega
  · rintro ⟨h1, h2⟩
    rw [← h2, hx h1]
    exact List.drop_suffix _ _
theorem bytes_eq2 {a b : ByteArray} : (a.toList == b.toList) = true ↔ a = b := bytes_eq
set_option maxRecDepth 20000 in
set_option maxHeartbeats 2000000 in
theorem l07Ends_any (k : Int) (l : List RulD) (v : ByteArray) (a : Option Addr) (cap : Nat) (w : World) (hl : RulesIn w a l) (hlen : l.length ≤ 2 ^ 40) (hz : ∀ j, j < l.length → (nthR l j).1.size ≤ 1000) (hv : v.size ≤ 1000) :
    Calls Tryz.prog 142 #[.agg #[.int .i64 k, .slice a l.length cap], .string v] w fun e w' => e = .returned (.bool (endsR l v)) ∧ Below w.heap.size w w' := by
  have HL := Lib.hid hl
  have HZ := Lib.hid hz
  have HA := Lib.hid (fun o => alloc_belowS w o)
  clear hl hz
  go_enter Tryz.func142, Tryz.ntmps142
  go_wp2_with fail
  go_loopw [10] (fun i wr => ∃ j : Nat, j ≤ l.length ∧ i = .int .i64 (j : Nat) ∧ Hid (∀ j', j' < j → sufBB v (nthR l j').1 = false) ∧ Below w.heap.size w wr) (fun i _ => l.length - (intOf i).toNat)
  case atStart => exact ⟨0, Nat.zero_le _, rfl, Lib.hid (fun j' h => absurd h (Nat.not_lt_zero _)), HA.out _⟩
  case round =>
    obtain ⟨j, hj, rfl, hall, hbw⟩ := hrel
    have HBW := Lib.hid hbw
    by_cases hlt : j < l.length
    · obtain ⟨b, off, rfl, hb, hc⟩ := (HL.out.later hbw).cell hlt
      obtain ⟨c1, c2⟩ := hc j hlt
      have z1 := HZ.out j hlt
      have HYE : Hid (sufBB v (nthR l j).1 = true → endsR l v = true) := Lib.hid (fun h => endsR_iff.2 ⟨_, nthR_mem hlt, h⟩)
      have HNO : Hid (sufBB v (nthR l j).1 = false → ∀ j', j' < j + 1 → sufBB v (nthR l j').1 = false) := Lib.hid (fun h j' hj' => by
        by_cases e : j' = j
        · rw [e]; exact h
        · exact hall.out j' (by omega))
      clear hc hbw
      generalize (nthR l j).1 = x at *
      generalize (nthR l j).2 = y at *
      have HSI := Lib.hid (@sufBB_iff v x)
      by_cases hle : x.size ≤ v.size
      · have g1 : decide ((x.size : Int) ≤ (v.size : Int)) = true := decide_eq_true (by omega)
        have g2 : (x.size : Int) ≤ (v.size : Int) := by omega
        have g3 : (0 : Int) ≤ (v.size : Int) - (x.size : Int) := by omega
        have g4 : (v.size : Int) - (x.size : Int) ≤ (v.size : Int) := by omega
        have g5 : ((v.size : Int) - (x.size : Int)).toNat = v.size - x.size := by omega
        have HD : Hid (∀ n, Below w.heap.size w ((wr.alloc (.cells #[.string x, .string y] 120)).drewN n)) := Lib.hid (fun n => by
          have h := HBW.out.alloc HBW.out.size (.cells #[.string x, .string y] 120)
          exact ⟨h.os, h.tape, h.output, h.size, h.block⟩)
        cases hq : ((v.extract (v.size - x.size) v.size).toList == x.toList)
        · have F := Lib.hid (HNO.out (by
            cases e : sufBB v x
            · rfl
            · have := (HSI.out.1 e).2
              rw [bytes_eq2.2 this] at hq; cases hq))
          go_wp2_with fail
          go_quiet (fail)
          go_wp2_with fail
          go_roundw
          case rel => exact ⟨j + 1, by omega, by go_num, F, HD.out _⟩
          case measure => simp [intOf]; omega
        · have F := Lib.hid (HYE.out (HSI.out.2 ⟨hle, bytes_eq2.1 hq⟩))
          go_wp2_with fail
          go_quiet (fail)
          go_wp2_with fail
          go_ret
          exact ⟨ret_bool F.out.symm, HD.out _⟩
      · have g1 : decide ((x.size : Int) ≤ (v.size : Int)) = false := decide_eq_false (by omega)
        have g1n : decide (x.size ≤ v.size) = false := decide_eq_false hle
        have F := Lib.hid (HNO.out (by
          cases e : sufBB v x
          · rfl
          · exact absurd (HSI.out.1 e).1 hle))
        have HD : Hid (∀ n, Below w.heap.size w ((wr.alloc (.cells #[.string x, .string y] 120)).drewN n)) := Lib.hid (fun n => by
          have h := HBW.out.alloc HBW.out.size (.cells #[.string x, .string y] 120)
          exact ⟨h.os, h.tape, h.output, h.size, h.block⟩)
        clear hle
        go_wp2_with fail
        go_quiet (fail)
        go_wp2_with fail
        go_roundw
        case rel => exact ⟨j + 1, by omega, by go_num, F, HD.out _⟩
        case measure => simp [intOf]; omega
    · have F : Hid (endsR l v = false) := Lib.hid (by
        cases e : endsR l v
        · rfl
        · obtain ⟨r, hr, h⟩ := endsR_iff.1 e
          obtain ⟨i, hi, rfl⟩ := mem_nthR hr
          rw [hall.out i (by omega)] at h; cases h)
      go_wp2_with fail
      go_ret
      exact ⟨ret_bool F.out.symm, HBW.out⟩
set_option maxHeartbeats 400000 in
theorem l07Cut_any (k : Int) (l : List RulD) (v : ByteArray) (a : Option Addr) (cap : Nat) (w : World) (hl : RulesIn w a l) (hlen : l.length ≤ 2 ^ 40) (hz : SzR l) (hv : v.size ≤ 1000) :
    Calls Tryz.prog 143 #[.agg #[.int .i64 k, .slice a l.length cap], .string v] w fun e w' => e = .returned (.string (cutR l v)) ∧ Below w.heap.size w w' := by
  have HL := Lib.hid hl
  have HS := Lib.hid (fun W h => specLongestSide_any k l a cap W h hlen hz)
  have hm := lsTo_le hz l.length (Nat.le_refl _)
  have hm2 : lsL l ≤ 9223372036854775807 := by unfold maxLen at hm; exact hm
  have HA := Lib.hid (fun o => alloc_belowS w o)
  have HC : Hid (keepR l = lsL l - 1) := Lib.hid rfl
  have HCU : Hid (cutR l v = v.extract (v.size - keepR l) v.size) := Lib.hid rfl
  have HCS := Lib.hid (@cutR_short l v)
  generalize cutR l v = cc at *
  generalize keepR l = q at *
  generalize lsL l = m at *
  have hq : q = m - 1 := HC.out
  clear hl hz hm
  go_enter Tryz.func143, Tryz.ntmps143
  go_wp2_with fail
  refine (HS.out _ (HL.out.later (HA.out _))).mono ?_
  rintro e w2 ⟨rfl, hb2⟩
  have HW := Lib.hid (Below.now (HA.out _) hb2)
  have e1 : max (0 : Int) ((m : Int) - 1) = (q : Int) := by omega
  clear hb2 HS
  by_cases hle : v.size ≤ q
  · have F := Lib.hid (HCS.out hle)
    have g1 : (v.size : Int) ≤ (q : Int) := by omega
    clear hq HC
    go_wp2_with fail
    go_ret
    exact ⟨ret_str F.out.symm, HW.out⟩
  · have g1 : ¬ (v.size : Int) ≤ (q : Int) := by omega
    have g3 : (0 : Int) ≤ (v.size : Int) - (q : Int) := by omega
    have g4 : (v.size : Int) - (q : Int) ≤ (v.size : Int) := by omega
    have g5 : ((v.size : Int) - (q : Int)).toNat = v.size - q := by omega
    clear hq HC
    go_wp2_with fail
    go_ret
    exact ⟨ret_str HCU.out.symm, HW.out⟩
end Go.Proofs.YtoddpmdjjgnpgaaGreatDoor
namespace Go.Proofs.YtoddpmdjjgnpgaaGreatDoor
open Go.RowKit
set_option linter.unusedVariables false
def TwoB (w wr : World) (v : Value) (xs : List Value) (u : Value) (ys : List Value) : Prop :=
  Bld 9 1 w wr v xs.length xs ∧ Bld 3 1 w wr u ys.length ys ∧ ∀ k, v.ownBlock = some k → u.ownBlock ≠ some k
theorem TwoB.later {w wr wr' : World} {v u : Value} {xs ys : List Value} (h : TwoB w wr v xs u ys) (hb : Below wr.heap.size wr wr') : TwoB w wr' v xs u ys := ⟨h.1.later hb, h.2.1.later hb, h.2.2⟩
theorem keptB {T : TypeId} {w wr wr' : World} {v : Value} {n : Nat} {xs : List Value} {own : Option Nat} (h : Bld T 1 w wr v n xs) (hg : wr.grownBy wr' own) (hne : ∀ k, v.ownBlock = some k → own ≠ some k) (ho : ∀ k, own = some k → w.heap.size ≤ k) : Bld T 1 w wr' v n xs := by
  refine ⟨h.1.kept hg ?_, h.2.grown hg h.2.size ho⟩
  cases hv : v.ownBlock with
  | none => exact .inl rfl
  | some k => exact .inr fun e => hne k hv (e.symm ▸ rfl)
theorem setGrownB (w : World) (B o : Nat) (v : Value) : w.grownBy (w.setCell ⟨B, o, none⟩ v) (some B) := by
  have hszc : (w.setCell ⟨B, o, none⟩ v).heap.size = w.heap.size := by simp
  exact ⟨rfl, rfl, rfl, by rw [hszc]; exact Nat.le_refl _, fun k hk hne => by
    unfold World.setCell
    rw [Array.getElem?_modify, if_neg (fun e : B = k => hne (by rw [e]))]⟩
theorem owns_slot {w : World} {base : Nat} {T : TypeId} {v : Value} {n : Nat} {xs : List Value} (h : w.ownsRow base T 1 v n xs) (h0 : 0 < n) : ∃ g cap, v = .slice (some ⟨g, 0, none⟩) n cap := by
  rcases h.2 with ⟨hv, h1⟩ | ⟨g, cap', cur, hv, _⟩
  · omega
  · exact ⟨g, cap', hv⟩
end Go.Proofs.YtoddpmdjjgnpgaaGreatDoor
namespace Go.Proofs.YtoddpmdjjgnpgaaGreatDoor
open Go.RowKit
set_option linter.unusedVariables false
end Go.Proofs.YtoddpmdjjgnpgaaGreatDoor
