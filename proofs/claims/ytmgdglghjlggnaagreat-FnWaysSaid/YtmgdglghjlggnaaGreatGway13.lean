/-
  The reference's l07Next.
-/
import Derived.Test.YtmgdglghjlggnaaGreatGway12
import Derived.Test.YtmgdglghjlggnaaGreatGway11
import Derived.Test.YtmgdglghjlggnaaGreatGway03
import Derived.Test.YtmgdglghjlggnaaGreatGway07
import Derived.Deep.QuietTactic
import Derived.BigQuiet
import Derived.Test.YtmgdglghjlggnaaGreatGway05
namespace Go.Proofs.YtmgdglghjlggnaaGreat
open Go.RowKit
set_option linter.unusedVariables false
/-- a box of a step -/
def BoxS (g x y : Nat) (W : World) : Prop := W.heap[g]? = some (.cells #[.int .i64 (x : Nat), .int .i64 (y : Nat)] 136 (0, 0))
theorem BoxS.facts {g x y : Nat} {W : World} (h : BoxS g x y W) : (W.cell? ⟨g, 0, none⟩ = some (.int .i64 (x : Nat)) ∧ W.cell? ⟨g, 1, none⟩ = some (.int .i64 (y : Nat))) ∧ W.frozen? ⟨g, 0, none⟩ = false ∧ W.frozen? ⟨g, 1, none⟩ = false := by
  unfold BoxS at h
  refine ⟨sys_cells h, ?_, ?_⟩ <;> simp [World.frozen?, h]
theorem BoxS.set {g x y : Nat} {W : World} (h : BoxS g x y W) (x2 y2 : Nat) : BoxS g x2 y2 ((W.setCell ⟨g, 0, none⟩ (.int .i64 (x2 : Nat))).setCell ⟨g, 1, none⟩ (.int .i64 (y2 : Nat))) := by
  unfold BoxS at *
  unfold World.setCell
  simp [Array.getElem?_modify, h]
theorem BoxS.later {g x y : Nat} {W W' : World} (h : BoxS g x y W) (hb : Below W.heap.size W W') : BoxS g x y W' := (hb.block g (Array.getElem?_eq_some_iff.1 h).1).trans h
/-- what is known of the first step -/
def FsP (R : List RulD) (v : ByteArray) (x y : Nat) (b : Bool) : Prop := (b = true ∧ (stepsF R v).head? = some (x, y)) ∨ (b = false ∧ (stepsF R v).head? = none ∧ x = 0 ∧ y = 0)
theorem RetFS.form {R : List RulD} {v : ByteArray} {w : World} {e : Ending} {w' : World} (h : RetFS R v w e w') : ∃ x y b, FsP R v x y b ∧ e = .returned (.tuple #[.agg #[.int .i64 (x : Nat), .int .i64 (y : Nat)], .bool b]) ∧ Below w.heap.size w w' := by
  obtain ⟨hb, ⟨s, hs, rfl⟩ | ⟨hs, rfl⟩⟩ := h
  · exact ⟨s.1, s.2, true, .inl ⟨rfl, hs⟩, rfl, hb⟩
  · exact ⟨0, 0, false, .inr ⟨rfl, hs, rfl, rfl⟩, rfl, hb⟩
end Go.Proofs.YtmgdglghjlggnaaGreat
namespace Go.Proofs.YtmgdglghjlggnaaGreat
open Go.RowKit
set_option linter.unusedVariables false
/-- rules that make a word less -/
def sysW (k : Int) (R : List RulD) : Prop := ((1 ≤ k ∧ k ≤ 4) ∧ ∀ r ∈ R, ruleP k r) ∧ ∀ r ∈ R, lessS r.2 r.1 = true
theorem sysP.weak {k : Int} {R : List RulD} (h : sysP k R) : sysW k R := ⟨⟨h.1.1.1, h.1.2⟩, h.2⟩
/-- a step of an ordered system makes a word less -/
theorem step_lessW {k : Int} {R : List RulD} (hs : sysW k R) {w : ByteArray} {s : Nat × Nat} (hm : s ∈ stepsF R w) : rk (applyF R w s).data.toList < rk w.data.toList := by
  obtain ⟨h1, h2, h3⟩ := mem_stepsF.1 hm
  have hr := nthR_mem h2
  have hp := hs.1.2 _ hr
  have hl := hs.2 _ hr
  unfold applyF
  rw [replF_list]
  conv => rhs; rw [split_at h3]
  exact rk_swap (lw_of hp.1.1.1) (lw_of hp.1.1.2) hl
theorem step_sizeW {k : Int} {R : List RulD} (hs : sysW k R) {w : ByteArray} {s : Nat × Nat} (hm : s ∈ stepsF R w) : (applyF R w s).size ≤ w.size ∧ s.2 + (nthR R s.1).1.size ≤ w.size := by
  obtain ⟨h1, h2, h3⟩ := mem_stepsF.1 hm
  have hr := nthR_mem h2
  have hp := hs.1.2 _ hr
  have hl := hs.2 _ hr
  have hf := preAt_fits h3 (by have := hp.2; omega)
  have hle : (nthR R s.1).2.size ≤ (nthR R s.1).1.size := by
    unfold lessS ltW at hl
    have e1 : (blW (nthR R s.1).1).length = (nthR R s.1).1.size := rfl
    have e2 : (blW (nthR R s.1).2).length = (nthR R s.1).2.size := rfl
    rcases of_decide_eq_true hl with h | ⟨h, _⟩ <;> omega
  refine ⟨?_, hf⟩
  unfold applyF
  rw [replF_size hf]
  omega
theorem step_wordW {k : Int} {R : List RulD} (hs : sysW k R) {w : ByteArray} (hw : wordOkB k w = true) {s : Nat × Nat} (hm : s ∈ stepsF R w) : wordOkB k (applyF R w s) = true := by
  obtain ⟨h1, h2, h3⟩ := mem_stepsF.1 hm
  have hp := hs.1.2 _ (nthR_mem h2)
  obtain ⟨a1, a2, a3⟩ := wordOk_iff.1 hw
  obtain ⟨b1, b2, b3⟩ := wordOk_iff.1 hp.1.1.2
  refine wordOk_iff.2 ⟨a1, Nat.le_trans (step_sizeW hs hm).1 a2, fun y hy => ?_⟩
  unfold applyF at hy
  rw [replF_list] at hy
  rcases List.mem_append.1 hy with hy | hy
  · exact a3 y ((List.take_sublist _ _).subset hy)
  rcases List.mem_append.1 hy with hy | hy
  · exact b3 y hy
  · exact a3 y ((List.drop_sublist _ _).subset hy)
theorem NormIs.exW {k : Int} {R : List RulD} (hs : sysW k R) : ∀ (n : Nat) (w : ByteArray), rk w.data.toList < n → wordOkB k w = true → ∃ x, NormIs R w x ∧ wordOkB k x = true
  | 0, w, h, _ => by omega
  | n + 1, w, h, hw => by
    cases hh : (stepsF R w).head? with
    | none => exact ⟨w, .done hh, hw⟩
    | some s =>
      have hm := head_mem hh
      have h1 := step_lessW hs hm
      obtain ⟨x, hx, hx2⟩ := NormIs.exW hs n (applyF R w s) (by omega) (step_wordW hs hw hm)
      exact ⟨x, .step hh hx, hx2⟩
theorem NormIs.wordW {k : Int} {R : List RulD} (hs : sysW k R) {w x : ByteArray} (h : NormIs R w x) (hw : wordOkB k w = true) : wordOkB k x = true := by
  obtain ⟨y, h1, h2⟩ := NormIs.exW hs _ w (Nat.lt_succ_self _) hw
  rw [h.uniq h1]; exact h2
end Go.Proofs.YtmgdglghjlggnaaGreat
namespace Go.Proofs.YtmgdglghjlggnaaGreat
open Go.RowKit
set_option linter.unusedVariables false
open Classical in
/-- the normal form of a word, if there is one -/
noncomputable def nfC (R : List RulD) (u : ByteArray) : ByteArray := if h : ∃ x, NormIs R u x then Classical.choose h else ⟨#[]⟩
theorem nfC_eq {R : List RulD} {u x : ByteArray} (h : NormIs R u x) : nfC R u = x := by
  have h1 : ∃ x, NormIs R u x := ⟨x, h⟩
  unfold nfC
  rw [dif_pos h1]
  exact (Classical.choose_spec h1).uniq h
/-- the place of a word among words -/
def idxTo (L : List ByteArray) (v : ByteArray) (j : Nat) : Option Nat := (List.range j).find? fun i => (nthS L i).toList == v.toList
def idxB (L : List ByteArray) (v : ByteArray) : Int := match idxTo L v L.length with | some i => (i : Int) | none => -1
theorem idxTo_zero (L : List ByteArray) (v : ByteArray) : idxTo L v 0 = none := rfl
theorem idxTo_succ {L : List ByteArray} {v : ByteArray} {j : Nat} (h : idxTo L v j = none) (hne : ((nthS L j).toList == v.toList) = false) : idxTo L v (j + 1) = none := by
  unfold idxTo at *
  rw [List.range_succ, List.find?_append, h]
  simp [hne]
theorem idxB_at {L : List ByteArray} {v : ByteArray} {j : Nat} (h : idxTo L v j = none) (hj : j < L.length) (he : ((nthS L j).toList == v.toList) = true) : idxB L v = (j : Int) := by
  have h1 : idxTo L v (j + 1) = some j := by
    unfold idxTo at *
    rw [List.range_succ, List.find?_append, h]
    simp [he]
  have h2 : idxTo L v L.length = some j := by
    obtain ⟨d, hd⟩ := Nat.exists_eq_add_of_le hj
    rw [hd]
    unfold idxTo at *
    rw [List.range_add, List.find?_append, show j.succ = j + 1 from rfl, h1]
    rfl
  unfold idxB
  rw [h2]
theorem idxB_none {L : List ByteArray} {v : ByteArray} {j : Nat} (h : idxTo L v j = none) (hj : ¬ j < L.length) (hl : j ≤ L.length) : idxB L v = -1 := by
  obtain rfl : j = L.length := by omega
  unfold idxB
  rw [h]
/-- the entries of a row of the table, up to a column -/
noncomputable def rowTo (R : List RulD) (L : List ByteArray) (i j : Nat) : List Int := (List.range j).map fun b => idxB L (nfC R (nthS L i ++ nthS L b))
/-- the entries of the rows before i, and of the row i up to a column -/
noncomputable def prodTo (R : List RulD) (L : List ByteArray) (i j : Nat) : List Int := ((List.range i).flatMap fun a => rowTo R L a L.length) ++ rowTo R L i j
noncomputable def prodF (R : List RulD) (L : List ByteArray) : List Int := (List.range L.length).flatMap fun a => rowTo R L a L.length
theorem prodTo_step (R : List RulD) (L : List ByteArray) (i j : Nat) : prodTo R L i (j + 1) = prodTo R L i j ++ [idxB L (nfC R (nthS L i ++ nthS L j))] := by
  unfold prodTo rowTo
  rw [List.range_succ, List.map_append, List.append_assoc]
  rfl
theorem prodTo_next (R : List RulD) (L : List ByteArray) (i : Nat) : prodTo R L i L.length = prodTo R L (i + 1) 0 := by
  unfold prodTo
  rw [List.range_succ, List.flatMap_append]
  simp [rowTo]
theorem prodTo_done (R : List RulD) (L : List ByteArray) : prodTo R L L.length 0 = prodF R L := by
  unfold prodTo prodF
  simp [rowTo]
theorem prodTo_len (R : List RulD) (L : List ByteArray) (i j : Nat) : (prodTo R L i j).length = i * L.length + j := by
  unfold prodTo
  rw [List.length_append]
  have h : ∀ n, ((List.range n).flatMap fun a => rowTo R L a L.length).length = n * L.length := fun n => by
    induction n with
    | zero => simp
    | succ n ih =>
      rw [List.range_succ, List.flatMap_append, List.length_append, ih, Nat.succ_mul]
      simp [rowTo]
  rw [h]
  simp [rowTo]
theorem prodTo_few {R : List RulD} {L : List ByteArray} (h : L.length ≤ 40) {i j : Nat} (hi : i ≤ L.length) (hj : j ≤ L.length) : (prodTo R L i j).length ≤ 1640 := by
  rw [prodTo_len]
  have : i * L.length ≤ 40 * 40 := Nat.mul_le_mul (by omega) h
  omega
end Go.Proofs.YtmgdglghjlggnaaGreat
namespace Go.Proofs.YtmgdglghjlggnaaGreat
set_option linter.unusedVariables false
/-- the number of a word, in base 257 -/
def wtL : Wd → Nat → Nat
  | [], a => a
  | y :: v, a => wtL v (a * 257 + (y.toNat + 1))
def wt (v : Wd) : Nat := wtL v 0
theorem wtL_add : ∀ (v : Wd) (a : Nat), wtL v a = a * 257 ^ v.length + wt v
  | [], a => by simp [wtL, wt]
  | y :: v, a => by
    unfold wt
    simp only [wtL]
    rw [wtL_add v, wtL_add v (0 * 257 + _)]
    rw [List.length_cons, Nat.pow_succ, Nat.add_mul, Nat.zero_mul, Nat.zero_add, Nat.mul_comm (257 ^ v.length) 257, ← Nat.mul_assoc]
    omega
theorem wt_app (u v : Wd) : wt (u ++ v) = wt u * 257 ^ v.length + wt v := by
  have h : ∀ (u : Wd) (a : Nat), wtL (u ++ v) a = wtL v (wtL u a) := fun u => by
    induction u with
    | nil => intro a; rfl
    | cons y u ih => intro a; exact ih _
  unfold wt
  rw [h, wtL_add]
  rfl
theorem wt_cons (y : UInt8) (v : Wd) : wt (y :: v) = (y.toNat + 1) * 257 ^ v.length + wt v := by
  have h := wt_app [y] v
  have e : wt [y] = y.toNat + 1 := by simp [wt, wtL]
  rw [e] at h
  exact h
theorem wt_lt : ∀ (v : Wd), wt v < 257 ^ v.length
  | [] => by simp [wt, wtL]
  | y :: v => by
    have ih := wt_lt v
    have h1 := y.toNat_lt
    rw [wt_cons, List.length_cons, Nat.pow_succ]
    have h2 : (y.toNat + 1) * 257 ^ v.length ≤ 256 * 257 ^ v.length := Nat.mul_le_mul_right _ (by omega)
    omega
theorem wt_ge (y : UInt8) (v : Wd) : 257 ^ v.length ≤ wt (y :: v) := by
  rw [wt_cons]
  have h2 : 1 * 257 ^ v.length ≤ (y.toNat + 1) * 257 ^ v.length := Nat.mul_le_mul_right _ (by omega)
  omega
theorem wt_len {a b : Wd} (h : wt a < wt b) : a.length ≤ b.length := by
  rcases Nat.lt_or_ge b.length a.length with h1 | h1
  · exfalso
    cases a with
    | nil => simp at h1
    | cons y v =>
      have h2 := wt_ge y v
      have h3 := wt_lt b
      have h4 : 257 ^ b.length ≤ 257 ^ v.length := Nat.pow_le_pow_right (by omega) (by simp at h1; omega)
      omega
  · exact h1
theorem wt_ctx {a b : Wd} (x y : Wd) (h : wt a < wt b) : wt (x ++ (a ++ y)) < wt (x ++ (b ++ y)) := by
  have hl := wt_len h
  rw [wt_app x (a ++ y), wt_app x (b ++ y), wt_app a y, wt_app b y, List.length_append, List.length_append, Nat.pow_add, Nat.pow_add]
  have h2 : 257 ^ a.length ≤ 257 ^ b.length := Nat.pow_le_pow_right (by omega) hl
  have h3 : wt x * (257 ^ a.length * 257 ^ y.length) ≤ wt x * (257 ^ b.length * 257 ^ y.length) := Nat.mul_le_mul_left _ (Nat.mul_le_mul_right _ h2)
  have h4 : (wt a + 1) * 257 ^ y.length ≤ wt b * 257 ^ y.length := Nat.mul_le_mul_right _ h
  have h5 : 1 ≤ 257 ^ y.length := Nat.one_le_pow _ _ (by omega)
  rw [Nat.add_mul, Nat.one_mul] at h4
  omega
theorem wt_lex : ∀ {u v : Wd}, u.length = v.length → u < v → wt u < wt v
  | [], [], _, h => absurd h (List.lt_irrefl _)
  | [], _ :: _, h, _ => by simp at h
  | _ :: _, [], h, _ => by simp at h
  | a :: u, b :: v, hl, h => by
    have hl2 : u.length = v.length := by simpa using hl
    rw [wt_cons, wt_cons, hl2]
    rcases List.cons_lt_cons_iff.1 h with h1 | ⟨rfl, h1⟩
    · have h2 := UInt8.lt_iff_toNat_lt.1 h1
      have h3 := wt_lt u
      rw [hl2] at h3
      have h4 : (a.toNat + 1 + 1) * 257 ^ v.length ≤ (b.toNat + 1) * 257 ^ v.length := Nat.mul_le_mul_right _ (by omega)
      rw [Nat.add_mul] at h4
      omega
    · have := wt_lex hl2 h1
      omega
theorem wt_short {u v : Wd} (h : u.length < v.length) : wt u < wt v := by
  cases v with
  | nil => simp at h
  | cons y v =>
    have h1 := wt_lt u
    have h2 := wt_ge y v
    have h3 : 257 ^ u.length ≤ 257 ^ v.length := Nat.pow_le_pow_right (by omega) (by simp at h; omega)
    omega
/-- rules: which left side has which right side -/
abbrev Rs := Wd → Wd → Prop
/-- one step -/
def Stp (E : Rs) (u v : Wd) : Prop := ∃ x l r y, E l r ∧ u = x ++ (l ++ y) ∧ v = x ++ (r ++ y)
theorem Stp.ctx {E : Rs} {u v : Wd} (x y : Wd) (h : Stp E u v) : Stp E (x ++ (u ++ y)) (x ++ (v ++ y)) := by
  obtain ⟨a, l, r, b, h1, rfl, rfl⟩ := h
  exact ⟨x ++ a, l, r, b ++ y, h1, by simp [List.append_assoc], by simp [List.append_assoc]⟩
theorem Stp.mono {E F : Rs} (h : ∀ l r, E l r → F l r) {u v : Wd} (s : Stp E u v) : Stp F u v := by
  obtain ⟨a, l, r, b, h1, h2, h3⟩ := s
  exact ⟨a, l, r, b, h _ _ h1, h2, h3⟩
theorem Stp.rule {E : Rs} {l r : Wd} (h : E l r) : Stp E l r := ⟨[], l, r, [], h, by simp, by simp⟩
/-- each rule makes a word less -/
def Dwn (E : Rs) : Prop := ∀ l r, E l r → wt r < wt l
theorem Dwn.stp {E : Rs} (h : Dwn E) {u v : Wd} (s : Stp E u v) : wt v < wt u := by
  obtain ⟨x, l, r, y, h1, rfl, rfl⟩ := s
  exact wt_ctx x y (h _ _ h1)
/-- many steps -/
inductive Red (E : Rs) : Wd → Wd → Prop
  | refl (u : Wd) : Red E u u
  | step {u v x : Wd} : Stp E u v → Red E v x → Red E u x
theorem Red.trans {E : Rs} {u v x : Wd} (a : Red E u v) (b : Red E v x) : Red E u x := by
  induction a with
  | refl => exact b
  | step s _ ih => exact .step s (ih b)
theorem Red.one {E : Rs} {u v : Wd} (s : Stp E u v) : Red E u v := .step s (.refl _)
theorem Red.ctx {E : Rs} {u v : Wd} (x y : Wd) (h : Red E u v) : Red E (x ++ (u ++ y)) (x ++ (v ++ y)) := by
  induction h with
  | refl => exact .refl _
  | step s _ ih => exact .step (s.ctx x y) ih
theorem Red.le {E : Rs} (hd : Dwn E) {u v : Wd} (h : Red E u v) : wt v ≤ wt u := by
  induction h with
  | refl => exact Nat.le_refl _
  | step s _ ih => have := hd.stp s; omega
theorem Red.mono {E F : Rs} (h : ∀ l r, E l r → F l r) {u v : Wd} (s : Red E u v) : Red F u v := by
  induction s with
  | refl => exact .refl _
  | step s _ ih => exact .step (s.mono h) ih
/-- no step can be made -/
def Irr (E : Rs) (u : Wd) : Prop := ∀ v, ¬ Stp E u v
/-- connected by steps, forth and back, all words below a number -/
inductive Conn (E : Rs) (n : Nat) : Wd → Wd → Prop
  | refl (u : Wd) : Conn E n u u
  | fwd {u v x : Wd} : wt u < n → wt v < n → Stp E u v → Conn E n v x → Conn E n u x
  | bwd {u v x : Wd} : wt u < n → wt v < n → Stp E v u → Conn E n v x → Conn E n u x
theorem Conn.trans {E : Rs} {n : Nat} {u v x : Wd} (a : Conn E n u v) (b : Conn E n v x) : Conn E n u x := by
  induction a with
  | refl => exact b
  | fwd h1 h2 s _ ih => exact .fwd h1 h2 s (ih b)
  | bwd h1 h2 s _ ih => exact .bwd h1 h2 s (ih b)
theorem Conn.symm {E : Rs} {n : Nat} {u v : Wd} (a : Conn E n u v) : Conn E n v u := by
  induction a with
  | refl => exact .refl _
  | fwd h1 h2 s _ ih => exact ih.trans (.bwd h2 h1 s (.refl _))
  | bwd h1 h2 s _ ih => exact ih.trans (.fwd h2 h1 s (.refl _))
theorem Conn.mono {E : Rs} {n k : Nat} (h : n ≤ k) {u v : Wd} (a : Conn E n u v) : Conn E k u v := by
  induction a with
  | refl => exact .refl _
  | fwd h1 h2 s _ ih => exact .fwd (by omega) (by omega) s ih
  | bwd h1 h2 s _ ih => exact .bwd (by omega) (by omega) s ih
theorem Conn.ctx {E : Rs} {w u v : Wd} (x y : Wd) (a : Conn E (wt w) u v) : Conn E (wt (x ++ (w ++ y))) (x ++ (u ++ y)) (x ++ (v ++ y)) := by
  induction a with
  | refl => exact .refl _
  | fwd h1 h2 s _ ih => exact .fwd (wt_ctx x y h1) (wt_ctx x y h2) (s.ctx x y) ih
  | bwd h1 h2 s _ ih => exact .bwd (wt_ctx x y h1) (wt_ctx x y h2) (s.ctx x y) ih
theorem Conn.red {E : Rs} (hd : Dwn E) {n : Nat} {u v : Wd} (h : Red E u v) (hu : wt u < n) : Conn E n u v := by
  induction h with
  | refl => exact .refl _
  | step s _ ih => have := hd.stp s; exact .fwd hu (by omega) s (ih (by omega))
/-- the critical pairs of S are connected in E below their words -/
structure Crit (S E : Rs) : Prop where
  inn : ∀ l1 r1 l2 r2 x y, S l1 r1 → S l2 r2 → l1 = x ++ (l2 ++ y) → Conn E (wt l1) r1 (x ++ (r2 ++ y))
  acr : ∀ l1 r1 l2 r2 x t y, S l1 r1 → S l2 r2 → l1 = x ++ t → l2 = t ++ y → t ≠ [] → x ≠ [] → y ≠ [] → Conn E (wt (x ++ (t ++ y))) (r1 ++ y) (x ++ r2)
/-- two words that are one: the first of two parts lies in front -/
theorem split_two {p1 q1 p2 q2 : Wd} (h : p1 ++ q1 = p2 ++ q2) (hl : p1.length ≤ p2.length) : ∃ t, p2 = p1 ++ t ∧ q1 = t ++ q2 := by
  obtain ⟨t, ht⟩ : p1 <+: p2 := List.prefix_of_prefix_length_le (List.prefix_append p1 q1) (h ▸ List.prefix_append p2 q2) hl
  refine ⟨t, ht.symm, ?_⟩
  rw [← ht, List.append_assoc] at h
  exact List.append_cancel_left h
/-- two steps from one word, the first one's place in front -/
theorem local_le {S : Rs} (hd : Dwn S) (hc : Crit S S) {p1 l1 r1 q1 p2 l2 r2 q2 : Wd} (h1 : S l1 r1) (h2 : S l2 r2) (h : p1 ++ (l1 ++ q1) = p2 ++ (l2 ++ q2)) (hl : p1.length ≤ p2.length) :
    Conn S (wt (p1 ++ (l1 ++ q1))) (p1 ++ (r1 ++ q1)) (p2 ++ (r2 ++ q2)) := by
  obtain ⟨t, rfl, h3⟩ := split_two h hl
  -- l1 ++ q1 = t ++ (l2 ++ q2)
  rcases Nat.lt_or_ge t.length l1.length with hlt | hge
  · obtain ⟨s, rfl, h5⟩ := split_two h3.symm (Nat.le_of_lt hlt)
    -- l1 = t ++ s, l2 ++ q2 = s ++ q1
    have hs : s ≠ [] := by rintro rfl; simp at hlt
    rcases Nat.lt_or_ge s.length l2.length with hlt2 | hge2
    · obtain ⟨y, rfl, rfl⟩ := split_two h5.symm (Nat.le_of_lt hlt2)
      have hy : y ≠ [] := by rintro rfl; simp at hlt2
      by_cases ht : t = []
      · subst ht
        have h6 := hc.inn _ _ _ _ [] y h2 h1 (by simp)
        have h7 := (h6.ctx p1 q2).symm
        simpa [List.append_assoc] using h7
      · have h6 := hc.acr _ _ _ _ t s y h1 h2 rfl rfl hs ht hy
        have h7 := h6.ctx p1 q2
        simpa [List.append_assoc] using h7
    · obtain ⟨y, rfl, rfl⟩ := split_two h5 hge2
      have h6 := hc.inn _ _ _ _ t y h1 h2 rfl
      have h7 := h6.ctx p1 q1
      simpa [List.append_assoc] using h7
  · obtain ⟨s, rfl, rfl⟩ := split_two h3 hge
    -- t = l1 ++ s, q1 = s ++ (l2 ++ q2)
    have s1 : Stp S (p1 ++ (r1 ++ (s ++ (l2 ++ q2)))) (p1 ++ (r1 ++ (s ++ (r2 ++ q2)))) := ⟨p1 ++ (r1 ++ s), l2, r2, q2, h2, by simp [List.append_assoc], by simp [List.append_assoc]⟩
    have s2 : Stp S (p1 ++ (l1 ++ (s ++ (r2 ++ q2)))) (p1 ++ (r1 ++ (s ++ (r2 ++ q2)))) := ⟨p1, l1, r1, _, h1, rfl, rfl⟩
    have s3 : Stp S (p1 ++ (l1 ++ (s ++ (l2 ++ q2)))) (p1 ++ (r1 ++ (s ++ (l2 ++ q2)))) := ⟨p1, l1, r1, _, h1, rfl, rfl⟩
    have s4 : Stp S (p1 ++ (l1 ++ (s ++ (l2 ++ q2)))) (p1 ++ (l1 ++ (s ++ (r2 ++ q2)))) := ⟨p1 ++ (l1 ++ s), l2, r2, q2, h2, by simp [List.append_assoc], by simp [List.append_assoc]⟩
    have d1 := hd.stp s1
    have d3 := hd.stp s3
    have d4 := hd.stp s4
    have h7 : Conn S (wt (p1 ++ (l1 ++ (s ++ (l2 ++ q2))))) (p1 ++ (r1 ++ (s ++ (l2 ++ q2)))) (p1 ++ (l1 ++ (s ++ (r2 ++ q2)))) := .fwd d3 (by omega) s1 (.bwd (by omega) d4 s2 (.refl _))
    simpa [List.append_assoc] using h7
/-- two steps from one word -/
theorem local_all {S : Rs} (hd : Dwn S) (hc : Crit S S) {w a b : Wd} (s1 : Stp S w a) (s2 : Stp S w b) : Conn S (wt w) a b := by
  obtain ⟨p1, l1, r1, q1, h1, rfl, rfl⟩ := s1
  obtain ⟨p2, l2, r2, q2, h2, h, rfl⟩ := s2
  rcases Nat.le_total p1.length p2.length with hl | hl
  · exact local_le hd hc h1 h2 h hl
  · rw [h]
    exact (local_le hd hc h2 h1 h.symm hl).symm
/-- a normal form -/
def Nf (S : Rs) (u x : Wd) : Prop := Red S u x ∧ Irr S x
theorem Nf.ex {S : Rs} (hd : Dwn S) : ∀ (n : Nat) (u : Wd), wt u < n → ∃ x, Nf S u x
  | 0, u, h => by omega
  | n + 1, u, h => by
    by_cases hi : Irr S u
    · exact ⟨u, .refl _, hi⟩
    · obtain ⟨v, hv⟩ : ∃ v, Stp S u v := Classical.byContradiction fun hn => hi fun v hv => hn ⟨v, hv⟩
      have := hd.stp hv
      obtain ⟨x, h1, h2⟩ := Nf.ex hd n v (by omega)
      exact ⟨x, .step hv h1, h2⟩
theorem Nf.conn {S : Rs} (hd : Dwn S) {n : Nat} (hu : ∀ u, wt u < n → ∀ x y, Nf S u x → Nf S u y → x = y) {u v : Wd} (h : Conn S n u v) : ∀ x, Nf S u x → Nf S v x := by
  induction h with
  | refl => intro x hx; exact hx
  | @fwd u v z h1 h2 s _ ih =>
    intro x hx
    obtain ⟨y, hy⟩ := Nf.ex hd _ v (Nat.lt_succ_self _)
    obtain rfl := hu u h1 x y hx ⟨.step s hy.1, hy.2⟩
    exact ih _ hy
  | @bwd u v z h1 h2 s _ ih =>
    intro x hx
    exact ih _ ⟨.step s hx.1, hx.2⟩
theorem Nf.uniq {S : Rs} (hd : Dwn S) (hc : Crit S S) : ∀ (n : Nat) (u : Wd), wt u < n → ∀ x y, Nf S u x → Nf S u y → x = y
  | 0, u, h => by omega
  | n + 1, u, h => by
    rintro x y ⟨h1, h2⟩ ⟨h3, h4⟩
    cases h1 with
    | refl =>
      cases h3 with
      | refl => rfl
      | step s _ => exact absurd s (h2 _)
    | @step _ a _ s1 r1 =>
      cases h3 with
      | refl => exact absurd s1 (h4 _)
      | @step _ b _ s2 r2 =>
        have c := local_all hd hc s1 s2
        have d2 := hd.stp s2
        have IH := Nf.uniq hd hc n
        have h5 := Nf.conn hd (fun v hv => IH v (by omega)) c x ⟨r1, h2⟩
        exact IH b (by omega) x y h5 ⟨r2, h4⟩
end Go.Proofs.YtmgdglghjlggnaaGreat
namespace Go.Proofs.YtmgdglghjlggnaaGreat
open Go.RowKit
set_option linter.unusedVariables false
theorem sufBB_iff {s p : ByteArray} : sufBB s p = true ↔ p.size ≤ s.size ∧ s.extract (s.size - p.size) s.size = p := by
  unfold sufBB
  rw [List.isSuffixOf_iff_suffix]
  have hl : ∀ s : ByteArray, s.data.toList.length = s.size := fun s => rfl
  have hx : p.size ≤ s.size → (s.extract (s.size - p.size) s.size).data.toList = s.data.toList.drop (s.size - p.size) := fun h => by
    rw [ByteArray.data_extract, Array.toList_extract, List.extract_eq_take_drop, List.take_of_length_le (by rw [List.length_drop, hl]; exact Nat.le_refl _)]
  constructor
  · rintro ⟨t, ht⟩
    have h1 : p.size ≤ s.size := by rw [← hl, ← hl, ← ht, List.length_append]; omega
    refine ⟨h1, ba_ext0 ?_⟩
    rw [hx h1, ← ht, List.drop_left']
    have := congrArg List.length ht
    rw [List.length_append, hl, hl] at this
    omega
  · rintro ⟨h1, h2⟩
    rw [← h2, hx h1]
    exact List.drop_suffix _ _
theorem bytes_eq2 {a b : ByteArray} : (a.toList == b.toList) = true ↔ a = b := bytes_eq
set_option maxRecDepth 20000 in
set_option maxHeartbeats 2000000 in
theorem l07Ends_any (k : Int) (l : List RulD) (v : ByteArray) (a : Option Addr) (cap : Nat) (w : World) (hl : RulesIn w a l) (hlen : l.length ≤ 2 ^ 40) (hz : ∀ j, j < l.length → (nthR l j).1.size ≤ 1000) (hv : v.size ≤ 1000) :
    Calls Tryz.prog 100 #[.agg #[.int .i64 k, .slice a l.length cap], .string v] w fun e w' => e = .returned (.bool (endsR l v)) ∧ Below w.heap.size w w' := by
  have HL := Lib.hid hl
  have HZ := Lib.hid hz
  have HA := Lib.hid (fun o => alloc_belowS w o)
  clear hl hz
  go_enter Tryz.func100, Tryz.ntmps100
  go_wp2_with fail
  go_loopw [10] (fun i wr => ∃ j : Nat, j ≤ l.length ∧ i = .int .i64 (j : Nat) ∧ Hid (∀ j', j' < j → sufBB v (nthR l j').1 = false) ∧ Below w.heap.size w wr) (fun i _ => l.length - (intOf i).toNat)
  case atStart => exact ⟨0, Nat.zero_le _, rfl, Lib.hid (fun j' h => absurd h (Nat.not_lt_zero _)), HA.out _⟩
  case round =>
    obtain ⟨j, hj, rfl, hall, hbw⟩ := hrel
    have HBW := Lib.hid hbw
    by_cases hlt : j < l.length
    · obtain ⟨b, off, rfl, hb, hc⟩ := (HL.out.later hbw).cell hlt
      obtain ⟨c1, c2⟩ := hc j hlt
      have z1 := HZ.out j hlt
      have HYE : Hid (sufBB v (nthR l j).1 = true → endsR l v = true) := Lib.hid (fun h => endsR_iff.2 ⟨_, nthR_mem hlt, h⟩)
      have HNO : Hid (sufBB v (nthR l j).1 = false → ∀ j', j' < j + 1 → sufBB v (nthR l j').1 = false) := Lib.hid (fun h j' hj' => by
        by_cases e : j' = j
        · rw [e]; exact h
        · exact hall.out j' (by omega))
      clear hc hbw
      generalize (nthR l j).1 = x at *
      generalize (nthR l j).2 = y at *
      have HSI := Lib.hid (@sufBB_iff v x)
      by_cases hle : x.size ≤ v.size
      · have g1 : decide ((x.size : Int) ≤ (v.size : Int)) = true := decide_eq_true (by omega)
        have g2 : (x.size : Int) ≤ (v.size : Int) := by omega
        have g3 : (0 : Int) ≤ (v.size : Int) - (x.size : Int) := by omega
        have g4 : (v.size : Int) - (x.size : Int) ≤ (v.size : Int) := by omega
        have g5 : ((v.size : Int) - (x.size : Int)).toNat = v.size - x.size := by omega
        have HD : Hid (∀ n, Below w.heap.size w ((wr.alloc (.cells #[.string x, .string y] 89)).drewN n)) := Lib.hid (fun n => by
          have h := HBW.out.alloc HBW.out.size (.cells #[.string x, .string y] 89)
          exact ⟨h.os, h.tape, h.output, h.size, h.block⟩)
        cases hq : ((v.extract (v.size - x.size) v.size).toList == x.toList)
        · have F := Lib.hid (HNO.out (by
            cases e : sufBB v x
            · rfl
            · have := (HSI.out.1 e).2
              rw [bytes_eq2.2 this] at hq; cases hq))
          go_wp2_with fail
          go_quiet (fail)
          go_wp2_with fail
          go_roundw
          case rel => exact ⟨j + 1, by omega, by go_num, F, HD.out _⟩
          case measure => simp [intOf]; omega
        · have F := Lib.hid (HYE.out (HSI.out.2 ⟨hle, bytes_eq2.1 hq⟩))
          go_wp2_with fail
          go_quiet (fail)
          go_wp2_with fail
          go_ret
          exact ⟨ret_bool F.out.symm, HD.out _⟩
      · have g1 : decide ((x.size : Int) ≤ (v.size : Int)) = false := decide_eq_false (by omega)
        have g1n : decide (x.size ≤ v.size) = false := decide_eq_false hle
        have F := Lib.hid (HNO.out (by
          cases e : sufBB v x
          · rfl
          · exact absurd (HSI.out.1 e).1 hle))
        have HD : Hid (∀ n, Below w.heap.size w ((wr.alloc (.cells #[.string x, .string y] 89)).drewN n)) := Lib.hid (fun n => by
          have h := HBW.out.alloc HBW.out.size (.cells #[.string x, .string y] 89)
          exact ⟨h.os, h.tape, h.output, h.size, h.block⟩)
        clear hle
        go_wp2_with fail
        go_quiet (fail)
        go_wp2_with fail
        go_roundw
        case rel => exact ⟨j + 1, by omega, by go_num, F, HD.out _⟩
        case measure => simp [intOf]; omega
    · have F : Hid (endsR l v = false) := Lib.hid (by
        cases e : endsR l v
        · rfl
        · obtain ⟨r, hr, h⟩ := endsR_iff.1 e
          obtain ⟨i, hi, rfl⟩ := mem_nthR hr
          rw [hall.out i (by omega)] at h; cases h)
      go_wp2_with fail
      go_ret
      exact ⟨ret_bool F.out.symm, HBW.out⟩
set_option maxHeartbeats 400000 in
theorem l07Cut_any (k : Int) (l : List RulD) (v : ByteArray) (a : Option Addr) (cap : Nat) (w : World) (hl : RulesIn w a l) (hlen : l.length ≤ 2 ^ 40) (hz : SzR l) (hv : v.size ≤ 1000) :
    Calls Tryz.prog 114 #[.agg #[.int .i64 k, .slice a l.length cap], .string v] w fun e w' => e = .returned (.string (cutR l v)) ∧ Below w.heap.size w w' := by
  have HL := Lib.hid hl
  have HS := Lib.hid (fun W h => specLongestSide_any k l a cap W h hlen hz)
  have hm := lsTo_le hz l.length (Nat.le_refl _)
  have hm2 : lsL l ≤ 9223372036854775807 := by unfold maxLen at hm; exact hm
  have HA := Lib.hid (fun o => alloc_belowS w o)
  have HC : Hid (keepR l = lsL l - 1) := Lib.hid rfl
  have HCU : Hid (cutR l v = v.extract (v.size - keepR l) v.size) := Lib.hid rfl
  have HCS := Lib.hid (@cutR_short l v)
  generalize cutR l v = cc at *
  generalize keepR l = q at *
  generalize lsL l = m at *
  have hq : q = m - 1 := HC.out
  clear hl hz hm
  go_enter Tryz.func114, Tryz.ntmps114
  go_wp2_with fail
  refine (HS.out _ (HL.out.later (HA.out _))).mono ?_
  rintro e w2 ⟨rfl, hb2⟩
  have HW := Lib.hid (Below.now (HA.out _) hb2)
  have e1 : max (0 : Int) ((m : Int) - 1) = (q : Int) := by omega
  clear hb2 HS
  by_cases hle : v.size ≤ q
  · have F := Lib.hid (HCS.out hle)
    have g1 : (v.size : Int) ≤ (q : Int) := by omega
    clear hq HC
    go_wp2_with fail
    go_ret
    exact ⟨ret_str F.out.symm, HW.out⟩
  · have g1 : ¬ (v.size : Int) ≤ (q : Int) := by omega
    have g3 : (0 : Int) ≤ (v.size : Int) - (q : Int) := by omega
    have g4 : (v.size : Int) - (q : Int) ≤ (v.size : Int) := by omega
    have g5 : ((v.size : Int) - (q : Int)).toNat = v.size - q := by omega
    clear hq HC
    go_wp2_with fail
    go_ret
    exact ⟨ret_str HCU.out.symm, HW.out⟩
end Go.Proofs.YtmgdglghjlggnaaGreat
namespace Go.Proofs.YtmgdglghjlggnaaGreat
open Go.RowKit
set_option linter.unusedVariables false
def TwoB (w wr : World) (v : Value) (xs : List Value) (u : Value) (ys : List Value) : Prop :=
  Bld 9 1 w wr v xs.length xs ∧ Bld 3 1 w wr u ys.length ys ∧ ∀ k, v.ownBlock = some k → u.ownBlock ≠ some k
theorem TwoB.later {w wr wr' : World} {v u : Value} {xs ys : List Value} (h : TwoB w wr v xs u ys) (hb : Below wr.heap.size wr wr') : TwoB w wr' v xs u ys := ⟨h.1.later hb, h.2.1.later hb, h.2.2⟩
theorem keptB {T : TypeId} {w wr wr' : World} {v : Value} {n : Nat} {xs : List Value} {own : Option Nat} (h : Bld T 1 w wr v n xs) (hg : wr.grownBy wr' own) (hne : ∀ k, v.ownBlock = some k → own ≠ some k) (ho : ∀ k, own = some k → w.heap.size ≤ k) : Bld T 1 w wr' v n xs := by
  refine ⟨h.1.kept hg ?_, h.2.grown hg h.2.size ho⟩
  cases hv : v.ownBlock with
  | none => exact .inl rfl
  | some k => exact .inr fun e => hne k hv (e.symm ▸ rfl)
theorem TwoB.putV {w wr w' : World} {v v' u : Value} {xs ys : List Value} {y : Value} {T : TypeId} (h : TwoB w wr v xs u ys) (hb : Bld 9 1 w w' v' (xs.length + 1) (xs ++ [y])) (hg : (wr.alloc (.cells #[y] T)).grownBy w' v.ownBlock)
    (ho : v'.ownBlock = v.ownBlock ∨ v'.ownBlock = some (wr.alloc (.cells #[y] T)).heap.size) : TwoB w w' v' (xs ++ [y]) u ys := by
  have hal : Below wr.heap.size wr (wr.alloc (.cells #[y] T)) := (Below.refl _ _).alloc (Nat.le_refl _) _
  refine ⟨?_, keptB (h.2.1.later hal) hg (fun k hk e => h.2.2 k e hk) (fun k hk => (h.1.1.lt k hk).1), fun k hk e => ?_⟩
  · rw [List.length_append]; exact hb
  · rcases ho with h1 | h1
    · exact h.2.2 k (h1 ▸ hk) e
    · rw [h1] at hk
      have h2 := Option.some.inj hk
      have h3 := (h.2.1.1.lt k e).2
      simp at h2; omega
theorem TwoB.putU {w wr w' : World} {v u u' : Value} {xs ys : List Value} {y : Value} {T : TypeId} (h : TwoB w wr v xs u ys) (hb : Bld 3 1 w w' u' (ys.length + 1) (ys ++ [y])) (hg : (wr.alloc (.cells #[y] T)).grownBy w' u.ownBlock)
    (ho : u'.ownBlock = u.ownBlock ∨ u'.ownBlock = some (wr.alloc (.cells #[y] T)).heap.size) : TwoB w w' v xs u' (ys ++ [y]) := by
  have hal : Below wr.heap.size wr (wr.alloc (.cells #[y] T)) := (Below.refl _ _).alloc (Nat.le_refl _) _
  refine ⟨keptB (h.1.later hal) hg (fun k hk e => h.2.2 k hk e) (fun k hk => (h.2.1.1.lt k hk).1), ?_, fun k hk e => ?_⟩
  · rw [List.length_append]; exact hb
  · rcases ho with h1 | h1
    · exact h.2.2 k hk (h1 ▸ e)
    · rw [h1] at e
      have h2 := Option.some.inj e
      have h3 := (h.1.1.lt k hk).2
      simp at h2; omega
theorem setGrownB (w : World) (B o : Nat) (v : Value) : w.grownBy (w.setCell ⟨B, o, none⟩ v) (some B) := by
  have hszc : (w.setCell ⟨B, o, none⟩ v).heap.size = w.heap.size := by simp
  exact ⟨rfl, rfl, rfl, by rw [hszc]; exact Nat.le_refl _, fun k hk hne => by
    unfold World.setCell
    rw [Array.getElem?_modify, if_neg (fun e : B = k => hne (by rw [e]))]⟩
theorem TwoB.setU {w wr : World} {v : Value} {xs ys : List Value} {g cap : Nat} (h : TwoB w wr v xs (.slice (some ⟨g, 0, none⟩) ys.length cap) ys) {a : Nat} (ha : a < ys.length) (y : Value) : TwoB w (wr.setCell ⟨g, a, none⟩ y) v xs (.slice (some ⟨g, 0, none⟩) ys.length cap) (ys.set a y) := by
  refine ⟨keptB h.1 (setGrownB wr g a y) (fun k hk e => h.2.2 k hk (by simp only [Value.ownBlock]; exact e)) (fun k hk => ?_), ?_, h.2.2⟩
  · have h1 := (h.2.1.1.lt g rfl).1
    have := Option.some.inj hk
    omega
  · rw [List.length_set]
    exact ⟨(h.2.1.1.stored a y).1, h.2.1.2.setCell (h.2.1.1.lt g rfl).1 y⟩
theorem owns_slot {w : World} {base : Nat} {T : TypeId} {v : Value} {n : Nat} {xs : List Value} (h : w.ownsRow base T 1 v n xs) (h0 : 0 < n) : ∃ g cap, v = .slice (some ⟨g, 0, none⟩) n cap := by
  rcases h.2 with ⟨hv, h1⟩ | ⟨g, cap', cur, hv, _⟩
  · omega
  · exact ⟨g, cap', hv⟩
end Go.Proofs.YtmgdglghjlggnaaGreat
namespace Go.Proofs.YtmgdglghjlggnaaGreat
open Go.RowKit
set_option linter.unusedVariables false
def keyV (V : WayD) : List Value := V.map fun p => .string p.1
def cntV (V : WayD) : List Value := V.map fun p => .int .i64 (p.2 : Int)
theorem keyV_len (V : WayD) : (keyV V).length = V.length := by simp [keyV]
theorem cntV_len (V : WayD) : (cntV V).length = V.length := by simp [cntV]
/-- ends and numbers that are being built -/
def Ways (w wr : World) (v u : Value) (V : WayD) : Prop := TwoB w wr v (keyV V) u (cntV V)
def nthW (V : WayD) (i : Nat) : ByteArray × Nat := V.getD i (⟨#[]⟩, 0)
theorem nthW_lt {V : WayD} {i : Nat} (h : i < V.length) : nthW V i = V[i] := by simp [nthW, List.getD_eq_getElem?_getD, h]
/-- the ends and the numbers lie in two slices -/
def WaysIn (w : World) (a a2 : Option Addr) (W : WayD) : Prop := CellsIn w a (keyV W) ∧ CellsIn w a2 (cntV W)
theorem WaysIn.later {w w' : World} {a a2 : Option Addr} {W : WayD} (h : WaysIn w a a2 W) (hb : Below w.heap.size w w') : WaysIn w' a a2 W := ⟨h.1.later hb, h.2.later hb⟩
theorem cells_at {w : World} {a : Option Addr} {xs : List Value} (h : CellsIn w a xs) {i : Nat} {x : Value} (hi : xs[i]? = some x) : ∃ b off, a = some ⟨b, off, none⟩ ∧ w.cell? ⟨b, off + i, none⟩ = some x := by
  obtain ⟨hl, rfl⟩ := List.getElem?_eq_some_iff.1 hi
  rcases h with h | ⟨b, off, ha, hc⟩
  · rw [h] at hl; simp at hl
  · exact ⟨b, off, ha, hc i hl⟩
theorem WaysIn.at {w : World} {a a2 : Option Addr} {W : WayD} (h : WaysIn w a a2 W) {i : Nat} (hi : i < W.length) :
    ∃ b off b2 off2, a = some ⟨b, off, none⟩ ∧ a2 = some ⟨b2, off2, none⟩ ∧ w.cell? ⟨b, off + i, none⟩ = some (.string (nthW W i).1) ∧ w.cell? ⟨b2, off2 + i, none⟩ = some (.int .i64 ((nthW W i).2 : Int)) := by
  obtain ⟨b, off, ha, h1⟩ := cells_at h.1 (i := i) (x := .string (nthW W i).1) (by simp [keyV, hi, nthW_lt hi])
  obtain ⟨b2, off2, ha2, h2⟩ := cells_at h.2 (i := i) (x := .int .i64 ((nthW W i).2 : Int)) (by simp [cntV, hi, nthW_lt hi])
  exact ⟨b, off, b2, off2, ha, ha2, h1, h2⟩
theorem keyV_app (V : WayD) (e : ByteArray) (c : Nat) : keyV (V ++ [(e, c)]) = keyV V ++ [.string e] := by simp [keyV]
theorem cntV_app (V : WayD) (e : ByteArray) (c : Nat) : cntV (V ++ [(e, c)]) = cntV V ++ [.int .i64 (c : Int)] := by simp [cntV]
theorem keyV_add (V : WayD) (i c : Nat) : keyV (addW V i c) = keyV V := by
  unfold keyV addW
  apply List.ext_getElem (by simp)
  intro j h1 h2
  simp [List.getElem_modify]
  split <;> rfl
theorem cntV_add {V : WayD} {i : Nat} (h : i < V.length) (c : Nat) : cntV (addW V i c) = (cntV V).set i (.int .i64 (((nthW V i).2 + c : Nat) : Int)) := by
  unfold cntV addW
  apply List.ext_getElem (by simp)
  intro j h1 h2
  simp only [List.getElem_map, List.getElem_modify, List.getElem_set]
  by_cases e : i = j
  · subst e; simp [nthW_lt h]
  · simp [e]
theorem addW_last (V : WayD) (e : ByteArray) (c : Nat) : addW (V ++ [(e, 0)]) V.length c = V ++ [(e, c)] := by
  rw [addW_split (by simp)]
  simp
theorem Ways.later {w wr wr' : World} {v u : Value} {V : WayD} (h : Ways w wr v u V) (hb : Below wr.heap.size wr wr') : Ways w wr' v u V := TwoB.later h hb
theorem Ways.form {w wr : World} {v u : Value} {V : WayD} (h : Ways w wr v u V) : ∃ a c a2 c2, v = .slice a V.length c ∧ u = .slice a2 V.length c2 := by
  obtain ⟨a, c, hv⟩ := owns_form h.1.1
  obtain ⟨a2, c2, hu⟩ := owns_form h.2.1.1
  rw [keyV_len] at hv
  rw [cntV_len] at hu
  exact ⟨a, c, a2, c2, hv, hu⟩
theorem Ways.read {w wr : World} {v u : Value} {V : WayD} (h : Ways w wr v u V) {i : Nat} (hi : i < V.length) : ∃ g c g2 c2, v = .slice (some ⟨g, 0, none⟩) V.length c ∧ u = .slice (some ⟨g2, 0, none⟩) V.length c2 ∧
    wr.cell? ⟨g, i, none⟩ = some (.string (nthW V i).1) ∧ wr.cell? ⟨g2, i, none⟩ = some (.int .i64 ((nthW V i).2 : Int)) ∧ wr.frozen? ⟨g2, i, none⟩ = false := by
  obtain ⟨g, c, hv⟩ := owns_slot h.1.1 (by rw [keyV_len]; omega)
  obtain ⟨g2, c2, hu⟩ := owns_slot h.2.1.1 (by rw [cntV_len]; omega)
  rw [keyV_len] at hv
  rw [cntV_len] at hu
  subst hv hu
  refine ⟨g, c, g2, c2, rfl, rfl, ?_, ?_, by have h2 := h.2.1.1; rw [cntV_len] at h2; exact h2.frozenAt i⟩
  · have h1 := h.1.1
    rw [keyV_len] at h1
    rw [World.ownsRow.cellAt h1 i (by omega)]; simp [keyV, hi, nthW_lt hi]
  · have h1 := h.2.1.1
    rw [cntV_len] at h1
    rw [World.ownsRow.cellAt h1 i (by omega)]; simp [cntV, hi, nthW_lt hi]
theorem Ways.addU {w wr : World} {v : Value} {V : WayD} {g2 c2 : Nat} (h : Ways w wr v (.slice (some ⟨g2, 0, none⟩) V.length c2) V) {i : Nat} (hi : i < V.length) (c : Nat) : Ways w (wr.setCell ⟨g2, i, none⟩ (.int .i64 (((nthW V i).2 + c : Nat) : Int))) v (.slice (some ⟨g2, 0, none⟩) V.length c2) (addW V i c) := by
  unfold Ways at *
  rw [keyV_add, cntV_add hi]
  have h1 : (Value.slice (some ⟨g2, 0, none⟩) V.length c2) = .slice (some ⟨g2, 0, none⟩) (cntV V).length c2 := by rw [cntV_len]
  rw [h1] at h ⊢
  exact h.setU (by rw [cntV_len]; exact hi) _
theorem Ways.drewN {w wr : World} {v u : Value} {V : WayD} (h : Ways w wr v u V) (n : Nat) : Ways w (wr.drewN n) v u V := h.later ⟨rfl, rfl, rfl, Nat.le_refl _, fun _ _ => rfl⟩
theorem Ways.out {w wr : World} {v u : Value} {V : WayD} (h : Ways w wr v u V) : ∃ a c a2 c2, v = .slice a V.length c ∧ u = .slice a2 V.length c2 ∧ WaysIn wr a a2 V ∧ (∀ x, a = some x → w.heap.size ≤ x.block ∧ x.block < wr.heap.size) ∧ ∀ x, a2 = some x → w.heap.size ≤ x.block ∧ x.block < wr.heap.size := by
  obtain ⟨a, c, a2, c2, rfl, rfl⟩ := h.form
  exact ⟨a, c, a2, c2, rfl, rfl, ⟨owns_cells h.1.1, owns_cells h.2.1.1⟩, fun x hx => by subst hx; exact h.1.1.lt x.block rfl, fun x hx => by subst hx; exact h.2.1.1.lt x.block rfl⟩
theorem eq_natB {j k : Nat} (h : ¬ j = k) : ((j : Int) == (k : Int)) = false := by rw [beq_eq_false_iff_ne]; omega
theorem nthW_app {V : WayD} {p : ByteArray × Nat} : nthW (V ++ [p]) V.length = p := by rw [nthW_lt (by simp)]; simp
end Go.Proofs.YtmgdglghjlggnaaGreat
