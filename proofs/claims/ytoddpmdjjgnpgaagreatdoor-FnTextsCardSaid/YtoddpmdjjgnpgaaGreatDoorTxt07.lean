/-
  The steps of a system as rewriting of words; a complete system has one normal form for each word.
-/
import Derived.Test.YtoddpmdjjgnpgaaGreatDoorTxt06
import Derived.Test.YtoddpmdjjgnpgaaGreatDoorTxt04
import Derived.Test.YtoddpmdjjgnpgaaGreatDoorTxt03
import Derived.Deep.QuietTactic
import Derived.BigQuiet
import Derived.Test.YtoddpmdjjgnpgaaGreatDoorTxt01
import Derived.Test.YtoddpmdjjgnpgaaGreatDoorTxt05
import Derived.Deep.RegionHeld3
import Derived.Deep.DeepCutAuto
namespace Go.Proofs.YtoddpmdjjgnpgaaGreatDoor
set_option linter.unusedVariables false
/-- the number of a word, in base 257 -/
def wtL : Wd → Nat → Nat
  | [], a => a
  | y :: v, a => wtL v (a * 257 + (y.toNat + 1))
def wt (v : Wd) : Nat := wtL v 0
theorem wtL_add : ∀ (v : Wd) (a : Nat), wtL v a = a * 257 ^ v.length + wt v
  | [], a => by simp [wtL, wt]
  | y :: v, a => by
    unfold wt
    simp only [wtL]
    rw [wtL_add v, wtL_add v (0 * 257 + _)]
    rw [List.length_cons, Nat.pow_succ, Nat.add_mul, Nat.zero_mul, Nat.zero_add, Nat.mul_comm (257 ^ v.length) 257, ← Nat.mul_assoc]
    omega
theorem wt_app (u v : Wd) : wt (u ++ v) = wt u * 257 ^ v.length + wt v := by
  have h : ∀ (u : Wd) (a : Nat), wtL (u ++ v) a = wtL v (wtL u a) := fun u => by
    induction u with
    | nil => intro a; rfl
    | cons y u ih => intro a; exact ih _
  unfold wt
  rw [h, wtL_add]
  rfl
theorem wt_cons (y : UInt8) (v : Wd) : wt (y :: v) = (y.toNat + 1) * 257 ^ v.length + wt v := by
  have h := wt_app [y] v
  have e : wt [y] = y.toNat + 1 := by simp [wt, wtL]
  rw [e] at h
  exact h
theorem wt_lt : ∀ (v : Wd), wt v < 257 ^ v.length
  | [] => by simp [wt, wtL]
  | y :: v => by
    have ih := wt_lt v
    have h1 := y.toNat_lt
    rw [wt_cons, List.length_cons, Nat.pow_succ]
    have h2 : (y.toNat + 1) * 257 ^ v.length ≤ 256 * 257 ^ v.length := Nat.mul_le_mul_right _ (by omega)
    omega
theorem wt_ge (y : UInt8) (v : Wd) : 257 ^ v.length ≤ wt (y :: v) := by
  rw [wt_cons]
  have h2 : 1 * 257 ^ v.length ≤ (y.toNat + 1) * 257 ^ v.length := Nat.mul_le_mul_right _ (by omega)
  omega
theorem wt_len {a b : Wd} (h : wt a < wt b) : a.length ≤ b.length := by
  rcases Nat.lt_or_ge b.length a.length with h1 | h1
  · exfalso
    cases a with
    | nil => simp at h1
    | cons y v =>
      have h2 := wt_ge y v
      have h3 := wt_lt b
      have h4 : 257 ^ b.length ≤ 257 ^ v.length := Nat.pow_le_pow_right (by omega) (by simp at h1; omega)
      omega
  · exact h1
theorem wt_ctx {a b : Wd} (x y : Wd) (h : wt a < wt b) : wt (x ++ (a ++ y)) < wt (x ++ (b ++ y)) := by
  have hl := wt_len h
  rw [wt_app x (a ++ y), wt_app x (b ++ y), wt_app a y, wt_app b y, List.length_append, List.length_append, Nat.pow_add, Nat.pow_add]
  have h2 : 257 ^ a.length ≤ 257 ^ b.length := Nat.pow_le_pow_right (by omega) hl
  have h3 : wt x * (257 ^ a.length * 257 ^ y.length) ≤ wt x * (257 ^ b.length * 257 ^ y.length) := Nat.mul_le_mul_left _ (Nat.mul_le_mul_right _ h2)
  have h4 : (wt a + 1) * 257 ^ y.length ≤ wt b * 257 ^ y.length := Nat.mul_le_mul_right _ h
  have h5 : 1 ≤ 257 ^ y.length := Nat.one_le_pow _ _ (by omega)
  rw [Nat.add_mul, Nat.one_mul] at h4
  omega
theorem wt_lex : ∀ {u v : Wd}, u.length = v.length → u < v → wt u < wt v
  | [], [], _, h => absurd h (List.lt_irrefl _)
  | [], _ :: _, h, _ => by simp at h
  | _ :: _, [], h, _ => by simp at h
  | a :: u, b :: v, hl, h => by
    have hl2 : u.length = v.length := by simpa using hl
    rw [wt_cons, wt_cons, hl2]
    rcases List.cons_lt_cons_iff.1 h with h1 | ⟨rfl, h1⟩
    · have h2 := UInt8.lt_iff_toNat_lt.1 h1
      have h3 := wt_lt u
      rw [hl2] at h3
      have h4 : (a.toNat + 1 + 1) * 257 ^ v.length ≤ (b.toNat + 1) * 257 ^ v.length := Nat.mul_le_mul_right _ (by omega)
      rw [Nat.add_mul] at h4
      omega
    · have := wt_lex hl2 h1
      omega
theorem wt_short {u v : Wd} (h : u.length < v.length) : wt u < wt v := by
  cases v with
  | nil => simp at h
  | cons y v =>
    have h1 := wt_lt u
    have h2 := wt_ge y v
    have h3 : 257 ^ u.length ≤ 257 ^ v.length := Nat.pow_le_pow_right (by omega) (by simp at h; omega)
    omega
/-- rules: which left side has which right side -/
abbrev Rs := Wd → Wd → Prop
/-- one step -/
def Stp (E : Rs) (u v : Wd) : Prop := ∃ x l r y, E l r ∧ u = x ++ (l ++ y) ∧ v = x ++ (r ++ y)
theorem Stp.ctx {E : Rs} {u v : Wd} (x y : Wd) (h : Stp E u v) : Stp E (x ++ (u ++ y)) (x ++ (v ++ y)) := by
  obtain ⟨a, l, r, b, h1, rfl, rfl⟩ := h
  exact ⟨x ++ a, l, r, b ++ y, h1, by simp [List.append_assoc], by simp [List.append_assoc]⟩
theorem Stp.mono {E F : Rs} (h : ∀ l r, E l r → F l r) {u v : Wd} (s : Stp E u v) : Stp F u v := by
  obtain ⟨a, l, r, b, h1, h2, h3⟩ := s
  exact ⟨a, l, r, b, h _ _ h1, h2, h3⟩
theorem Stp.rule {E : Rs} {l r : Wd} (h : E l r) : Stp E l r := ⟨[], l, r, [], h, by simp, by simp⟩
/-- each rule makes a word less -/
def Dwn (E : Rs) : Prop := ∀ l r, E l r → wt r < wt l
theorem Dwn.stp {E : Rs} (h : Dwn E) {u v : Wd} (s : Stp E u v) : wt v < wt u := by
  obtain ⟨x, l, r, y, h1, rfl, rfl⟩ := s
  exact wt_ctx x y (h _ _ h1)
/-- many steps -/
inductive Red (E : Rs) : Wd → Wd → Prop
  | refl (u : Wd) : Red E u u
  | step {u v x : Wd} : Stp E u v → Red E v x → Red E u x
theorem Red.trans {E : Rs} {u v x : Wd} (a : Red E u v) (b : Red E v x) : Red E u x := by
  induction a with
  | refl => exact b
  | step s _ ih => exact .step s (ih b)
theorem Red.one {E : Rs} {u v : Wd} (s : Stp E u v) : Red E u v := .step s (.refl _)
theorem Red.ctx {E : Rs} {u v : Wd} (x y : Wd) (h : Red E u v) : Red E (x ++ (u ++ y)) (x ++ (v ++ y)) := by
  induction h with
  | refl => exact .refl _
  | step s _ ih => exact .step (s.ctx x y) ih
theorem Red.le {E : Rs} (hd : Dwn E) {u v : Wd} (h : Red E u v) : wt v ≤ wt u := by
  induction h with
  | refl => exact Nat.le_refl _
  | step s _ ih => have := hd.stp s; omega
theorem Red.mono {E F : Rs} (h : ∀ l r, E l r → F l r) {u v : Wd} (s : Red E u v) : Red F u v := by
  induction s with
  | refl => exact .refl _
  | step s _ ih => exact .step (s.mono h) ih
/-- no step can be made -/
def Irr (E : Rs) (u : Wd) : Prop := ∀ v, ¬ Stp E u v
/-- connected by steps, forth and back, all words below a number -/
inductive Conn (E : Rs) (n : Nat) : Wd → Wd → Prop
  | refl (u : Wd) : Conn E n u u
  | fwd {u v x : Wd} : wt u < n → wt v < n → Stp E u v → Conn E n v x → Conn E n u x
  | bwd {u v x : Wd} : wt u < n → wt v < n → Stp E v u → Conn E n v x → Conn E n u x
theorem Conn.trans {E : Rs} {n : Nat} {u v x : Wd} (a : Conn E n u v) (b : Conn E n v x) : Conn E n u x := by
  induction a with
  | refl => exact b
  | fwd h1 h2 s _ ih => exact .fwd h1 h2 s (ih b)
  | bwd h1 h2 s _ ih => exact .bwd h1 h2 s (ih b)
theorem Conn.symm {E : Rs} {n : Nat} {u v : Wd} (a : Conn E n u v) : Conn E n v u := by
  induction a with
  | refl => exact .refl _
  | fwd h1 h2 s _ ih => exact ih.trans (.bwd h2 h1 s (.refl _))
  | bwd h1 h2 s _ ih => exact ih.trans (.fwd h2 h1 s (.refl _))
theorem Conn.mono {E : Rs} {n k : Nat} (h : n ≤ k) {u v : Wd} (a : Conn E n u v) : Conn E k u v := by
  induction a with
  | refl => exact .refl _
  | fwd h1 h2 s _ ih => exact .fwd (by omega) (by omega) s ih
  | bwd h1 h2 s _ ih => exact .bwd (by omega) (by omega) s ih
theorem Conn.ctx {E : Rs} {w u v : Wd} (x y : Wd) (a : Conn E (wt w) u v) : Conn E (wt (x ++ (w ++ y))) (x ++ (u ++ y)) (x ++ (v ++ y)) := by
  induction a with
  | refl => exact .refl _
  | fwd h1 h2 s _ ih => exact .fwd (wt_ctx x y h1) (wt_ctx x y h2) (s.ctx x y) ih
  | bwd h1 h2 s _ ih => exact .bwd (wt_ctx x y h1) (wt_ctx x y h2) (s.ctx x y) ih
/-- the critical pairs of S are connected in E below their words -/
structure Crit (S E : Rs) : Prop where
  inn : ∀ l1 r1 l2 r2 x y, S l1 r1 → S l2 r2 → l1 = x ++ (l2 ++ y) → Conn E (wt l1) r1 (x ++ (r2 ++ y))
  acr : ∀ l1 r1 l2 r2 x t y, S l1 r1 → S l2 r2 → l1 = x ++ t → l2 = t ++ y → t ≠ [] → x ≠ [] → y ≠ [] → Conn E (wt (x ++ (t ++ y))) (r1 ++ y) (x ++ r2)
/-- two words that are one: the first of two parts lies in front -/
theorem split_two {p1 q1 p2 q2 : Wd} (h : p1 ++ q1 = p2 ++ q2) (hl : p1.length ≤ p2.length) : ∃ t, p2 = p1 ++ t ∧ q1 = t ++ q2 := by
  obtain ⟨t, ht⟩ : p1 <+: p2 := List.prefix_of_prefix_length_le (List.prefix_append p1 q1) (h ▸ List.prefix_append p2 q2) hl
  refine ⟨t, ht.symm, ?_⟩
  rw [← ht, List.append_assoc] at h
  exact List.append_cancel_left h
/-- two steps from one word, the first one's place in front -/
theorem local_le {S : Rs} (hd : Dwn S) (hc : Crit S S) {p1 l1 r1 q1 p2 l2 r2 q2 : Wd} (h1 : S l1 r1) (h2 : S l2 r2) (h : p1 ++ (l1 ++ q1) = p2 ++ (l2 ++ q2)) (hl : p1.length ≤ p2.length) :
    Conn S (wt (p1 ++ (l1 ++ q1))) (p1 ++ (r1 ++ q1)) (p2 ++ (r2 ++ q2)) := by
  obtain ⟨t, rfl, h3⟩ := split_two h hl
  -- l1 ++ q1 = t ++ (l2 ++ q2)
  rcases Nat.lt_or_ge t.length l1.length with hlt | hge
  · obtain ⟨s, rfl, h5⟩ := split_two h3.symm (Nat.le_of_lt hlt)
    -- l1 = t ++ s, l2 ++ q2 = s ++ q1
    have hs : s ≠ [] := by rintro rfl; simp at hlt
    rcases Nat.lt_or_ge s.length l2.length with hlt2 | hge2
    · obtain ⟨y, rfl, rfl⟩ := split_two h5.symm (Nat.le_of_lt hlt2)
      have hy : y ≠ [] := by rintro rfl; simp at hlt2
      by_cases ht : t = []
      · subst ht
        have h6 := hc.inn _ _ _ _ [] y h2 h1 (by simp)
        have h7 := (h6.ctx p1 q2).symm
        simpa [List.append_assoc] using h7
      · have h6 := hc.acr _ _ _ _ t s y h1 h2 rfl rfl hs ht hy
        have h7 := h6.ctx p1 q2
        simpa [List.append_assoc] using h7
    · obtain ⟨y, rfl, rfl⟩ := split_two h5 hge2
      have h6 := hc.inn _ _ _ _ t y h1 h2 rfl
      have h7 := h6.ctx p1 q1
      simpa [List.append_assoc] using h7
  · obtain ⟨s, rfl, rfl⟩ := split_two h3 hge
    -- t = l1 ++ s, q1 = s ++ (l2 ++ q2)
    have s1 : Stp S (p1 ++ (r1 ++ (s ++ (l2 ++ q2)))) (p1 ++ (r1 ++ (s ++ (r2 ++ q2)))) := ⟨p1 ++ (r1 ++ s), l2, r2, q2, h2, by simp [List.append_assoc], by simp [List.append_assoc]⟩
    have s2 : Stp S (p1 ++ (l1 ++ (s ++ (r2 ++ q2)))) (p1 ++ (r1 ++ (s ++ (r2 ++ q2)))) := ⟨p1, l1, r1, _, h1, rfl, rfl⟩
    have s3 : Stp S (p1 ++ (l1 ++ (s ++ (l2 ++ q2)))) (p1 ++ (r1 ++ (s ++ (l2 ++ q2)))) := ⟨p1, l1, r1, _, h1, rfl, rfl⟩
    have s4 : Stp S (p1 ++ (l1 ++ (s ++ (l2 ++ q2)))) (p1 ++ (l1 ++ (s ++ (r2 ++ q2)))) := ⟨p1 ++ (l1 ++ s), l2, r2, q2, h2, by simp [List.append_assoc], by simp [List.append_assoc]⟩
    have d1 := hd.stp s1
    have d3 := hd.stp s3
    have d4 := hd.stp s4
    have h7 : Conn S (wt (p1 ++ (l1 ++ (s ++ (l2 ++ q2))))) (p1 ++ (r1 ++ (s ++ (l2 ++ q2)))) (p1 ++ (l1 ++ (s ++ (r2 ++ q2)))) := .fwd d3 (by omega) s1 (.bwd (by omega) d4 s2 (.refl _))
    simpa [List.append_assoc] using h7
/-- two steps from one word -/
theorem local_all {S : Rs} (hd : Dwn S) (hc : Crit S S) {w a b : Wd} (s1 : Stp S w a) (s2 : Stp S w b) : Conn S (wt w) a b := by
  obtain ⟨p1, l1, r1, q1, h1, rfl, rfl⟩ := s1
  obtain ⟨p2, l2, r2, q2, h2, h, rfl⟩ := s2
  rcases Nat.le_total p1.length p2.length with hl | hl
  · exact local_le hd hc h1 h2 h hl
  · rw [h]
    exact (local_le hd hc h2 h1 h.symm hl).symm
/-- a normal form -/
def Nf (S : Rs) (u x : Wd) : Prop := Red S u x ∧ Irr S x
theorem Nf.ex {S : Rs} (hd : Dwn S) : ∀ (n : Nat) (u : Wd), wt u < n → ∃ x, Nf S u x
  | 0, u, h => by omega
  | n + 1, u, h => by
    by_cases hi : Irr S u
    · exact ⟨u, .refl _, hi⟩
    · obtain ⟨v, hv⟩ : ∃ v, Stp S u v := Classical.byContradiction fun hn => hi fun v hv => hn ⟨v, hv⟩
      have := hd.stp hv
      obtain ⟨x, h1, h2⟩ := Nf.ex hd n v (by omega)
      exact ⟨x, .step hv h1, h2⟩
theorem Nf.conn {S : Rs} (hd : Dwn S) {n : Nat} (hu : ∀ u, wt u < n → ∀ x y, Nf S u x → Nf S u y → x = y) {u v : Wd} (h : Conn S n u v) : ∀ x, Nf S u x → Nf S v x := by
  induction h with
  | refl => intro x hx; exact hx
  | @fwd u v z h1 h2 s _ ih =>
    intro x hx
    obtain ⟨y, hy⟩ := Nf.ex hd _ v (Nat.lt_succ_self _)
    obtain rfl := hu u h1 x y hx ⟨.step s hy.1, hy.2⟩
    exact ih _ hy
  | @bwd u v z h1 h2 s _ ih =>
    intro x hx
    exact ih _ ⟨.step s hx.1, hx.2⟩
theorem Nf.uniq {S : Rs} (hd : Dwn S) (hc : Crit S S) : ∀ (n : Nat) (u : Wd), wt u < n → ∀ x y, Nf S u x → Nf S u y → x = y
  | 0, u, h => by omega
  | n + 1, u, h => by
    rintro x y ⟨h1, h2⟩ ⟨h3, h4⟩
    cases h1 with
    | refl =>
      cases h3 with
      | refl => rfl
      | step s _ => exact absurd s (h2 _)
    | @step _ a _ s1 r1 =>
      cases h3 with
      | refl => exact absurd s1 (h4 _)
      | @step _ b _ s2 r2 =>
        have c := local_all hd hc s1 s2
        have d2 := hd.stp s2
        have IH := Nf.uniq hd hc n
        have h5 := Nf.conn hd (fun v hv => IH v (by omega)) c x ⟨r1, h2⟩
        exact IH b (by omega) x y h5 ⟨r2, h4⟩
end Go.Proofs.YtoddpmdjjgnpgaaGreatDoor
namespace Go.Proofs.YtoddpmdjjgnpgaaGreatDoor
open Go.RowKit
set_option linter.unusedVariables false
def sufBB (x p : ByteArray) : Bool := p.data.toList.isSuffixOf x.data.toList
/-- a Left of a rule ends v -/
def endsR (R : List RulD) (v : ByteArray) : Bool := R.any fun r => sufBB v r.1
def keepR (R : List RulD) : Nat := lsL R - 1
/-- the letters that are kept -/
def cutR (R : List RulD) (v : ByteArray) : ByteArray := v.extract (v.size - keepR R) v.size
theorem cutR_size (R : List RulD) (v : ByteArray) : (cutR R v).size ≤ keepR R := by unfold cutR; rw [ByteArray.size_extract]; omega
def okX (R : List RulD) (e : ByteArray) (x : Nat) : Bool := !endsR R (e ++ letterN x)
def nxtX (R : List RulD) (e : ByteArray) (x : Nat) : ByteArray := cutR R (e ++ letterN x)
/-- the number of ways to go on from an end by m letters -/
def paths (R : List RulD) (k : Nat) : Nat → ByteArray → Nat
  | 0, _ => 1
  | m + 1, e => ((List.range k).map fun x => if okX R e x = true then paths R k m (nxtX R e x) else 0).sum
/-- .. that begin with one of the first j letters -/
def pTo (R : List RulD) (k m : Nat) (e : ByteArray) (j : Nat) : Nat := ((List.range j).map fun x => if okX R e x = true then paths R k m (nxtX R e x) else 0).sum
theorem paths_succ (R : List RulD) (k m : Nat) (e : ByteArray) : paths R k (m + 1) e = pTo R k m e k := rfl
theorem pTo_zero (R : List RulD) (k m : Nat) (e : ByteArray) : pTo R k m e 0 = 0 := rfl
theorem pTo_yes {R : List RulD} {k m : Nat} {e : ByteArray} {j : Nat} (h : okX R e j = true) : pTo R k m e (j + 1) = pTo R k m e j + paths R k m (nxtX R e j) := by
  unfold pTo; rw [List.range_succ, List.map_append, List.sum_append]; simp [h]
theorem pTo_no {R : List RulD} {k m : Nat} {e : ByteArray} {j : Nat} (h : okX R e j = false) : pTo R k m e (j + 1) = pTo R k m e j := by
  unfold pTo; rw [List.range_succ, List.map_append, List.sum_append]; simp [h]
theorem paths_le {R : List RulD} {k : Nat} (hk : k ≤ 4) : ∀ (m : Nat) (e : ByteArray), paths R k m e ≤ 4 ^ m
  | 0, e => Nat.le_refl _
  | m + 1, e => by
    rw [paths_succ]
    have key : ∀ j, pTo R k m e j ≤ j * 4 ^ m := fun j => by
      induction j with
      | zero => rw [pTo_zero]; omega
      | succ j ih =>
        have := paths_le (R := R) hk m (nxtX R e j)
        rw [Nat.succ_mul]
        cases h : okX R e j
        · rw [pTo_no h]; omega
        · rw [pTo_yes h]; omega
    have h1 := key k
    have h2 : k * 4 ^ m ≤ 4 * 4 ^ m := Nat.mul_le_mul_right _ hk
    rw [Nat.pow_succ, Nat.mul_comm (4 ^ m) 4]
    omega
theorem pTo_mono (R : List RulD) (k m : Nat) (e : ByteArray) {i j : Nat} (h : i ≤ j) : pTo R k m e i ≤ pTo R k m e j := by
  induction h with
  | refl => exact Nat.le_refl _
  | @step j _ ih =>
    cases h : okX R e j
    · rw [pTo_no h]; exact ih
    · rw [pTo_yes h]; omega
/-- ends, and how many words have each of them -/
abbrev WayD := List (ByteArray × Nat)
/-- the words that they become by m letters more -/
def wsum (R : List RulD) (k m : Nat) (W : WayD) : Nat := (W.map fun p => p.2 * paths R k m p.1).sum
theorem wsum_app (R : List RulD) (k m : Nat) (W V : WayD) : wsum R k m (W ++ V) = wsum R k m W + wsum R k m V := by unfold wsum; rw [List.map_append, List.sum_append]
theorem wsum_one (R : List RulD) (k m : Nat) (v : ByteArray) (c : Nat) : wsum R k m [(v, c)] = c * paths R k m v := by simp [wsum]
theorem wsum_take (R : List RulD) (k m : Nat) (W : WayD) {i : Nat} (h : i < W.length) : wsum R k m (W.take (i + 1)) = wsum R k m (W.take i) + W[i].2 * paths R k m W[i].1 := by
  rw [List.take_succ_eq_append_getElem h, wsum_app, wsum_one]
theorem wsum_take_le (R : List RulD) (k m : Nat) (W : WayD) (i : Nat) : wsum R k m (W.take i) ≤ wsum R k m W := by
  have h := wsum_app R k m (W.take i) (W.drop i)
  rw [List.take_append_drop] at h
  omega
/-- more words with an end that is there -/
def addW (W : WayD) (i c : Nat) : WayD := W.modify i fun p => (p.1, p.2 + c)
theorem addW_split {W : WayD} {i c : Nat} (h : i < W.length) : addW W i c = W.take i ++ [(W[i].1, W[i].2 + c)] ++ W.drop (i + 1) := by
  unfold addW
  rw [List.modify_eq_take_cons_drop h]
  simp
theorem wsum_add {R : List RulD} {k m : Nat} {W : WayD} {i c : Nat} (h : i < W.length) : wsum R k m (addW W i c) = wsum R k m W + c * paths R k m W[i].1 := by
  have e : W = W.take i ++ [W[i]] ++ W.drop (i + 1) := by
    conv => lhs; rw [← List.take_append_drop i W, List.drop_eq_getElem_cons h]
    simp
  have h1 : wsum R k m W = wsum R k m (W.take i) + W[i].2 * paths R k m W[i].1 + wsum R k m (W.drop (i + 1)) := by
    conv => lhs; rw [e]
    rw [wsum_app, wsum_app]
    congr 2
  rw [addW_split h, wsum_app, wsum_app, wsum_one, h1, Nat.add_mul]
  omega
/-- each number is at least one -/
def PosW (W : WayD) : Prop := ∀ p ∈ W, 1 ≤ p.2
theorem PosW.len {R : List RulD} {k : Nat} : ∀ {W : WayD}, PosW W → W.length ≤ wsum R k 0 W
  | [], _ => Nat.le_refl _
  | p :: W, h => by
    have ih := PosW.len (R := R) (k := k) (W := W) (fun q hq => h q (List.mem_cons_of_mem _ hq))
    have h1 := h p List.mem_cons_self
    have e : wsum R k 0 (p :: W) = p.2 * 1 + wsum R k 0 W := by simp [wsum, paths]
    rw [e, List.length_cons]; omega
theorem PosW.add {W : WayD} (h : PosW W) (i c : Nat) : PosW (addW W i c) := fun p hp => by
  unfold addW at hp
  obtain ⟨j, hj, he⟩ := List.getElem_of_mem hp
  rw [List.getElem_modify] at he
  have h1 := h _ (List.getElem_mem (show j < W.length by simpa using hj))
  split at he
  · rw [← he]; show 1 ≤ _ + c; omega
  · rw [← he]; exact h1
theorem PosW.push {W : WayD} (h : PosW W) {v : ByteArray} {c : Nat} (hc : 1 ≤ c) : PosW (W ++ [(v, c)]) := fun p hp => by
  rcases List.mem_append.1 hp with hp | hp
  · exact h p hp
  · rw [List.mem_singleton.1 hp]; exact hc
/-- the ends are short -/
def ShortW (n : Nat) (W : WayD) : Prop := ∀ p ∈ W, p.1.size ≤ n
theorem ShortW.add {n : Nat} {W : WayD} (h : ShortW n W) (i c : Nat) : ShortW n (addW W i c) := fun p hp => by
  unfold addW at hp
  obtain ⟨j, hj, he⟩ := List.getElem_of_mem hp
  rw [List.getElem_modify] at he
  have h1 := h _ (List.getElem_mem (show j < W.length by simpa using hj))
  split at he
  · rw [← he]; exact h1
  · rw [← he]; exact h1
theorem ShortW.push {n : Nat} {W : WayD} (h : ShortW n W) {v : ByteArray} {c : Nat} (hv : v.size ≤ n) : ShortW n (W ++ [(v, c)]) := fun p hp => by
  rcases List.mem_append.1 hp with hp | hp
  · exact h p hp
  · rw [List.mem_singleton.1 hp]; exact hv
/-- the ways of a length -/
structure WayAt (R : List RulD) (k i : Nat) (W : WayD) : Prop where
  eq : ∀ m, wsum R k m W = paths R k (i + m) ⟨#[]⟩
  pos : PosW W
  short : ShortW (keepR R) W
theorem WayAt.start (R : List RulD) (k : Nat) : WayAt R k 0 [(⟨#[]⟩, 1)] := by
  refine ⟨fun m => by rw [wsum_one, Nat.zero_add]; omega, fun p hp => ?_, fun p hp => ?_⟩
  · rw [List.mem_singleton.1 hp]; exact Nat.le_refl _
  · rw [List.mem_singleton.1 hp]; exact Nat.zero_le _
/-- behind i ends and j letters of the next one -/
structure WayTo (R : List RulD) (k : Nat) (W : WayD) (i j : Nat) (e : ByteArray) (c : Nat) (V : WayD) : Prop where
  eq : ∀ m, wsum R k m V = wsum R k (m + 1) (W.take i) + c * pTo R k m e j
  pos : PosW V
  short : ShortW (keepR R) V
theorem WayTo.start (R : List RulD) (k : Nat) (W : WayD) (e : ByteArray) (c : Nat) : WayTo R k W 0 0 e c [] :=
  ⟨fun m => by rw [pTo_zero]; simp [wsum], fun p hp => (by cases hp), fun p hp => (by cases hp)⟩
theorem WayTo.no {R : List RulD} {k : Nat} {W V : WayD} {i j c : Nat} {e : ByteArray} (h : WayTo R k W i j e c V) (hx : okX R e j = false) : WayTo R k W i (j + 1) e c V :=
  ⟨fun m => by rw [pTo_no hx]; exact h.eq m, h.pos, h.short⟩
theorem WayTo.old {R : List RulD} {k : Nat} {W V : WayD} {i j c a : Nat} {e : ByteArray} (h : WayTo R k W i j e c V) (hx : okX R e j = true) (ha : a < V.length) (he : V[a].1 = nxtX R e j) : WayTo R k W i (j + 1) e c (addW V a c) :=
  ⟨fun m => by rw [wsum_add ha, he, h.eq m, pTo_yes hx, Nat.mul_add]; omega, h.pos.add _ _, h.short.add _ _⟩
theorem WayTo.new {R : List RulD} {k : Nat} {W V : WayD} {i j c : Nat} {e : ByteArray} (h : WayTo R k W i j e c V) (hx : okX R e j = true) (hc : 1 ≤ c) : WayTo R k W i (j + 1) e c (V ++ [(nxtX R e j, c)]) :=
  ⟨fun m => by rw [wsum_app, wsum_one, h.eq m, pTo_yes hx, Nat.mul_add]; omega, h.pos.push hc, h.short.push (cutR_size _ _)⟩
theorem WayTo.row {R : List RulD} {k : Nat} {W V : WayD} {i : Nat} (hi : i < W.length) (h : WayTo R k W i k W[i].1 W[i].2 V) (e : ByteArray) (c : Nat) : WayTo R k W (i + 1) 0 e c V :=
  ⟨fun m => by rw [h.eq m, wsum_take _ _ _ _ hi, paths_succ, pTo_zero]; omega, h.pos, h.short⟩
theorem WayTo.other {R : List RulD} {k : Nat} {W V : WayD} {i : Nat} {e e' : ByteArray} {c c' : Nat} (h : WayTo R k W i 0 e c V) : WayTo R k W i 0 e' c' V := ⟨fun m => by rw [h.eq m, pTo_zero, pTo_zero]; omega, h.pos, h.short⟩
theorem WayTo.done {R : List RulD} {k n : Nat} {W V : WayD} {e : ByteArray} {c : Nat} (hW : WayAt R k n W) (h : WayTo R k W W.length 0 e c V) : WayAt R k (n + 1) V :=
  ⟨fun m => by rw [h.eq m, List.take_length, hW.eq, pTo_zero, show n + (m + 1) = n + 1 + m by omega]; omega, h.pos, h.short⟩
/-- the numbers stay small -/
theorem WayTo.le {R : List RulD} {k n : Nat} (hk : k ≤ 4) {W V : WayD} {i j : Nat} (hW : WayAt R k n W) (hi : i < W.length) (hj : j ≤ k) (h : WayTo R k W i j W[i].1 W[i].2 V) : wsum R k 0 V ≤ 4 ^ (n + 1) := by
  rw [h.eq 0]
  have h1 := wsum_take_le R k (0 + 1) W (i + 1)
  rw [wsum_take _ _ _ _ hi, paths_succ] at h1
  have h2 := pTo_mono R k 0 W[i].1 hj
  have h3 : W[i].2 * pTo R k 0 W[i].1 j ≤ W[i].2 * pTo R k 0 W[i].1 k := Nat.mul_le_mul_left _ h2
  have h4 := hW.eq (0 + 1)
  have h5 := paths_le (R := R) hk (n + (0 + 1)) ⟨#[]⟩
  rw [← h4] at h5
  have h6 : n + (0 + 1) = n + 1 := by omega
  rw [h6] at h5
  omega
end Go.Proofs.YtoddpmdjjgnpgaaGreatDoor
namespace Go.Proofs.YtoddpmdjjgnpgaaGreatDoor
open Go.RowKit
set_option linter.unusedVariables false
end Go.Proofs.YtoddpmdjjgnpgaaGreatDoor
namespace Go.Proofs.YtoddpmdjjgnpgaaGreatDoor
open Go.RowKit
set_option linter.unusedVariables false
def TwoB (w wr : World) (v : Value) (xs : List Value) (u : Value) (ys : List Value) : Prop :=
  Bld 9 1 w wr v xs.length xs ∧ Bld 3 1 w wr u ys.length ys ∧ ∀ k, v.ownBlock = some k → u.ownBlock ≠ some k
theorem TwoB.later {w wr wr' : World} {v u : Value} {xs ys : List Value} (h : TwoB w wr v xs u ys) (hb : Below wr.heap.size wr wr') : TwoB w wr' v xs u ys := ⟨h.1.later hb, h.2.1.later hb, h.2.2⟩
theorem setGrownB (w : World) (B o : Nat) (v : Value) : w.grownBy (w.setCell ⟨B, o, none⟩ v) (some B) := by
  have hszc : (w.setCell ⟨B, o, none⟩ v).heap.size = w.heap.size := by simp
  exact ⟨rfl, rfl, rfl, by rw [hszc]; exact Nat.le_refl _, fun k hk hne => by
    unfold World.setCell
    rw [Array.getElem?_modify, if_neg (fun e : B = k => hne (by rw [e]))]⟩
theorem owns_slot {w : World} {base : Nat} {T : TypeId} {v : Value} {n : Nat} {xs : List Value} (h : w.ownsRow base T 1 v n xs) (h0 : 0 < n) : ∃ g cap, v = .slice (some ⟨g, 0, none⟩) n cap := by
  rcases h.2 with ⟨hv, h1⟩ | ⟨g, cap', cur, hv, _⟩
  · omega
  · exact ⟨g, cap', hv⟩
end Go.Proofs.YtoddpmdjjgnpgaaGreatDoor
namespace Go.Proofs.YtoddpmdjjgnpgaaGreatDoor
open Go.RowKit
set_option linter.unusedVariables false
end Go.Proofs.YtoddpmdjjgnpgaaGreatDoor
namespace Go.Proofs.YtoddpmdjjgnpgaaGreatDoor
open Go.RowKit
set_option linter.unusedVariables false
def keyV (V : WayD) : List Value := V.map fun p => .string p.1
def cntV (V : WayD) : List Value := V.map fun p => .int .i64 (p.2 : Int)
theorem keyV_len (V : WayD) : (keyV V).length = V.length := by simp [keyV]
theorem cntV_len (V : WayD) : (cntV V).length = V.length := by simp [cntV]
/-- ends and numbers that are being built -/
def Ways (w wr : World) (v u : Value) (V : WayD) : Prop := TwoB w wr v (keyV V) u (cntV V)
def nthW (V : WayD) (i : Nat) : ByteArray × Nat := V.getD i (⟨#[]⟩, 0)
theorem nthW_lt {V : WayD} {i : Nat} (h : i < V.length) : nthW V i = V[i] := by simp [nthW, List.getD_eq_getElem?_getD, h]
/-- the ends and the numbers lie in two slices -/
def WaysIn (w : World) (a a2 : Option Addr) (W : WayD) : Prop := CellsIn w a (keyV W) ∧ CellsIn w a2 (cntV W)
theorem WaysIn.later {w w' : World} {a a2 : Option Addr} {W : WayD} (h : WaysIn w a a2 W) (hb : Below w.heap.size w w') : WaysIn w' a a2 W := ⟨h.1.later hb, h.2.later hb⟩
theorem cells_at {w : World} {a : Option Addr} {xs : List Value} (h : CellsIn w a xs) {i : Nat} {x : Value} (hi : xs[i]? = some x) : ∃ b off, a = some ⟨b, off, none⟩ ∧ w.cell? ⟨b, off + i, none⟩ = some x := by
  obtain ⟨hl, rfl⟩ := List.getElem?_eq_some_iff.1 hi
  rcases h with h | ⟨b, off, ha, hc⟩
  · rw [h] at hl; simp at hl
  · exact ⟨b, off, ha, hc i hl⟩
theorem WaysIn.at {w : World} {a a2 : Option Addr} {W : WayD} (h : WaysIn w a a2 W) {i : Nat} (hi : i < W.length) :
    ∃ b off b2 off2, a = some ⟨b, off, none⟩ ∧ a2 = some ⟨b2, off2, none⟩ ∧ w.cell? ⟨b, off + i, none⟩ = some (.string (nthW W i).1) ∧ w.cell? ⟨b2, off2 + i, none⟩ = some (.int .i64 ((nthW W i).2 : Int)) := by
  obtain ⟨b, off, ha, h1⟩ := cells_at h.1 (i := i) (x := .string (nthW W i).1) (by simp [keyV, hi, nthW_lt hi])
  obtain ⟨b2, off2, ha2, h2⟩ := cells_at h.2 (i := i) (x := .int .i64 ((nthW W i).2 : Int)) (by simp [cntV, hi, nthW_lt hi])
  exact ⟨b, off, b2, off2, ha, ha2, h1, h2⟩
theorem Ways.later {w wr wr' : World} {v u : Value} {V : WayD} (h : Ways w wr v u V) (hb : Below wr.heap.size wr wr') : Ways w wr' v u V := TwoB.later h hb
theorem Ways.form {w wr : World} {v u : Value} {V : WayD} (h : Ways w wr v u V) : ∃ a c a2 c2, v = .slice a V.length c ∧ u = .slice a2 V.length c2 := by
  obtain ⟨a, c, hv⟩ := owns_form h.1.1
  obtain ⟨a2, c2, hu⟩ := owns_form h.2.1.1
  rw [keyV_len] at hv
  rw [cntV_len] at hu
  exact ⟨a, c, a2, c2, hv, hu⟩
theorem Ways.read {w wr : World} {v u : Value} {V : WayD} (h : Ways w wr v u V) {i : Nat} (hi : i < V.length) : ∃ g c g2 c2, v = .slice (some ⟨g, 0, none⟩) V.length c ∧ u = .slice (some ⟨g2, 0, none⟩) V.length c2 ∧
    wr.cell? ⟨g, i, none⟩ = some (.string (nthW V i).1) ∧ wr.cell? ⟨g2, i, none⟩ = some (.int .i64 ((nthW V i).2 : Int)) ∧ wr.frozen? ⟨g2, i, none⟩ = false := by
  obtain ⟨g, c, hv⟩ := owns_slot h.1.1 (by rw [keyV_len]; omega)
  obtain ⟨g2, c2, hu⟩ := owns_slot h.2.1.1 (by rw [cntV_len]; omega)
  rw [keyV_len] at hv
  rw [cntV_len] at hu
  subst hv hu
  refine ⟨g, c, g2, c2, rfl, rfl, ?_, ?_, by have h2 := h.2.1.1; rw [cntV_len] at h2; exact h2.frozenAt i⟩
  · have h1 := h.1.1
    rw [keyV_len] at h1
    rw [World.ownsRow.cellAt h1 i (by omega)]; simp [keyV, hi, nthW_lt hi]
  · have h1 := h.2.1.1
    rw [cntV_len] at h1
    rw [World.ownsRow.cellAt h1 i (by omega)]; simp [cntV, hi, nthW_lt hi]
theorem Ways.drewN {w wr : World} {v u : Value} {V : WayD} (h : Ways w wr v u V) (n : Nat) : Ways w (wr.drewN n) v u V := h.later ⟨rfl, rfl, rfl, Nat.le_refl _, fun _ _ => rfl⟩
theorem Ways.out {w wr : World} {v u : Value} {V : WayD} (h : Ways w wr v u V) : ∃ a c a2 c2, v = .slice a V.length c ∧ u = .slice a2 V.length c2 ∧ WaysIn wr a a2 V ∧ (∀ x, a = some x → w.heap.size ≤ x.block ∧ x.block < wr.heap.size) ∧ ∀ x, a2 = some x → w.heap.size ≤ x.block ∧ x.block < wr.heap.size := by
  obtain ⟨a, c, a2, c2, rfl, rfl⟩ := h.form
  exact ⟨a, c, a2, c2, rfl, rfl, ⟨owns_cells h.1.1, owns_cells h.2.1.1⟩, fun x hx => by subst hx; exact h.1.1.lt x.block rfl, fun x hx => by subst hx; exact h.2.1.1.lt x.block rfl⟩
end Go.Proofs.YtoddpmdjjgnpgaaGreatDoor
namespace Go.Proofs.YtoddpmdjjgnpgaaGreatDoor
open Go.RowKit
set_option linter.unusedVariables false
/-- a slice lies away from another one -/
def Away (w : World) (a : Option Addr) (v : Value) : Prop := ∀ x, a = some x → x.block < w.heap.size ∧ some x.block ≠ v.ownBlock
theorem Away.append {wr w' : World} {a : Option Addr} {v v' : Value} {y : Value} {T : TypeId} (h : Away wr a v) (hg : (wr.alloc (.cells #[y] T)).grownBy w' v.ownBlock) (ho : v'.ownBlock = v.ownBlock ∨ v'.ownBlock = some (wr.alloc (.cells #[y] T)).heap.size) : Away w' a v' := fun x hx => by
  obtain ⟨h1, h2⟩ := h x hx
  have hs := hg.size
  simp at hs
  refine ⟨by omega, ?_⟩
  rcases ho with h3 | h3
  · rw [h3]; exact h2
  · rw [h3]
    simp
    omega
end Go.Proofs.YtoddpmdjjgnpgaaGreatDoor
namespace Go.Proofs.YtoddpmdjjgnpgaaGreatDoor
open Go.RowKit
set_option linter.unusedVariables false
end Go.Proofs.YtoddpmdjjgnpgaaGreatDoor
namespace Go.Proofs.YtoddpmdjjgnpgaaGreatDoor
open Go.RowKit
set_option linter.unusedVariables false
end Go.Proofs.YtoddpmdjjgnpgaaGreatDoor
namespace Go.Proofs.YtoddpmdjjgnpgaaGreatDoor
open Go.RowKit
set_option linter.unusedVariables false
end Go.Proofs.YtoddpmdjjgnpgaaGreatDoor
namespace Go.Proofs.YtoddpmdjjgnpgaaGreatDoor
open Go.RowKit
set_option linter.unusedVariables false
end Go.Proofs.YtoddpmdjjgnpgaaGreatDoor
namespace Go.Proofs.YtoddpmdjjgnpgaaGreatDoor
open Go.RowKit
set_option linter.unusedVariables false
/-- the rules of a system, as sides -/
def SR (R : List RulD) : Rs := fun l r => ∃ p ∈ R, p.1.data.toList = l ∧ p.2.data.toList = r
theorem lessS_wt {a b : ByteArray} (h : lessS a b = true) : wt a.data.toList < wt b.data.toList := by
  unfold lessS ltW blW at h
  rcases of_decide_eq_true h with h | ⟨h1, h2⟩
  · exact wt_short h
  · exact wt_lex h1 h2
theorem ba_lists {a b : ByteArray} (h : a.data.toList = b.data.toList) : a = b := by
  cases a; cases b
  simp only [ByteArray.mk.injEq] at h ⊢
  exact Array.ext' h
theorem step_stp {R : List RulD} {w : ByteArray} {s : Nat × Nat} (hm : s ∈ stepsF R w) : Stp (SR R) w.data.toList (applyF R w s).data.toList := by
  obtain ⟨h1, h2, h3⟩ := mem_stepsF.1 hm
  refine ⟨w.data.toList.take s.2, _, _, w.data.toList.drop (s.2 + (nthR R s.1).1.size), ⟨nthR R s.1, nthR_mem h2, rfl, rfl⟩, split_at h3, ?_⟩
  unfold applyF
  rw [replF_list]
/-- the word behind a step at a place that is told by what stands ahead of it -/
theorem apply_at {R : List RulD} {w : ByteArray} {i : Nat} {x y : List UInt8} (h : w.data.toList = x ++ ((nthR R i).1.data.toList ++ y)) :
    preAt w x.length (nthR R i).1 = true ∧ (applyF R w (i, x.length)).data.toList = x ++ ((nthR R i).2.data.toList ++ y) := by
  have e1 : (nthR R i).1.data.toList.length = (nthR R i).1.size := rfl
  constructor
  · unfold preAt
    rw [h, List.drop_left, List.isPrefixOf_iff_prefix]
    exact List.prefix_append _ _
  · unfold applyF
    rw [replF_list]
    show w.data.toList.take x.length ++ ((nthR R i).2.data.toList ++ w.data.toList.drop (x.length + (nthR R i).1.size)) = _
    rw [h, List.take_left, ← e1, ← List.drop_drop, List.drop_left, List.drop_left]
theorem stp_step {R : List RulD} (hne : ∀ r ∈ R, r.1.size ≠ 0) {w : ByteArray} {v : List UInt8} (h : Stp (SR R) w.data.toList v) : ∃ s ∈ stepsF R w, (applyF R w s).data.toList = v := by
  obtain ⟨x, _, _, y, ⟨p, hp, rfl, rfl⟩, h1, rfl⟩ := h
  obtain ⟨i, hi, rfl⟩ := mem_nthR hp
  obtain ⟨h2, h3⟩ := apply_at h1
  have e1 : (nthR R i).1.data.toList.length = (nthR R i).1.size := rfl
  have e2 : w.data.toList.length = w.size := rfl
  have h4 := hne _ hp
  rw [h1] at e2
  simp only [List.length_append] at e2
  exact ⟨(i, x.length), mem_stepsF.2 ⟨by show x.length < _; omega, hi, h2⟩, h3⟩
theorem norm_nf {R : List RulD} (hne : ∀ r ∈ R, r.1.size ≠ 0) {w x : ByteArray} (h : NormIs R w x) : Nf (SR R) w.data.toList x.data.toList := by
  induction h with
  | done h =>
    refine ⟨.refl _, fun v hv => ?_⟩
    obtain ⟨s, hs, _⟩ := stp_step hne hv
    rw [List.head?_eq_none_iff] at h
    rw [h] at hs
    cases hs
  | step h _ ih => exact ⟨.step (step_stp (head_mem h)) ih.1, ih.2⟩
end Go.Proofs.YtoddpmdjjgnpgaaGreatDoor
