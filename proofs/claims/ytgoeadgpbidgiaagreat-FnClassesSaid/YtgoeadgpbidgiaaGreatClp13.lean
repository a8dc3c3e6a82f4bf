/-
  First steps, apply and normal of the program, for rules that make a word less, however many they are (up to 13).
-/
import Derived.Test.YtgoeadgpbidgiaaGreatClp12
import Derived.Test.YtgoeadgpbidgiaaGreatClp01
import Derived.Test.YtgoeadgpbidgiaaGreatClp11
import Derived.Test.YtgoeadgpbidgiaaGreatClp08
import Derived.Test.YtgoeadgpbidgiaaGreatClp09
namespace Go.Proofs.YtgoeadgpbidgiaaGreat
open Go.RowKit
set_option linter.unusedVariables false
/-- what AllReduced is -/
def AllIs (k : Int) (R : List RulD) (L : List ByteArray) (f : Bool) : Prop :=
  (¬ (∃ c, CntIs k R c ∧ 0 ≤ c ∧ c ≤ 256) ∧ L = [] ∧ f = false) ∨
  ∃ (kn h : Nat), k = (kn : Int) ∧ HtIs R kn ⟨#[]⟩ (h : Int) ∧ (∃ c, CntIs k R c ∧ 0 ≤ c ∧ c ≤ 256) ∧ L = outTo R kn (h + 1) ∧ f = true ∧ L.length ≤ 256
theorem AllIs.few {k : Int} {R : List RulD} {L : List ByteArray} {f : Bool} (h : AllIs k R L f) : L.length ≤ 256 := by
  rcases h with ⟨_, rfl, _⟩ | ⟨_, _, _, _, _, _, _, h⟩
  · simp
  · exact h
theorem AllIs.uniq {k : Int} {R : List RulD} {L L' : List ByteArray} {f f' : Bool} (a : AllIs k R L f) (b : AllIs k R L' f') : L = L' ∧ f = f' := by
  rcases a with ⟨a1, a2, a3⟩ | ⟨kn, h, a1, a2, a3, a4, a5, _⟩ <;> rcases b with ⟨b1, b2, b3⟩ | ⟨kn', h', b1, b2, b3, b4, b5, _⟩
  · exact ⟨by rw [a2, b2], by rw [a3, b3]⟩
  · exact absurd b3 a1
  · exact absurd a3 b1
  · obtain rfl : kn = kn' := by omega
    have e := a2.uniq b2
    obtain rfl : h = h' := by omega
    exact ⟨by rw [a4, b4], by rw [a5, b5]⟩
/-- what AllReduced hands back -/
def RetAF (k : Int) (R : List RulD) (w : World) (e : Ending) (w' : World) : Prop :=
  ∃ (L : List ByteArray) (f : Bool) (a : Option Addr) (cap : Nat), AllIs k R L f ∧ e = .returned (.tuple #[.slice a L.length cap, .bool f]) ∧ w'.ownsRow w.heap.size 9 1 (.slice a L.length cap) L.length (strVals L) ∧ Below w.heap.size w w'
theorem RetAll.fn {k : Int} {R : List RulD} {w : World} {e : Ending} {w' : World} (h : RetAll k R w e w') : RetAF k R w e w' := by
  rcases h with ⟨h1, rfl, hb⟩ | ⟨kn, h, h1, hG, h2, h3, h4, a, cap, rfl, ho, hb⟩
  · exact ⟨[], false, none, 0, .inl ⟨h1, rfl, rfl⟩, rfl, World.ownsRow_nil _ _ _ _, hb⟩
  · exact ⟨_, true, a, cap, .inr ⟨kn, h, h1, h2, h4, rfl, rfl, by rw [outTo_len hG.ne]; exact h3⟩, rfl, ho, hb⟩
end Go.Proofs.YtgoeadgpbidgiaaGreat
namespace Go.Proofs.YtgoeadgpbidgiaaGreat
open Go.RowKit
set_option linter.unusedVariables false
end Go.Proofs.YtgoeadgpbidgiaaGreat
namespace Go.Proofs.YtgoeadgpbidgiaaGreat
open Go.RowKit
set_option linter.unusedVariables false
theorem letB_lt97 {k x : Nat} (hx : x < k) (hk : k ≤ 4) : letB (k : Int) (lt97 x) = true := by
  have h : (lt97 x).toNat = 97 + x := by unfold lt97; simp; omega
  unfold letB inB
  rw [h]
  simp
  omega
theorem wordsF_ok {R : List RulD} {k : Nat} (hk : k ≤ 4) : ∀ (m : Nat) (w : ByteArray), okLt (k : Int) w.data.toList → ∀ u ∈ wordsF R k m w, okLt (k : Int) u.data.toList
  | 0, w, hw, u, hu => by rw [List.mem_singleton.1 hu]; exact hw
  | m + 1, w, hw, u, hu => by
    obtain ⟨x, hx, h2⟩ := List.mem_flatMap.1 hu
    split at h2
    · refine wordsF_ok hk m _ ?_ u h2
      intro y hy
      rw [app_lt] at hy
      rcases List.mem_append.1 hy with hy | hy
      · exact hw y hy
      · rw [List.mem_singleton.1 hy]
        exact letB_lt97 (List.mem_range.1 hx) hk
    · cases h2
theorem mem_outTo {R : List RulD} {k i : Nat} {u : ByteArray} (h : u ∈ outTo R k i) : ∃ m, m < i ∧ u ∈ wordsF R k m ⟨#[]⟩ := by
  unfold outTo at h
  obtain ⟨m, hm, h2⟩ := List.mem_flatMap.1 h
  exact ⟨m, List.mem_range.1 hm, h2⟩
/-- the words and the table are made -/
def GoM (k : Int) (R : List RulD) : Prop := ComplP k R ∧ (∃ c, CntIs k R c ∧ 1 ≤ c ∧ c ≤ 40) ∧ ∃ h, LngIs k R h ∧ h ≤ 8
theorem CntIs.one {k : Int} {R : List RulD} {c : Int} (h : CntIs k R c) (h0 : 0 ≤ c) : 1 ≤ c := by
  obtain ⟨l, _, h2⟩ := h
  rcases h2 with ⟨_, rfl⟩ | ⟨h1, rfl⟩
  · omega
  · have := pSum_at R k.toNat (show 0 < l.toNat + 1 by omega)
    have e : paths R k.toNat 0 ⟨#[]⟩ = 1 := rfl
    omega
/-- what is known of the words -/
structure MonW (k : Int) (L : List ByteArray) : Prop where
  few : L.length ≤ 40
  word : ∀ u ∈ L, wordOkB k u = true ∧ u.size ≤ 8
theorem GoM.words {k : Int} {R : List RulD} (h : GoM k R) {L : List ByteArray} (hL : AllIs k R L true) : MonW k L := by
  obtain ⟨hc, ⟨c, hc1, hc2, hc3⟩, hg, hh1, hh2⟩ := h
  rcases hL with ⟨_, _, h3⟩ | ⟨kn, h, rfl, h2, _, rfl, _, _⟩
  · cases h3
  · have G := sysG_of hc.1
    rcases hh1 with ⟨h1, _⟩ | ⟨_, h4⟩
    · exact absurd hc.1 h1
    · rw [Int.toNat_natCast] at h4
      have e := h4.uniq h2
      have hk := hc.1.1.1.1
      obtain ⟨l, hl1, hl2⟩ := hc1
      rcases hl1 with ⟨h5, _⟩ | ⟨_, h5⟩
      · exact absurd hc.1 h5
      · rw [Int.toNat_natCast] at h5 hl2
        have e2 := h5.uniq h2
        subst e2
        refine ⟨?_, fun u hu => ?_⟩
        · rw [outTo_len G.ne]
          rcases hl2 with ⟨h6, _⟩ | ⟨_, rfl⟩
          · omega
          · rw [Int.toNat_natCast] at hc3
            omega
        · obtain ⟨m, hm, hu2⟩ := mem_outTo hu
          have hz := wordsF_size R kn m _ u hu2
          have e0 : (⟨#[]⟩ : ByteArray).size = 0 := rfl
          refine ⟨wordOk_iff.2 ⟨hk, by omega, wordsF_ok (by omega) m _ (fun y hy => by cases hy) u hu2⟩, by omega⟩
theorem word_app {k : Int} {u v : ByteArray} (hu : wordOkB k u = true) (hv : wordOkB k v = true) (h : u.size + v.size ≤ 16) : wordOkB k (u ++ v) = true := by
  obtain ⟨a1, a2, a3⟩ := wordOk_iff.1 hu
  obtain ⟨_, _, b3⟩ := wordOk_iff.1 hv
  refine wordOk_iff.2 ⟨a1, by rw [ByteArray.size_append]; exact h, fun y hy => ?_⟩
  rw [ByteArray.data_append, Array.toList_append] at hy
  rcases List.mem_append.1 hy with hy | hy
  · exact a3 y hy
  · exact b3 y hy
theorem MonW.pair {k : Int} {L : List ByteArray} (h : MonW k L) {i j : Nat} (hi : i < L.length) (hj : j < L.length) : wordOkB k (nthS L i ++ nthS L j) = true ∧ (nthS L i).size + (nthS L j).size ≤ 16 := by
  have h1 := h.word (nthS L i) (by rw [nthS_lt hi]; exact List.getElem_mem hi)
  have h2 := h.word (nthS L j) (by rw [nthS_lt hj]; exact List.getElem_mem hj)
  exact ⟨word_app h1.1 h2.1 (by omega), by omega⟩
/-- what MonoidOf is: words, table, whether it is made -/
def MonIs (k : Int) (R : List RulD) (L : List ByteArray) (P : List Int) (f : Bool) : Prop := (¬ GoM k R ∧ L = [] ∧ P = [] ∧ f = false) ∨ (GoM k R ∧ AllIs k R L true ∧ P = prodF R L ∧ f = true)
theorem MonIs.uniq {k : Int} {R : List RulD} {L L' : List ByteArray} {P P' : List Int} {f f' : Bool} (a : MonIs k R L P f) (b : MonIs k R L' P' f') : L = L' ∧ P = P' ∧ f = f' := by
  rcases a with ⟨a1, rfl, rfl, rfl⟩ | ⟨a1, a2, rfl, rfl⟩ <;> rcases b with ⟨b1, rfl, rfl, rfl⟩ | ⟨b1, b2, rfl, rfl⟩
  · exact ⟨rfl, rfl, rfl⟩
  · exact absurd b1 a1
  · exact absurd a1 b1
  · obtain ⟨rfl, _⟩ := a2.uniq b2
    exact ⟨rfl, rfl, rfl⟩
theorem MonIs.few {k : Int} {R : List RulD} {L : List ByteArray} {P : List Int} {f : Bool} (h : MonIs k R L P f) : L.length ≤ 40 ∧ P.length ≤ 1640 := by
  rcases h with ⟨_, rfl, rfl, _⟩ | ⟨h1, h2, rfl, _⟩
  · exact ⟨by simp, by simp⟩
  · have h3 := (h1.words h2).few
    refine ⟨h3, ?_⟩
    rw [← prodTo_done]
    exact prodTo_few h3 (Nat.le_refl _) (Nat.zero_le _)
end Go.Proofs.YtgoeadgpbidgiaaGreat
namespace Go.Proofs.YtgoeadgpbidgiaaGreat
set_option linter.unusedVariables false
/-- the number of a word, in base 257 -/
def wtL : Wd → Nat → Nat
  | [], a => a
  | y :: v, a => wtL v (a * 257 + (y.toNat + 1))
def wt (v : Wd) : Nat := wtL v 0
theorem wtL_add : ∀ (v : Wd) (a : Nat), wtL v a = a * 257 ^ v.length + wt v
  | [], a => by simp [wtL, wt]
  | y :: v, a => by
    unfold wt
    simp only [wtL]
    rw [wtL_add v, wtL_add v (0 * 257 + _)]
    rw [List.length_cons, Nat.pow_succ, Nat.add_mul, Nat.zero_mul, Nat.zero_add, Nat.mul_comm (257 ^ v.length) 257, ← Nat.mul_assoc]
    omega
theorem wt_app (u v : Wd) : wt (u ++ v) = wt u * 257 ^ v.length + wt v := by
  have h : ∀ (u : Wd) (a : Nat), wtL (u ++ v) a = wtL v (wtL u a) := fun u => by
    induction u with
    | nil => intro a; rfl
    | cons y u ih => intro a; exact ih _
  unfold wt
  rw [h, wtL_add]
  rfl
theorem wt_cons (y : UInt8) (v : Wd) : wt (y :: v) = (y.toNat + 1) * 257 ^ v.length + wt v := by
  have h := wt_app [y] v
  have e : wt [y] = y.toNat + 1 := by simp [wt, wtL]
  rw [e] at h
  exact h
theorem wt_lt : ∀ (v : Wd), wt v < 257 ^ v.length
  | [] => by simp [wt, wtL]
  | y :: v => by
    have ih := wt_lt v
    have h1 := y.toNat_lt
    rw [wt_cons, List.length_cons, Nat.pow_succ]
    have h2 : (y.toNat + 1) * 257 ^ v.length ≤ 256 * 257 ^ v.length := Nat.mul_le_mul_right _ (by omega)
    omega
theorem wt_ge (y : UInt8) (v : Wd) : 257 ^ v.length ≤ wt (y :: v) := by
  rw [wt_cons]
  have h2 : 1 * 257 ^ v.length ≤ (y.toNat + 1) * 257 ^ v.length := Nat.mul_le_mul_right _ (by omega)
  omega
theorem wt_len {a b : Wd} (h : wt a < wt b) : a.length ≤ b.length := by
  rcases Nat.lt_or_ge b.length a.length with h1 | h1
  · exfalso
    cases a with
    | nil => simp at h1
    | cons y v =>
      have h2 := wt_ge y v
      have h3 := wt_lt b
      have h4 : 257 ^ b.length ≤ 257 ^ v.length := Nat.pow_le_pow_right (by omega) (by simp at h1; omega)
      omega
  · exact h1
theorem wt_ctx {a b : Wd} (x y : Wd) (h : wt a < wt b) : wt (x ++ (a ++ y)) < wt (x ++ (b ++ y)) := by
  have hl := wt_len h
  rw [wt_app x (a ++ y), wt_app x (b ++ y), wt_app a y, wt_app b y, List.length_append, List.length_append, Nat.pow_add, Nat.pow_add]
  have h2 : 257 ^ a.length ≤ 257 ^ b.length := Nat.pow_le_pow_right (by omega) hl
  have h3 : wt x * (257 ^ a.length * 257 ^ y.length) ≤ wt x * (257 ^ b.length * 257 ^ y.length) := Nat.mul_le_mul_left _ (Nat.mul_le_mul_right _ h2)
  have h4 : (wt a + 1) * 257 ^ y.length ≤ wt b * 257 ^ y.length := Nat.mul_le_mul_right _ h
  have h5 : 1 ≤ 257 ^ y.length := Nat.one_le_pow _ _ (by omega)
  rw [Nat.add_mul, Nat.one_mul] at h4
  omega
theorem wt_lex : ∀ {u v : Wd}, u.length = v.length → u < v → wt u < wt v
  | [], [], _, h => absurd h (List.lt_irrefl _)
  | [], _ :: _, h, _ => by simp at h
  | _ :: _, [], h, _ => by simp at h
  | a :: u, b :: v, hl, h => by
    have hl2 : u.length = v.length := by simpa using hl
    rw [wt_cons, wt_cons, hl2]
    rcases List.cons_lt_cons_iff.1 h with h1 | ⟨rfl, h1⟩
    · have h2 := UInt8.lt_iff_toNat_lt.1 h1
      have h3 := wt_lt u
      rw [hl2] at h3
      have h4 : (a.toNat + 1 + 1) * 257 ^ v.length ≤ (b.toNat + 1) * 257 ^ v.length := Nat.mul_le_mul_right _ (by omega)
      rw [Nat.add_mul] at h4
      omega
    · have := wt_lex hl2 h1
      omega
theorem wt_short {u v : Wd} (h : u.length < v.length) : wt u < wt v := by
  cases v with
  | nil => simp at h
  | cons y v =>
    have h1 := wt_lt u
    have h2 := wt_ge y v
    have h3 : 257 ^ u.length ≤ 257 ^ v.length := Nat.pow_le_pow_right (by omega) (by simp at h; omega)
    omega
/-- rules: which left side has which right side -/
abbrev Rs := Wd → Wd → Prop
/-- one step -/
def Stp (E : Rs) (u v : Wd) : Prop := ∃ x l r y, E l r ∧ u = x ++ (l ++ y) ∧ v = x ++ (r ++ y)
theorem Stp.ctx {E : Rs} {u v : Wd} (x y : Wd) (h : Stp E u v) : Stp E (x ++ (u ++ y)) (x ++ (v ++ y)) := by
  obtain ⟨a, l, r, b, h1, rfl, rfl⟩ := h
  exact ⟨x ++ a, l, r, b ++ y, h1, by simp [List.append_assoc], by simp [List.append_assoc]⟩
theorem Stp.mono {E F : Rs} (h : ∀ l r, E l r → F l r) {u v : Wd} (s : Stp E u v) : Stp F u v := by
  obtain ⟨a, l, r, b, h1, h2, h3⟩ := s
  exact ⟨a, l, r, b, h _ _ h1, h2, h3⟩
theorem Stp.rule {E : Rs} {l r : Wd} (h : E l r) : Stp E l r := ⟨[], l, r, [], h, by simp, by simp⟩
/-- each rule makes a word less -/
def Dwn (E : Rs) : Prop := ∀ l r, E l r → wt r < wt l
theorem Dwn.stp {E : Rs} (h : Dwn E) {u v : Wd} (s : Stp E u v) : wt v < wt u := by
  obtain ⟨x, l, r, y, h1, rfl, rfl⟩ := s
  exact wt_ctx x y (h _ _ h1)
/-- many steps -/
inductive Red (E : Rs) : Wd → Wd → Prop
  | refl (u : Wd) : Red E u u
  | step {u v x : Wd} : Stp E u v → Red E v x → Red E u x
theorem Red.trans {E : Rs} {u v x : Wd} (a : Red E u v) (b : Red E v x) : Red E u x := by
  induction a with
  | refl => exact b
  | step s _ ih => exact .step s (ih b)
theorem Red.one {E : Rs} {u v : Wd} (s : Stp E u v) : Red E u v := .step s (.refl _)
theorem Red.ctx {E : Rs} {u v : Wd} (x y : Wd) (h : Red E u v) : Red E (x ++ (u ++ y)) (x ++ (v ++ y)) := by
  induction h with
  | refl => exact .refl _
  | step s _ ih => exact .step (s.ctx x y) ih
theorem Red.le {E : Rs} (hd : Dwn E) {u v : Wd} (h : Red E u v) : wt v ≤ wt u := by
  induction h with
  | refl => exact Nat.le_refl _
  | step s _ ih => have := hd.stp s; omega
theorem Red.mono {E F : Rs} (h : ∀ l r, E l r → F l r) {u v : Wd} (s : Red E u v) : Red F u v := by
  induction s with
  | refl => exact .refl _
  | step s _ ih => exact .step (s.mono h) ih
/-- no step can be made -/
def Irr (E : Rs) (u : Wd) : Prop := ∀ v, ¬ Stp E u v
/-- connected by steps, forth and back, all words below a number -/
inductive Conn (E : Rs) (n : Nat) : Wd → Wd → Prop
  | refl (u : Wd) : Conn E n u u
  | fwd {u v x : Wd} : wt u < n → wt v < n → Stp E u v → Conn E n v x → Conn E n u x
  | bwd {u v x : Wd} : wt u < n → wt v < n → Stp E v u → Conn E n v x → Conn E n u x
theorem Conn.trans {E : Rs} {n : Nat} {u v x : Wd} (a : Conn E n u v) (b : Conn E n v x) : Conn E n u x := by
  induction a with
  | refl => exact b
  | fwd h1 h2 s _ ih => exact .fwd h1 h2 s (ih b)
  | bwd h1 h2 s _ ih => exact .bwd h1 h2 s (ih b)
theorem Conn.symm {E : Rs} {n : Nat} {u v : Wd} (a : Conn E n u v) : Conn E n v u := by
  induction a with
  | refl => exact .refl _
  | fwd h1 h2 s _ ih => exact ih.trans (.bwd h2 h1 s (.refl _))
  | bwd h1 h2 s _ ih => exact ih.trans (.fwd h2 h1 s (.refl _))
theorem Conn.mono {E : Rs} {n k : Nat} (h : n ≤ k) {u v : Wd} (a : Conn E n u v) : Conn E k u v := by
  induction a with
  | refl => exact .refl _
  | fwd h1 h2 s _ ih => exact .fwd (by omega) (by omega) s ih
  | bwd h1 h2 s _ ih => exact .bwd (by omega) (by omega) s ih
theorem Conn.ctx {E : Rs} {w u v : Wd} (x y : Wd) (a : Conn E (wt w) u v) : Conn E (wt (x ++ (w ++ y))) (x ++ (u ++ y)) (x ++ (v ++ y)) := by
  induction a with
  | refl => exact .refl _
  | fwd h1 h2 s _ ih => exact .fwd (wt_ctx x y h1) (wt_ctx x y h2) (s.ctx x y) ih
  | bwd h1 h2 s _ ih => exact .bwd (wt_ctx x y h1) (wt_ctx x y h2) (s.ctx x y) ih
theorem Conn.red {E : Rs} (hd : Dwn E) {n : Nat} {u v : Wd} (h : Red E u v) (hu : wt u < n) : Conn E n u v := by
  induction h with
  | refl => exact .refl _
  | step s _ ih => have := hd.stp s; exact .fwd hu (by omega) s (ih (by omega))
/-- what simulates the steps of E simulates what is connected by them -/
theorem Conn.sim {E F : Rs} {n : Nat} (h : ∀ u v, Stp E u v → wt u < n → wt v < n → Conn F n u v) {u v : Wd} (a : Conn E n u v) : Conn F n u v := by
  induction a with
  | refl => exact .refl _
  | fwd h1 h2 s _ ih => exact (h _ _ s h1 h2).trans ih
  | bwd h1 h2 s _ ih => exact (h _ _ s h2 h1).symm.trans ih
/-- the critical pairs of S are connected in E below their words -/
structure Crit (S E : Rs) : Prop where
  inn : ∀ l1 r1 l2 r2 x y, S l1 r1 → S l2 r2 → l1 = x ++ (l2 ++ y) → Conn E (wt l1) r1 (x ++ (r2 ++ y))
  acr : ∀ l1 r1 l2 r2 x t y, S l1 r1 → S l2 r2 → l1 = x ++ t → l2 = t ++ y → t ≠ [] → x ≠ [] → y ≠ [] → Conn E (wt (x ++ (t ++ y))) (r1 ++ y) (x ++ r2)
/-- two words that are one: the first of two parts lies in front -/
theorem split_two {p1 q1 p2 q2 : Wd} (h : p1 ++ q1 = p2 ++ q2) (hl : p1.length ≤ p2.length) : ∃ t, p2 = p1 ++ t ∧ q1 = t ++ q2 := by
  obtain ⟨t, ht⟩ : p1 <+: p2 := List.prefix_of_prefix_length_le (List.prefix_append p1 q1) (h ▸ List.prefix_append p2 q2) hl
  refine ⟨t, ht.symm, ?_⟩
  rw [← ht, List.append_assoc] at h
  exact List.append_cancel_left h
/-- two steps from one word, the first one's place in front -/
theorem local_le {S : Rs} (hd : Dwn S) (hc : Crit S S) {p1 l1 r1 q1 p2 l2 r2 q2 : Wd} (h1 : S l1 r1) (h2 : S l2 r2) (h : p1 ++ (l1 ++ q1) = p2 ++ (l2 ++ q2)) (hl : p1.length ≤ p2.length) :
    Conn S (wt (p1 ++ (l1 ++ q1))) (p1 ++ (r1 ++ q1)) (p2 ++ (r2 ++ q2)) := by
  obtain ⟨t, rfl, h3⟩ := split_two h hl
  -- l1 ++ q1 = t ++ (l2 ++ q2)
  rcases Nat.lt_or_ge t.length l1.length with hlt | hge
  · obtain ⟨s, rfl, h5⟩ := split_two h3.symm (Nat.le_of_lt hlt)
    -- l1 = t ++ s, l2 ++ q2 = s ++ q1
    have hs : s ≠ [] := by rintro rfl; simp at hlt
    rcases Nat.lt_or_ge s.length l2.length with hlt2 | hge2
    · obtain ⟨y, rfl, rfl⟩ := split_two h5.symm (Nat.le_of_lt hlt2)
      have hy : y ≠ [] := by rintro rfl; simp at hlt2
      by_cases ht : t = []
      · subst ht
        have h6 := hc.inn _ _ _ _ [] y h2 h1 (by simp)
        have h7 := (h6.ctx p1 q2).symm
        simpa [List.append_assoc] using h7
      · have h6 := hc.acr _ _ _ _ t s y h1 h2 rfl rfl hs ht hy
        have h7 := h6.ctx p1 q2
        simpa [List.append_assoc] using h7
    · obtain ⟨y, rfl, rfl⟩ := split_two h5 hge2
      have h6 := hc.inn _ _ _ _ t y h1 h2 rfl
      have h7 := h6.ctx p1 q1
      simpa [List.append_assoc] using h7
  · obtain ⟨s, rfl, rfl⟩ := split_two h3 hge
    -- t = l1 ++ s, q1 = s ++ (l2 ++ q2)
    have s1 : Stp S (p1 ++ (r1 ++ (s ++ (l2 ++ q2)))) (p1 ++ (r1 ++ (s ++ (r2 ++ q2)))) := ⟨p1 ++ (r1 ++ s), l2, r2, q2, h2, by simp [List.append_assoc], by simp [List.append_assoc]⟩
    have s2 : Stp S (p1 ++ (l1 ++ (s ++ (r2 ++ q2)))) (p1 ++ (r1 ++ (s ++ (r2 ++ q2)))) := ⟨p1, l1, r1, _, h1, rfl, rfl⟩
    have s3 : Stp S (p1 ++ (l1 ++ (s ++ (l2 ++ q2)))) (p1 ++ (r1 ++ (s ++ (l2 ++ q2)))) := ⟨p1, l1, r1, _, h1, rfl, rfl⟩
    have s4 : Stp S (p1 ++ (l1 ++ (s ++ (l2 ++ q2)))) (p1 ++ (l1 ++ (s ++ (r2 ++ q2)))) := ⟨p1 ++ (l1 ++ s), l2, r2, q2, h2, by simp [List.append_assoc], by simp [List.append_assoc]⟩
    have d1 := hd.stp s1
    have d3 := hd.stp s3
    have d4 := hd.stp s4
    have h7 : Conn S (wt (p1 ++ (l1 ++ (s ++ (l2 ++ q2))))) (p1 ++ (r1 ++ (s ++ (l2 ++ q2)))) (p1 ++ (l1 ++ (s ++ (r2 ++ q2)))) := .fwd d3 (by omega) s1 (.bwd (by omega) d4 s2 (.refl _))
    simpa [List.append_assoc] using h7
/-- two steps from one word -/
theorem local_all {S : Rs} (hd : Dwn S) (hc : Crit S S) {w a b : Wd} (s1 : Stp S w a) (s2 : Stp S w b) : Conn S (wt w) a b := by
  obtain ⟨p1, l1, r1, q1, h1, rfl, rfl⟩ := s1
  obtain ⟨p2, l2, r2, q2, h2, h, rfl⟩ := s2
  rcases Nat.le_total p1.length p2.length with hl | hl
  · exact local_le hd hc h1 h2 h hl
  · rw [h]
    exact (local_le hd hc h2 h1 h.symm hl).symm
/-- a normal form -/
def Nf (S : Rs) (u x : Wd) : Prop := Red S u x ∧ Irr S x
theorem Nf.ex {S : Rs} (hd : Dwn S) : ∀ (n : Nat) (u : Wd), wt u < n → ∃ x, Nf S u x
  | 0, u, h => by omega
  | n + 1, u, h => by
    by_cases hi : Irr S u
    · exact ⟨u, .refl _, hi⟩
    · obtain ⟨v, hv⟩ : ∃ v, Stp S u v := Classical.byContradiction fun hn => hi fun v hv => hn ⟨v, hv⟩
      have := hd.stp hv
      obtain ⟨x, h1, h2⟩ := Nf.ex hd n v (by omega)
      exact ⟨x, .step hv h1, h2⟩
theorem Nf.conn {S : Rs} (hd : Dwn S) {n : Nat} (hu : ∀ u, wt u < n → ∀ x y, Nf S u x → Nf S u y → x = y) {u v : Wd} (h : Conn S n u v) : ∀ x, Nf S u x → Nf S v x := by
  induction h with
  | refl => intro x hx; exact hx
  | @fwd u v z h1 h2 s _ ih =>
    intro x hx
    obtain ⟨y, hy⟩ := Nf.ex hd _ v (Nat.lt_succ_self _)
    obtain rfl := hu u h1 x y hx ⟨.step s hy.1, hy.2⟩
    exact ih _ hy
  | @bwd u v z h1 h2 s _ ih =>
    intro x hx
    exact ih _ ⟨.step s hx.1, hx.2⟩
theorem Nf.uniq {S : Rs} (hd : Dwn S) (hc : Crit S S) : ∀ (n : Nat) (u : Wd), wt u < n → ∀ x y, Nf S u x → Nf S u y → x = y
  | 0, u, h => by omega
  | n + 1, u, h => by
    rintro x y ⟨h1, h2⟩ ⟨h3, h4⟩
    cases h1 with
    | refl =>
      cases h3 with
      | refl => rfl
      | step s _ => exact absurd s (h2 _)
    | @step _ a _ s1 r1 =>
      cases h3 with
      | refl => exact absurd s1 (h4 _)
      | @step _ b _ s2 r2 =>
        have c := local_all hd hc s1 s2
        have d2 := hd.stp s2
        have IH := Nf.uniq hd hc n
        have h5 := Nf.conn hd (fun v hv => IH v (by omega)) c x ⟨r1, h2⟩
        exact IH b (by omega) x y h5 ⟨r2, h4⟩
/-- words that are connected have one normal form -/
theorem conf_conn {S : Rs} (hd : Dwn S) (hc : Crit S S) {n : Nat} {u v : Wd} (h : Conn S n u v) {x y : Wd} (hx : Nf S u x) (hy : Nf S v y) : x = y :=
  Nf.uniq hd hc _ v (Nat.lt_succ_self _) x y (Nf.conn hd (fun w _ => Nf.uniq hd hc _ w (Nat.lt_succ_self _)) h x hx) hy
/-- a word and what it is reduced to have one normal form -/
theorem conf_red {S : Rs} (hd : Dwn S) (hc : Crit S S) {u v : Wd} (h : Red S u v) {x y : Wd} (hx : Nf S u x) (hy : Nf S v y) : x = y :=
  Nf.uniq hd hc _ u (Nat.lt_succ_self _) x y hx ⟨h.trans hy.1, hy.2⟩
end Go.Proofs.YtgoeadgpbidgiaaGreat
namespace Go.Proofs.YtgoeadgpbidgiaaGreat
open Go.RowKit
set_option linter.unusedVariables false
/-- the rules of a system, as sides -/
def SR (R : List RulD) : Rs := fun l r => ∃ p ∈ R, p.1.data.toList = l ∧ p.2.data.toList = r
theorem lessS_wt {a b : ByteArray} (h : lessS a b = true) : wt a.data.toList < wt b.data.toList := by
  unfold lessS ltW blW at h
  rcases of_decide_eq_true h with h | ⟨h1, h2⟩
  · exact wt_short h
  · exact wt_lex h1 h2
theorem sys_dwn {k : Int} {R : List RulD} (hs : sysP k R) : Dwn (SR R) := by
  rintro _ _ ⟨p, hp, rfl, rfl⟩
  exact lessS_wt (hs.2 p hp)
theorem ba_lists {a b : ByteArray} (h : a.data.toList = b.data.toList) : a = b := by
  cases a; cases b
  simp only [ByteArray.mk.injEq] at h ⊢
  exact Array.ext' h
theorem step_stp {R : List RulD} {w : ByteArray} {s : Nat × Nat} (hm : s ∈ stepsF R w) : Stp (SR R) w.data.toList (applyF R w s).data.toList := by
  obtain ⟨h1, h2, h3⟩ := mem_stepsF.1 hm
  refine ⟨w.data.toList.take s.2, _, _, w.data.toList.drop (s.2 + (nthR R s.1).1.size), ⟨nthR R s.1, nthR_mem h2, rfl, rfl⟩, split_at h3, ?_⟩
  unfold applyF
  rw [replF_list]
/-- the word behind a step at a place that is told by what stands ahead of it -/
theorem apply_at {R : List RulD} {w : ByteArray} {i : Nat} {x y : List UInt8} (h : w.data.toList = x ++ ((nthR R i).1.data.toList ++ y)) :
    preAt w x.length (nthR R i).1 = true ∧ (applyF R w (i, x.length)).data.toList = x ++ ((nthR R i).2.data.toList ++ y) := by
  have e1 : (nthR R i).1.data.toList.length = (nthR R i).1.size := rfl
  constructor
  · unfold preAt
    rw [h, List.drop_left, List.isPrefixOf_iff_prefix]
    exact List.prefix_append _ _
  · unfold applyF
    rw [replF_list]
    show w.data.toList.take x.length ++ ((nthR R i).2.data.toList ++ w.data.toList.drop (x.length + (nthR R i).1.size)) = _
    rw [h, List.take_left, ← e1, ← List.drop_drop, List.drop_left, List.drop_left]
theorem stp_step {R : List RulD} (hne : ∀ r ∈ R, r.1.size ≠ 0) {w : ByteArray} {v : List UInt8} (h : Stp (SR R) w.data.toList v) : ∃ s ∈ stepsF R w, (applyF R w s).data.toList = v := by
  obtain ⟨x, _, _, y, ⟨p, hp, rfl, rfl⟩, h1, rfl⟩ := h
  obtain ⟨i, hi, rfl⟩ := mem_nthR hp
  obtain ⟨h2, h3⟩ := apply_at h1
  have e1 : (nthR R i).1.data.toList.length = (nthR R i).1.size := rfl
  have e2 : w.data.toList.length = w.size := rfl
  have h4 := hne _ hp
  rw [h1] at e2
  simp only [List.length_append] at e2
  exact ⟨(i, x.length), mem_stepsF.2 ⟨by show x.length < _; omega, hi, h2⟩, h3⟩
theorem sys_ne {k : Int} {R : List RulD} (hs : rulesP k R) : ∀ r ∈ R, r.1.size ≠ 0 := fun r hr => (hs.2 r hr).2
theorem norm_nf {R : List RulD} (hne : ∀ r ∈ R, r.1.size ≠ 0) {w x : ByteArray} (h : NormIs R w x) : Nf (SR R) w.data.toList x.data.toList := by
  induction h with
  | done h =>
    refine ⟨.refl _, fun v hv => ?_⟩
    obtain ⟨s, hs, _⟩ := stp_step hne hv
    rw [List.head?_eq_none_iff] at h
    rw [h] at hs
    cases hs
  | step h _ ih => exact ⟨.step (step_stp (head_mem h)) ih.1, ih.2⟩
/-- the pairs of a system are connected -/
def PairConn (R : List RulD) (E : Rs) (p : PairD) : Prop := Conn E (wt p.1.data.toList) (leftP R p).data.toList (rightP R p).data.toList
theorem mem_pairs {R : List RulD} {i j : Nat} (hi : i < R.length) (hj : j < R.length) {p : PairD} (h : p ∈ inF R i j ∨ p ∈ acF R i j) : p ∈ pairsF R := by
  unfold pairsF pairAt
  simp only [List.mem_flatMap, List.mem_range]
  exact ⟨i, hi, j, hj, List.mem_append.2 h⟩
/-- one rule inside of another one: the pair, and its sides -/
theorem pair_in {R : List RulD} {i j : Nat} (hij : i ≠ j) (hj : (nthR R j).1.size ≠ 0) {x y : List UInt8} (h : (nthR R i).1.data.toList = x ++ ((nthR R j).1.data.toList ++ y)) :
    inP R i j x.length ∈ inF R i j ∧ (leftP R (inP R i j x.length)).data.toList = (nthR R i).2.data.toList ∧ (rightP R (inP R i j x.length)).data.toList = x ++ ((nthR R j).2.data.toList ++ y) := by
  obtain ⟨h2, h3⟩ := apply_at h
  have e1 : (nthR R j).1.data.toList.length = (nthR R j).1.size := rfl
  have e2 : (nthR R i).1.data.toList.length = (nthR R i).1.size := rfl
  rw [h] at e2
  simp only [List.length_append] at e2
  refine ⟨?_, ?_, h3⟩
  · unfold inF
    rw [if_neg hij]
    exact List.mem_map.2 ⟨_, mem_places.2 ⟨by omega, h2⟩, rfl⟩
  · have h4 := (apply_at (R := R) (w := (nthR R i).1) (i := i) (x := []) (y := []) (by simp)).2
    simp only [List.nil_append, List.append_nil, List.length_nil] at h4
    exact h4
theorem pair_ac {R : List RulD} {i j : Nat} {x t y : List UInt8} (h1 : (nthR R i).1.data.toList = x ++ t) (h2 : (nthR R j).1.data.toList = t ++ y) (ht : t ≠ []) (hx : x ≠ []) (hy : y ≠ []) :
    acP R i j t.length ∈ acF R i j ∧ (acP R i j t.length).1.data.toList = x ++ (t ++ y) ∧ (leftP R (acP R i j t.length)).data.toList = (nthR R i).2.data.toList ++ y ∧ (rightP R (acP R i j t.length)).data.toList = x ++ (nthR R j).2.data.toList := by
  have e1 : (nthR R i).1.data.toList.length = (nthR R i).1.size := rfl
  have e2 : (nthR R j).1.data.toList.length = (nthR R j).1.size := rfl
  have f1 := e1
  have f2 := e2
  rw [h1] at f1
  rw [h2] at f2
  simp only [List.length_append] at f1 f2
  have lx : 0 < x.length := List.length_pos_iff.2 hx
  have lt : 0 < t.length := List.length_pos_iff.2 ht
  have ly : 0 < y.length := List.length_pos_iff.2 hy
  have ew : (acP R i j t.length).1.data.toList = x ++ (t ++ y) := by
    show ((nthR R i).1 ++ (nthR R j).1.extract t.length (nthR R j).1.size).data.toList = _
    rw [ByteArray.data_append, Array.toList_append, extract_lt, List.take_of_length_le (Nat.le_of_eq e2), h1, h2, List.drop_left, List.append_assoc]
  have ep : (acP R i j t.length).2.2.2 = x.length := by show (nthR R i).1.size - t.length = _; omega
  refine ⟨?_, ew, ?_, ?_⟩
  · unfold acF
    refine List.mem_map.2 ⟨_, mem_over.2 ⟨⟨by omega, by omega⟩, lt, ?_⟩, rfl⟩
    unfold ovAt
    rw [beq_iff_eq, h1, h2, show (nthR R i).1.size - t.length = x.length by omega, List.drop_left, List.take_left]
  · have h4 := (apply_at (R := R) (w := (acP R i j t.length).1) (i := i) (x := []) (y := y) (by rw [ew, h1]; simp)).2
    simp only [List.nil_append, List.length_nil] at h4
    exact h4
  · have h4 := (apply_at (R := R) (w := (acP R i j t.length).1) (i := j) (x := x) (y := []) (by rw [ew, h2]; simp)).2
    unfold rightP
    rw [ep]
    simp only [List.append_nil] at h4
    exact h4
/-- pairs that are connected make the rules critical ones -/
theorem crit_of_pairs {R : List RulD} (hne : ∀ r ∈ R, r.1.size ≠ 0) {E : Rs} (h : ∀ p ∈ pairsF R, PairConn R E p) : Crit (SR R) E := by
  refine ⟨?_, ?_⟩
  · rintro _ _ _ _ x y ⟨p1, hp1, rfl, rfl⟩ ⟨p2, hp2, rfl, rfl⟩ e
    obtain ⟨i, hi, rfl⟩ := mem_nthR hp1
    obtain ⟨j, hj, rfl⟩ := mem_nthR hp2
    by_cases hij : i = j
    · subst hij
      have := congrArg List.length e
      simp only [List.length_append] at this
      have hx : x = [] := List.eq_nil_of_length_eq_zero (by omega)
      have hy : y = [] := List.eq_nil_of_length_eq_zero (by omega)
      subst hx hy
      simpa using Conn.refl _
    · obtain ⟨h1, h2, h3⟩ := pair_in hij (hne _ hp2) e
      have h4 := h _ (mem_pairs hi hj (.inl h1))
      unfold PairConn at h4
      rw [h2, h3] at h4
      exact h4
  · rintro _ _ _ _ x t y ⟨p1, hp1, rfl, rfl⟩ ⟨p2, hp2, rfl, rfl⟩ e1 e2 ht hx hy
    obtain ⟨i, hi, rfl⟩ := mem_nthR hp1
    obtain ⟨j, hj, rfl⟩ := mem_nthR hp2
    obtain ⟨h1, h2, h3, h4⟩ := pair_ac e1 e2 ht hx hy
    have h5 := h _ (mem_pairs hi hj (.inr h1))
    unfold PairConn at h5
    rw [h2, h3, h4] at h5
    exact h5
theorem open_nil {R : List RulD} (h : openF R = []) {p : PairD} (hp : p ∈ pairsF R) : Joined R p := by
  refine Classical.byContradiction fun hn => ?_
  unfold openF openL at h
  rw [List.filter_eq_nil_iff] at h
  have := h p hp
  simp [hn] at this
theorem joined_conn {k : Int} {R : List RulD} (hs : sysP k R) {p : PairD} (hp : p ∈ pairsF R) (hj : Joined R p) : PairConn R (SR R) p := by
  obtain ⟨x, h1, h2⟩ := hj
  have hok := pairOk hs hp
  have hd := sys_dwn hs
  have n1 := norm_nf (sys_ne hs.1) h1
  have n2 := norm_nf (sys_ne hs.1) h2
  exact (Conn.red hd n1.1 (hd.stp (step_stp hok.one))).trans (Conn.red hd n2.1 (hd.stp (step_stp hok.two))).symm
theorem comp_crit {k : Int} {R : List RulD} (h : ComplP k R) : Crit (SR R) (SR R) :=
  crit_of_pairs (sys_ne h.1.1) fun p hp => joined_conn h.1 hp (open_nil h.2 hp)
/-- in a complete system, all that a word is reduced to has its normal form -/
theorem comp_red {k : Int} {R : List RulD} (h : ComplP k R) {u v x y : ByteArray} (hr : Red (SR R) u.data.toList v.data.toList) (hx : NormIs R u x) (hy : NormIs R v y) : x = y :=
  ba_lists (conf_red (sys_dwn h.1) (comp_crit h) hr (norm_nf (sys_ne h.1.1) hx) (norm_nf (sys_ne h.1.1) hy))
/-- critical pairs that are connected by the rules are joined: the system is complete -/
theorem comp_of_crit {k : Int} {R : List RulD} (hs : sysP k R) (hc : Crit (SR R) (SR R)) : ComplP k R := by
  refine ⟨hs, ?_⟩
  unfold openF openL
  rw [List.filter_eq_nil_iff]
  intro p hp
  have hok := pairOk hs hp
  have hd := sys_dwn hs
  obtain ⟨x, hx, _⟩ := NormIs.ex hs _ _ (Nat.lt_succ_self _) (step_word hs hok.word hok.one)
  obtain ⟨y, hy, _⟩ := NormIs.ex hs _ _ (Nat.lt_succ_self _) (step_word hs hok.word hok.two)
  have c := local_all hd hc (step_stp hok.one) (step_stp hok.two)
  have e := ba_lists (conf_conn hd hc c (norm_nf (sys_ne hs.1) hx) (norm_nf (sys_ne hs.1) hy))
  subst e
  have : Joined R p := ⟨x, hx, hy⟩
  simp [this]
end Go.Proofs.YtgoeadgpbidgiaaGreat
namespace Go.Proofs.YtgoeadgpbidgiaaGreat
open Go.RowKit
set_option linter.unusedVariables false
theorem irr_iff {R : List RulD} {v : List UInt8} : Irr (SR R) v ↔ ∀ p ∈ R, ∀ x y, v ≠ x ++ (p.1.data.toList ++ y) := by
  constructor
  · intro h p hp x y e
    exact h _ ⟨x, _, _, y, ⟨p, hp, rfl, rfl⟩, e, rfl⟩
  · rintro h u ⟨x, _, _, y, ⟨p, hp, rfl, rfl⟩, e, rfl⟩
    exact h p hp x y e
theorem irr_pre {R : List RulD} {u t : List UInt8} (h : Irr (SR R) (u ++ t)) : Irr (SR R) u := by
  rw [irr_iff] at *
  intro p hp x y e
  exact h p hp x (y ++ t) (by rw [e]; simp [List.append_assoc])
theorem okX_irr {R : List RulD} {w : ByteArray} {x : Nat} (h : Irr (SR R) (w ++ letterN x).data.toList) : okX R w x = true := by
  unfold okX
  rw [Bool.not_eq_true', Bool.eq_false_iff]
  intro he
  obtain ⟨r, hr, hs⟩ := endsR_iff.1 he
  unfold sufBB at hs
  obtain ⟨t, ht⟩ := List.isSuffixOf_iff_suffix.1 hs
  rw [irr_iff] at h
  exact h r hr t [] (by rw [List.append_nil]; exact ht.symm)
theorem irr_snoc {R : List RulD} (hne : ∀ r ∈ R, r.1.size ≠ 0) {w : ByteArray} {x : Nat} (h : Irr (SR R) w.data.toList) (hx : okX R w x = true) : Irr (SR R) (w ++ letterN x).data.toList := by
  rw [irr_iff] at *
  intro p hp a b e
  rw [app_lt] at e
  rcases List.eq_nil_or_concat b with rfl | ⟨b', y, rfl⟩
  · unfold okX at hx
    rw [Bool.not_eq_true', Bool.eq_false_iff] at hx
    refine hx (endsR_iff.2 ⟨p, hp, ?_⟩)
    unfold sufBB
    rw [List.isSuffixOf_iff_suffix, app_lt]
    exact ⟨a, by rw [e]; simp⟩
  · rw [List.concat_eq_append] at e
    have e2 : w.data.toList ++ [lt97 x] = (a ++ (p.1.data.toList ++ b')) ++ [y] := by rw [e]; simp [List.append_assoc]
    obtain ⟨h1, _⟩ := List.append_inj' e2 rfl
    exact h p hp a b' h1
theorem irr_wordsF {R : List RulD} {k : Nat} : ∀ (t : List UInt8) (w u : ByteArray), (∀ y ∈ t, ∃ x, x < k ∧ y = lt97 x) → u.data.toList = w.data.toList ++ t → Irr (SR R) u.data.toList → u ∈ wordsF R k t.length w
  | [], w, u, _, e, _ => by
    have : u = w := ba_ext0 (by rw [e]; simp)
    rw [this]; exact List.mem_singleton.2 rfl
  | y :: t, w, u, hy, e, h => by
    obtain ⟨x, hx, rfl⟩ := hy y List.mem_cons_self
    have h1 : Irr (SR R) (w ++ letterN x).data.toList := by
      rw [app_lt]
      exact irr_pre (t := t) (by rw [List.append_assoc]; simpa [e] using h)
    refine List.mem_flatMap.2 ⟨x, List.mem_range.2 hx, ?_⟩
    rw [if_pos (okX_irr h1)]
    exact irr_wordsF t (w ++ letterN x) u (fun z hz => hy z (List.mem_cons_of_mem _ hz)) (by rw [e, app_lt, List.append_assoc]; rfl) h
theorem let_lt97 {k : Nat} {v : List UInt8} (h : okLt (k : Int) v) : ∀ y ∈ v, ∃ x, x < k ∧ y = lt97 x := fun y hy => by
  have h1 := letB_true (h y hy)
  refine ⟨y.toNat - 97, by omega, ?_⟩
  apply UInt8.toNat_inj.1
  have h2 := y.toNat_lt
  unfold lt97
  simp
  omega
theorem nodup_nth {L : List ByteArray} (h : L.Nodup) {p q : Nat} (hp : p < L.length) (hq : q < L.length) (e : nthS L p = nthS L q) : p = q := by
  rw [nthS_lt hp, nthS_lt hq] at e
  have h1 := List.pairwise_iff_getElem.1 h
  rcases Nat.lt_trichotomy p q with h2 | h2 | h2
  · exact absurd e (h1 p q hp hq h2)
  · exact h2
  · exact absurd e.symm (h1 q p hq hp h2)
/-- what is known of the words of a complete system and of their table -/
structure MonG (k : Int) (R : List RulD) (L : List ByteArray) (ln : List Nat) : Prop where
  few : L.length ≤ 40
  pos : 0 < L.length
  nd : L.Nodup
  head : nthS L 0 = ⟨#[]⟩
  word : ∀ u ∈ L, wordOkB k u = true ∧ u.size ≤ 8
  mem : ∀ u : ByteArray, u ∈ L ↔ okLt k u.data.toList ∧ Irr (SR R) u.data.toList
  len : ln.length = L.length * L.length
  prod : ∀ i j, i < L.length → j < L.length → tm L.length ln i j < L.length ∧ NormIs R (nthS L i ++ nthS L j) (nthS L (tm L.length ln i j))
theorem nth_mem {L : List ByteArray} {i : Nat} (h : i < L.length) : nthS L i ∈ L := by rw [nthS_lt h]; exact List.getElem_mem h
theorem MonG.tab {k : Int} {R : List RulD} {L : List ByteArray} {ln : List Nat} (h : MonG k R L ln) (hc : ComplP k R) : TabOk L.length ln := by
  have hne := sys_ne hc.1.1
  have hd := sys_dwn hc.1
  have hcr := comp_crit hc
  have hnf : ∀ {u x : ByteArray}, NormIs R u x → Nf (SR R) u.data.toList x.data.toList := fun hx => norm_nf hne hx
  have hirr : ∀ i, i < L.length → Irr (SR R) (nthS L i).data.toList := fun i hi => ((h.mem _).1 (nth_mem hi)).2
  have eq_of : ∀ {p q : Nat} {u : List UInt8}, p < L.length → q < L.length → Nf (SR R) u (nthS L p).data.toList → Nf (SR R) u (nthS L q).data.toList → p = q := fun {p q u} hp hq a b =>
    nodup_nth h.nd hp hq (ba_lists (Nf.uniq hd hcr _ u (Nat.lt_succ_self _) _ _ a b))
  refine ⟨⟨h.pos, h.few, h.len, ?_⟩, ?_, ?_, ?_⟩
  · intro x hx
    obtain ⟨i, hi, rfl⟩ := List.getElem_of_mem hx
    rw [h.len] at hi
    have hm := h.pos
    have h1 : i / L.length < L.length := Nat.div_lt_of_lt_mul hi
    have h2 : i % L.length < L.length := Nat.mod_lt _ hm
    have h3 := (h.prod _ _ h1 h2).1
    have e : i / L.length * L.length + i % L.length = i := by rw [Nat.mul_comm]; exact Nat.div_add_mod i L.length
    unfold tm at h3
    rw [e, List.getD_eq_getElem?_getD, List.getElem?_eq_getElem (by rw [h.len]; exact hi)] at h3
    exact h3
  · intro i hi
    obtain ⟨h1, h2⟩ := h.prod 0 i h.pos hi
    have h3 := hnf h2
    rw [h.head, ByteArray.data_append, Array.toList_append] at h3
    refine eq_of h1 hi h3 ?_
    have e : (⟨#[]⟩ : ByteArray).data.toList ++ (nthS L i).data.toList = (nthS L i).data.toList := rfl
    rw [e]
    exact ⟨.refl _, hirr i hi⟩
  · intro i hi
    obtain ⟨h1, h2⟩ := h.prod i 0 hi h.pos
    have h3 := hnf h2
    rw [h.head, ByteArray.data_append, Array.toList_append] at h3
    refine eq_of h1 hi h3 ?_
    have e : (nthS L i).data.toList ++ (⟨#[]⟩ : ByteArray).data.toList = (nthS L i).data.toList := List.append_nil _
    rw [e]
    exact ⟨.refl _, hirr i hi⟩
  · intro i j l hi hj hl
    obtain ⟨a1, a2⟩ := h.prod i j hi hj
    obtain ⟨b1, b2⟩ := h.prod j l hj hl
    obtain ⟨c1, c2⟩ := h.prod _ l a1 hl
    obtain ⟨d1, d2⟩ := h.prod i _ hi b1
    have A := hnf a2
    have B := hnf b2
    have C := hnf c2
    have D := hnf d2
    rw [ByteArray.data_append, Array.toList_append] at A B C D
    refine eq_of (u := (nthS L i).data.toList ++ ((nthS L j).data.toList ++ (nthS L l).data.toList)) c1 d1 ⟨?_, C.2⟩ ⟨?_, D.2⟩
    · have h1 := A.1.ctx [] (nthS L l).data.toList
      simp only [List.nil_append] at h1
      rw [← List.append_assoc]
      exact h1.trans C.1
    · have h1 := B.1.ctx (nthS L i).data.toList []
      simp only [List.append_nil] at h1
      exact h1.trans D.1
/-- a valid table -/
def TabG (m : Nat) (l : List Int) : Prop := ∃ ln : List Nat, l = ln.map Int.ofNat ∧ TabOk m ln
theorem TabOk.rows {m : Nat} {ln : List Nat} (h : TabOk m ln) : rowsOk m ln = true := by
  refine all_range.2 fun i hi => ?_
  unfold rowOk idn
  rw [Bool.and_eq_true, Bool.and_eq_true, decide_eq_true_eq, decide_eq_true_eq]
  refine ⟨⟨h.left i hi, h.right i hi⟩, all_range.2 fun j hj => all_range.2 fun k hk => ?_⟩
  unfold asc
  rw [decide_eq_true_eq]
  exact h.assoc i j k hi hj hk
theorem TabG.tab {m : Nat} {l : List Int} (h : TabG m l) : tabB (m : Nat) l = true := by
  obtain ⟨ln, rfl, h⟩ := h
  exact tabB_rows h.toTb h.rows
end Go.Proofs.YtgoeadgpbidgiaaGreat
namespace Go.Proofs.YtgoeadgpbidgiaaGreat
open Go.RowKit
set_option linter.unusedVariables false
/-- rules that make a word less -/
def sysW (k : Int) (R : List RulD) : Prop := ((1 ≤ k ∧ k ≤ 4) ∧ ∀ r ∈ R, ruleP k r) ∧ ∀ r ∈ R, lessS r.2 r.1 = true
theorem sysP.weak {k : Int} {R : List RulD} (h : sysP k R) : sysW k R := ⟨⟨h.1.1.1, h.1.2⟩, h.2⟩
/-- a step of an ordered system makes a word less -/
theorem step_lessW {k : Int} {R : List RulD} (hs : sysW k R) {w : ByteArray} {s : Nat × Nat} (hm : s ∈ stepsF R w) : rk (applyF R w s).data.toList < rk w.data.toList := by
  obtain ⟨h1, h2, h3⟩ := mem_stepsF.1 hm
  have hr := nthR_mem h2
  have hp := hs.1.2 _ hr
  have hl := hs.2 _ hr
  unfold applyF
  rw [replF_list]
  conv => rhs; rw [split_at h3]
  exact rk_swap (lw_of hp.1.1.1) (lw_of hp.1.1.2) hl
theorem step_sizeW {k : Int} {R : List RulD} (hs : sysW k R) {w : ByteArray} {s : Nat × Nat} (hm : s ∈ stepsF R w) : (applyF R w s).size ≤ w.size ∧ s.2 + (nthR R s.1).1.size ≤ w.size := by
  obtain ⟨h1, h2, h3⟩ := mem_stepsF.1 hm
  have hr := nthR_mem h2
  have hp := hs.1.2 _ hr
  have hl := hs.2 _ hr
  have hf := preAt_fits h3 (by have := hp.2; omega)
  have hle : (nthR R s.1).2.size ≤ (nthR R s.1).1.size := by
    unfold lessS ltW at hl
    have e1 : (blW (nthR R s.1).1).length = (nthR R s.1).1.size := rfl
    have e2 : (blW (nthR R s.1).2).length = (nthR R s.1).2.size := rfl
    rcases of_decide_eq_true hl with h | ⟨h, _⟩ <;> omega
  refine ⟨?_, hf⟩
  unfold applyF
  rw [replF_size hf]
  omega
theorem step_wordW {k : Int} {R : List RulD} (hs : sysW k R) {w : ByteArray} (hw : wordOkB k w = true) {s : Nat × Nat} (hm : s ∈ stepsF R w) : wordOkB k (applyF R w s) = true := by
  obtain ⟨h1, h2, h3⟩ := mem_stepsF.1 hm
  have hp := hs.1.2 _ (nthR_mem h2)
  obtain ⟨a1, a2, a3⟩ := wordOk_iff.1 hw
  obtain ⟨b1, b2, b3⟩ := wordOk_iff.1 hp.1.1.2
  refine wordOk_iff.2 ⟨a1, Nat.le_trans (step_sizeW hs hm).1 a2, fun y hy => ?_⟩
  unfold applyF at hy
  rw [replF_list] at hy
  rcases List.mem_append.1 hy with hy | hy
  · exact a3 y ((List.take_sublist _ _).subset hy)
  rcases List.mem_append.1 hy with hy | hy
  · exact b3 y hy
  · exact a3 y ((List.drop_sublist _ _).subset hy)
theorem NormIs.exW {k : Int} {R : List RulD} (hs : sysW k R) : ∀ (n : Nat) (w : ByteArray), rk w.data.toList < n → wordOkB k w = true → ∃ x, NormIs R w x ∧ wordOkB k x = true
  | 0, w, h, _ => by omega
  | n + 1, w, h, hw => by
    cases hh : (stepsF R w).head? with
    | none => exact ⟨w, .done hh, hw⟩
    | some s =>
      have hm := head_mem hh
      have h1 := step_lessW hs hm
      obtain ⟨x, hx, hx2⟩ := NormIs.exW hs n (applyF R w s) (by omega) (step_wordW hs hw hm)
      exact ⟨x, .step hh hx, hx2⟩
theorem NormIs.wordW {k : Int} {R : List RulD} (hs : sysW k R) {w x : ByteArray} (h : NormIs R w x) (hw : wordOkB k w = true) : wordOkB k x = true := by
  obtain ⟨y, h1, h2⟩ := NormIs.exW hs _ w (Nat.lt_succ_self _) hw
  rw [h.uniq h1]; exact h2
end Go.Proofs.YtgoeadgpbidgiaaGreat
