/-
  Slices that a call has made: how they are held, filled and read.
-/
import Derived.Test.YtmgdglghjlggnaaGreatRows
import Derived.WalkKit
import Derived.WalkSpells
import Derived.WalkLawsBesides
import Derived.BigQuiet
import Derived.Lib.Hide
import Derived.Deep.QuietTactic
import Derived.Deep.OwnRows
namespace Go.Proofs.YtmgdglghjlggnaaGreat
open Go.RowKit
set_option linter.unusedVariables false
/-- the number a lies in the range from b to c -/
def inB (a b c : Int) : Bool := decide (b ≤ a) && decide (a ≤ c)
theorem inB_bounds {a b c : Int} (h : inB a b c = true) : b ≤ a ∧ a ≤ c := by simpa [inB] using h
set_option maxHeartbeats 400000 in
theorem within_any (a b c : Int) (w : World) :
    Calls Tryz.prog 28 #[.int .i64 a, .int .i64 b, .int .i64 c] w fun e w' => e = .returned (.bool (inB a b c)) ∧ w = w' := by
  by_cases h : b ≤ a
  · go_enter Tryz.func28, Tryz.ntmps28
    go_wp2
    go_ret
    exact ⟨by simp [inB, h], rfl⟩
  · go_enter Tryz.func28, Tryz.ntmps28
    go_wp2
    go_ret
    exact ⟨by simp [inB]; omega, rfl⟩
set_option maxHeartbeats 400000 in
theorem l01In_any (a b c : Int) (w : World) :
    Calls Tryz.prog 71 #[.int .i64 a, .int .i64 b, .int .i64 c] w fun e w' => e = .returned (.bool (inB a b c)) ∧ w = w' := by
  by_cases h : b ≤ a
  · go_enter Tryz.func71, Tryz.ntmps71
    go_wp2
    go_ret
    exact ⟨by simp [inB, h], rfl⟩
  · go_enter Tryz.func71, Tryz.ntmps71
    go_wp2
    go_ret
    exact ⟨by simp [inB]; omega, rfl⟩
/-- the byte is among the first k small letters -/
def letB (k : Int) (c : UInt8) : Bool := inB (c.toNat : Int) 97 (97 + k - 1)
/-- all bytes of a text have a property -/
def allB (p : UInt8 → Bool) (s : ByteArray) : Bool := s.data.toList.all p
/-- the first j bytes have it -/
def allTo (p : UInt8 → Bool) (s : ByteArray) (j : Nat) : Bool := (s.data.toList.take j).all p
theorem allTo_zero (p : UInt8 → Bool) (s : ByteArray) : allTo p s 0 = true := by simp [allTo]
theorem allTo_succ (s : ByteArray) (p : UInt8 → Bool) (j : Nat) (h : j < s.size) (ha : allTo p s j = true) (hp : p s[j] = true) : allTo p s (j + 1) = true := by
  unfold allTo at *
  rw [List.take_succ_eq_append_getElem (by simpa using h), List.all_append, ha]
  simpa [ByteArray.getElem_eq_getElem_data] using hp
theorem allTo_full (s : ByteArray) (p : UInt8 → Bool) (j : Nat) (h : ¬ j < s.size) (ha : allTo p s j = true) : allB p s = true := by
  unfold allTo at ha
  rwa [List.take_of_length_le (by simp; omega)] at ha
theorem allB_at (s : ByteArray) (p : UInt8 → Bool) (j : Nat) (h : j < s.size) (hp : p s[j] = false) : allB p s = false := by
  unfold allB
  rw [List.all_eq_false]
  exact ⟨s[j], by have := List.getElem_mem (l := s.data.toList) (n := j) (by simpa using h); rwa [Array.getElem_toList] at this, by simp [hp]⟩
theorem byte_lt (c : UInt8) : (c.toNat : Int) < 256 := by have := c.toNat_lt; omega
theorem ret_bool {a b : Bool} (h : a = b) : Ending.returned (.bool a) = .returned (.bool b) := by rw [h]
theorem ret_int {k : IntKind} {a b : Int} (h : a = b) : Ending.returned (.int k a) = .returned (.int k b) := by rw [h]
set_option maxHeartbeats 400000 in
theorem hasLetters_any (k : Int) (s : ByteArray) (w : World) (hs : s.size ≤ maxLen) (hk0 : 0 ≤ k) (hk1 : k ≤ 1000) :
    Calls Tryz.prog 62 #[.int .i64 k, .string s] w fun e w' => e = .returned (.bool (allB (letB k) s)) ∧ w = w' := by
  unfold maxLen at hs
  go_enter Tryz.func62, Tryz.ntmps62
  go_wp2
  go_loop [8] (fun i => ∃ j : Nat, j ≤ s.size ∧ i = .int .i64 j ∧ allTo (letB k) s j = true) (fun i => s.size - (intOf i).toNat)
  case atStart => exact ⟨0, Nat.zero_le _, rfl, allTo_zero _ _⟩
  case round =>
    obtain ⟨j, hj, rfl, hall⟩ := hrel
    have H := Lib.hid hall
    clear hall
    by_cases hlt : j < s.size
    · have hb := byte_lt s[j]
      cases hp : letB k s[j]
      · have F := Lib.hid (allB_at s (letB k) j hlt hp)
        unfold letB at hp
        go_wp2_with (go_at_call 28; refine (within_any _ _ _ _).mono ?_; rintro e w' ⟨rfl, rfl⟩)
        go_ret
        exact ⟨ret_bool F.out.symm, rfl⟩
      · have F := Lib.hid (allTo_succ s (letB k) j hlt H.out hp)
        unfold letB at hp
        go_wp2_with (go_at_call 28; refine (within_any _ _ _ _).mono ?_; rintro e w' ⟨rfl, rfl⟩)
        go_round
        case rel => exact ⟨j + 1, by omega, by go_num, F.out⟩
        case measure => simp [intOf]; omega
    · have F := Lib.hid (allTo_full s (letB k) j hlt H.out)
      go_wp2
      go_ret
      exact ⟨ret_bool F.out.symm, rfl⟩
end Go.Proofs.YtmgdglghjlggnaaGreat
namespace Go.Proofs.YtmgdglghjlggnaaGreat
set_option linter.unusedVariables false
/-- words W of rank r, made longer by sn; elements, led on by nx; D are done, Q are waiting, j letters are done with the first of Q -/
structure BfsP {W : Type} (r : W → Nat) (sn : W → Nat → W) (e : W) (nx : Nat → Nat → Nat) (k : Nat) (O : Nat → W) (D Q : List Nat) (j : Nat) : Prop where
  nd : (D ++ Q).Nodup
  rise : (D ++ Q).Pairwise fun a b => r (O a) < r (O b)
  root : 0 ∈ D ++ Q
  zero : O 0 = e
  par : ∀ v ∈ D ++ Q, v = 0 ∨ ∃ d y, y < k ∧ O v = sn (O d) y ∧ (d ∈ D ∨ (Q.head? = some d ∧ y < j))
  comp : ∀ d y, y < k → (d ∈ D ∨ (Q.head? = some d ∧ y < j)) → nx d y ∈ D ++ Q ∧ r (O (nx d y)) ≤ r (sn (O d) y)
  way : ∀ i (h : i < (D ++ Q).length), ∃ ys : List Nat, (∀ y ∈ ys, y < k) ∧ O (D ++ Q)[i] = ys.foldl sn e ∧ ys.foldl nx 0 = (D ++ Q)[i] ∧ ys.length ≤ i
section
variable {W : Type} {r : W → Nat} {sn : W → Nat → W} {e : W} {nx : Nat → Nat → Nat} {k : Nat} {O : Nat → W} {D Q : List Nat} {j : Nat}
theorem BfsP.start (h0 : O 0 = e) : BfsP r sn e nx k O [] [0] 0 := by
  refine ⟨List.nodup_cons.2 ⟨by simp, List.nodup_nil⟩, List.pairwise_singleton _ _, List.mem_singleton.2 rfl, h0, fun v hv => .inl (by simpa using hv), fun d y _ h => ?_, fun i hi => ?_⟩
  · rcases h with h | ⟨_, h⟩
    · cases h
    · omega
  · have : i = 0 := by simp at hi; omega
    subst this
    exact ⟨[], (fun y hy => by cases hy), h0, rfl, Nat.le_refl _⟩
/-- the first of Q stands behind all of D -/
theorem BfsP.head_lt (h : BfsP r sn e nx k O D Q j) {q d : Nat} (hq : Q.head? = some q) (hd : d ∈ D) : r (O d) < r (O q) :=
  (List.pairwise_append.1 h.rise).2.2 d hd q (List.mem_of_mem_head? hq)
theorem BfsP.all_lt (hs : ∀ w y, r (sn w y) = 5 * r w + y + 1) (he : r e = 0) (hk : k ≤ 4) (h : BfsP r sn e nx k O D Q j) {q : Nat} (hq : Q.head? = some q) {v : Nat} (hv : v ∈ D ++ Q) : r (O v) < r (sn (O q) j) := by
  rw [hs]
  rcases h.par v hv with rfl | ⟨d, y, hy, e2, hd⟩
  · rw [h.zero, he]; omega
  · rw [e2, hs]
    rcases hd with hd | ⟨hd, hyj⟩
    · have := h.head_lt hq hd; omega
    · rw [hq] at hd
      cases hd
      omega
theorem BfsP.old (hs : ∀ w y, r (sn w y) = 5 * r w + y + 1) (he : r e = 0) (hk : k ≤ 4) (h : BfsP r sn e nx k O D Q j) {q : Nat} (hq : Q.head? = some q) (hm : nx q j ∈ D ++ Q) : BfsP r sn e nx k O D Q (j + 1) := by
  refine ⟨h.nd, h.rise, h.root, h.zero, fun v hv => ?_, fun d y hy hd => ?_, h.way⟩
  · rcases h.par v hv with h1 | ⟨d, y, hy, e2, hd⟩
    · exact .inl h1
    · exact .inr ⟨d, y, hy, e2, hd.imp id fun hd => ⟨hd.1, by omega⟩⟩
  · by_cases hc : Q.head? = some d ∧ y = j
    · obtain ⟨h1, rfl⟩ := hc
      rw [hq] at h1
      cases h1
      exact ⟨hm, Nat.le_of_lt (h.all_lt hs he hk hq hm)⟩
    · refine h.comp d y hy (hd.imp id fun hd => ⟨hd.1, ?_⟩)
      have : y ≠ j := fun e => hc ⟨hd.1, e⟩
      omega
/-- a new element -/
def putO (O : Nat → W) (v : Nat) (w : W) : Nat → W := fun i => if i = v then w else O i
theorem putO_at (v : Nat) (w : W) : putO O v w v = w := if_pos rfl
theorem putO_ne {v i : Nat} (w : W) (h : i ≠ v) : putO O v w i = O i := if_neg h
theorem BfsP.new (hs : ∀ w y, r (sn w y) = 5 * r w + y + 1) (he : r e = 0) (hk : k ≤ 4) (hj : j < k) (h : BfsP r sn e nx k O D Q j) {q : Nat} (hq : Q.head? = some q) (hm : nx q j ∉ D ++ Q) : BfsP r sn e nx k (putO O (nx q j) (sn (O q) j)) D (Q ++ [nx q j]) (j + 1) := by
  have eo : ∀ v ∈ D ++ Q, putO O (nx q j) (sn (O q) j) v = O v := fun v hv => putO_ne _ (fun e => hm (e ▸ hv))
  have hqm : q ∈ D ++ Q := List.mem_append.2 (.inr (List.mem_of_mem_head? hq))
  have hq2 : (Q ++ [nx q j]).head? = some q := by
    cases Q with
    | nil => cases hq
    | cons a Q => exact hq
  have ea : D ++ (Q ++ [nx q j]) = (D ++ Q) ++ [nx q j] := by rw [List.append_assoc]
  have dq : ∀ {d y : Nat}, (d ∈ D ∨ (Q.head? = some d ∧ y < j + 1)) → d ∈ D ++ Q := fun hd => by
    rcases hd with hd | ⟨hd, _⟩
    · exact List.mem_append.2 (.inl hd)
    · exact List.mem_append.2 (.inr (List.mem_of_mem_head? hd))
  have hhead : ∀ {d y : Nat}, (d ∈ D ∨ ((Q ++ [nx q j]).head? = some d ∧ y < j + 1)) ↔ (d ∈ D ∨ (Q.head? = some d ∧ y < j + 1)) := by intro d y; rw [hq2, hq]
  refine ⟨?_, ?_, ?_, ?_, fun v hv => ?_, fun d y hy hd => ?_, fun i hi => ?_⟩
  · rw [ea, List.nodup_append]
    exact ⟨h.nd, List.nodup_cons.2 ⟨by simp, List.nodup_nil⟩, fun a ha b hb e => hm (by rw [← List.mem_singleton.1 hb, ← e]; exact ha)⟩
  · rw [ea, List.pairwise_append]
    refine ⟨h.rise.imp_of_mem fun ha hb hlt => by rw [eo _ ha, eo _ hb]; exact hlt, List.pairwise_singleton _ _, fun a ha b hb => ?_⟩
    rw [List.mem_singleton.1 hb, eo a ha, putO_at]
    exact h.all_lt hs he hk hq ha
  · rw [ea]; exact List.mem_append.2 (.inl h.root)
  · rw [eo 0 h.root]; exact h.zero
  · rw [ea] at hv
    rcases List.mem_append.1 hv with hv | hv
    · rcases h.par v hv with h1 | ⟨d, y, hy, e2, hd⟩
      · exact .inl h1
      · have hd2 : d ∈ D ∨ (Q.head? = some d ∧ y < j + 1) := hd.imp id fun hd => ⟨hd.1, by omega⟩
        exact .inr ⟨d, y, hy, by rw [eo v hv, eo d (dq hd2)]; exact e2, hhead.2 hd2⟩
    · rw [List.mem_singleton.1 hv]
      exact .inr ⟨q, j, hj, by rw [putO_at, eo q hqm], .inr ⟨hq2, by omega⟩⟩
  · have hd2 := hhead.1 hd
    rw [eo d (dq hd2), ea]
    by_cases hc : Q.head? = some d ∧ y = j
    · obtain ⟨h1, rfl⟩ := hc
      rw [hq] at h1
      cases h1
      exact ⟨List.mem_append.2 (.inr (List.mem_singleton.2 rfl)), by rw [putO_at]; exact Nat.le_refl _⟩
    · obtain ⟨h1, h2⟩ := h.comp d y hy (hd2.imp id fun hd => ⟨hd.1, by
        have : y ≠ j := fun e => hc ⟨hd.1, e⟩
        omega⟩)
      exact ⟨List.mem_append.2 (.inl h1), by rw [eo _ h1]; exact h2⟩
  · simp only [ea] at hi ⊢
    by_cases hl : i < (D ++ Q).length
    · obtain ⟨ys, h1, h2, h3, h4⟩ := h.way i hl
      rw [List.getElem_append_left hl]
      exact ⟨ys, h1, by rw [eo _ (List.getElem_mem hl)]; exact h2, h3, h4⟩
    · have hl2 : i = (D ++ Q).length := by simp at hi hl ⊢; omega
      have eg : ((D ++ Q) ++ [nx q j])[i] = nx q j := by
        rw [List.getElem_append_right (by omega)]
        simp
      obtain ⟨p, hp, ep⟩ := List.getElem_of_mem hqm
      obtain ⟨ys, h1, h2, h3, h4⟩ := h.way p hp
      rw [eg, putO_at]
      refine ⟨ys ++ [j], fun y hy => ?_, ?_, ?_, ?_⟩
      · rcases List.mem_append.1 hy with hy | hy
        · exact h1 y hy
        · rw [List.mem_singleton.1 hy]; exact hj
      · rw [List.foldl_append, ← h2, ep]; rfl
      · rw [List.foldl_append, h3, ep]; rfl
      · rw [List.length_append, List.length_singleton]; omega
theorem BfsP.next (h : BfsP r sn e nx k O D Q j) (hj : j = k) {q : Nat} {Qt : List Nat} (hQ : Q = q :: Qt) : BfsP r sn e nx k O (D ++ [q]) Qt 0 := by
  subst hQ
  have ea : (D ++ [q]) ++ Qt = D ++ q :: Qt := by simp
  refine ⟨by rw [ea]; exact h.nd, by rw [ea]; exact h.rise, by rw [ea]; exact h.root, h.zero, fun v hv => ?_, fun d y hy hd => ?_, ?_⟩
  · rw [ea] at hv
    rcases h.par v hv with h1 | ⟨d, y, hy, e2, hd⟩
    · exact .inl h1
    · refine .inr ⟨d, y, hy, e2, .inl (List.mem_append.2 ?_)⟩
      rcases hd with hd | ⟨hd, _⟩
      · exact .inl hd
      · cases hd; exact .inr (List.mem_singleton.2 rfl)
  · rw [ea]
    refine h.comp d y hy ?_
    rcases hd with hd | ⟨_, hd⟩
    · rcases List.mem_append.1 hd with hd | hd
      · exact .inl hd
      · rw [List.mem_singleton.1 hd]; exact .inr ⟨rfl, by omega⟩
    · omega
  · simp only [ea]; exact h.way
/-- at the end: each word's element is reached, by a word that is not greater -/
theorem BfsP.done (hs : ∀ w y, r (sn w y) = 5 * r w + y + 1) (h : BfsP r sn e nx k O D [] j) : ∀ (ys : List Nat), (∀ y ∈ ys, y < k) → ys.foldl nx 0 ∈ D ∧ r (O (ys.foldl nx 0)) ≤ r (ys.foldl sn e) := by
  have key : ∀ (n : Nat) (ys : List Nat), ys.length = n → (∀ y ∈ ys, y < k) → ys.foldl nx 0 ∈ D ∧ r (O (ys.foldl nx 0)) ≤ r (ys.foldl sn e) := fun n => by
    induction n with
    | zero =>
      intro ys hl _
      obtain rfl := List.eq_nil_of_length_eq_zero hl
      have := h.root
      rw [List.append_nil] at this
      exact ⟨this, by show r (O 0) ≤ r e; rw [h.zero]; exact Nat.le_refl _⟩
    | succ n ih =>
      intro ys hl hy
      rcases List.eq_nil_or_concat ys with rfl | ⟨zs, y, rfl⟩
      · simp at hl
      · rw [List.concat_eq_append] at *
        have hl2 : zs.length = n := by rw [List.length_append, List.length_singleton] at hl; omega
        obtain ⟨h1, h2⟩ := ih zs hl2 (fun z hz => hy z (List.mem_append.2 (.inl hz)))
        rw [List.foldl_append, List.foldl_append]
        obtain ⟨h3, h4⟩ := h.comp _ y (hy y (by simp)) (.inl h1)
        rw [List.append_nil] at h3
        refine ⟨h3, ?_⟩
        show r (O (nx (zs.foldl nx 0) y)) ≤ r (sn (zs.foldl sn e) y)
        rw [hs] at h4 ⊢
        omega
  exact fun ys => key _ ys rfl
end
end Go.Proofs.YtmgdglghjlggnaaGreat
namespace Go.Proofs.YtmgdglghjlggnaaGreat
open Go.RowKit
set_option linter.unusedVariables false
theorem Below.next {B : Nat} {w W W' : World} (h : Below B w W) (h' : Below W.heap.size W W') (hB : B ≤ W.heap.size) : Below B w W' := h.trans (h'.mono hB)
theorem Below.now {w W W' : World} (h : Below w.heap.size w W) (h' : Below W.heap.size W W') : Below w.heap.size w W' := h.trans (h'.mono h.size)
/-- draws and new blocks -/
structure Ext where
  d : Nat
  h : Array Obj
instance : Inhabited Ext := ⟨⟨0, #[]⟩⟩
/-- w with other draws and with new blocks behind its own -/
def wide (w : World) (x : Ext) : World := { w with drawn := x.d, heap := w.heap ++ x.h }
theorem wide_of_below {w w' : World} (h : Below w.heap.size w w') : ∃ x, w' = wide w x := by
  refine ⟨⟨w'.drawn, w'.heap.extract w.heap.size w'.heap.size⟩, ?_⟩
  obtain ⟨heap, tape, drawn, os, output⟩ := w'
  obtain ⟨h1, h2, h3, h4, h5⟩ := h
  simp only [] at h1 h2 h3 h4 h5
  unfold wide
  simp only [World.mk.injEq, h1, h2, h3, and_true]
  apply Array.ext
  · simp; omega
  · intro i hi hi'
    by_cases hlt : i < w.heap.size
    · have h6 := h5 i hlt
      rw [Array.getElem?_eq_getElem hi, Array.getElem?_eq_getElem hlt] at h6
      rw [Array.getElem_append_left hlt]
      simpa using h6
    · rw [Array.getElem_append_right (by omega)]
      simp only [Array.getElem_extract]
      congr 1
      omega
theorem below_wide (w : World) (x : Ext) : Below w.heap.size w (wide w x) :=
  ⟨rfl, rfl, rfl, by simp [wide], fun k hk => by simp [wide, Array.getElem?_append_left hk]⟩
theorem wide_cell {w : World} {a : Addr} {v : Value} (h : w.cell? a = some v) (x : Ext) : (wide w x).cell? a = some v := by
  rw [(below_wide w x).cell (World.block_lt_of_cell? w a h), h]
/-- the cells behind an address -/
def CellsIn (w : World) (a : Option Addr) (vs : List Value) : Prop :=
  vs = [] ∨ ∃ b off, a = some ⟨b, off, none⟩ ∧ ∀ i (h : i < vs.length), w.cell? ⟨b, off + i, none⟩ = some vs[i]
theorem CellsIn.later {w w' : World} {a : Option Addr} {vs : List Value} (h : CellsIn w a vs) (hb : Below w.heap.size w w') : CellsIn w' a vs := by
  rcases h with h | ⟨b, off, ha, hc⟩
  · exact .inl h
  · refine .inr ⟨b, off, ha, fun i hi => ?_⟩
    rw [hb.cell (World.block_lt_of_cell? w _ (hc i hi)), hc i hi]
/-- a slice of integers -/
def IntsIn (w : World) (a : Option Addr) (l : List Int) : Prop := CellsIn w a (l.map (Value.int .i64))
theorem IntsIn.later {w w' : World} {a : Option Addr} {l : List Int} (h : IntsIn w a l) (hb : Below w.heap.size w w') : IntsIn w' a l := CellsIn.later h hb
theorem IntsIn.at {w : World} {a : Option Addr} {l : List Int} (h : IntsIn w a l) {i : Nat} (hi : i < l.length) :
    ∃ b off, a = some ⟨b, off, none⟩ ∧ ∀ j, j < l.length → w.cell? ⟨b, off + j, none⟩ = some (.int .i64 (l.getD j 0)) := by
  rcases h with h | ⟨b, off, ha, hc⟩
  · simp at h; simp [h] at hi
  · refine ⟨b, off, ha, fun j hj => ?_⟩
    have := hc j (by simpa using hj)
    simpa [List.getD_eq_getElem?_getD, hj] using this
theorem wide_next {w : World} {x : Ext} {w2 : World} (h : Below (wide w x).heap.size (wide w x) w2) : ∃ y, w2 = wide w y := by
  have hb := below_wide w x
  exact wide_of_below (hb.trans (h.mono hb.size))
/-- a region that draws its order, whose operations read and whose callees make memory of their own: one walk, in the order of the text -/
theorem region_wide {P : Program} {id : Nat} {Q : Exit → Act → World → Prop} {a : Act} {w : World} {l : List Oper} (hm : P.follows .mixedOrders = true) (hB : Region.lexB .any l.toArray = true)
    (h : wpQuiet P l.toArray (fun w' => ∃ x, w' = wide w x) (fun a' => ∀ w', (∃ x, w' = wide w x) → Q .normal a' w') l a) : (Code.region id l.toArray true).wp P Q a w :=
  wp_region_quiet (C := fun w' => ∃ x, w' = wide w x) hm hB ⟨⟨w.drawn + 1, #[]⟩, by simp [wide]⟩ (by simpa using h)
/-- a box that was laid, in every later world -/
theorem box_later {w w1 : World} {vs : Array Value} {T : TypeId} (hb : Below (w.alloc (.cells vs T)).heap.size (w.alloc (.cells vs T)) w1) {i : Nat} {v : Value} (h : vs[i]? = some v) :
    ∀ W, Below w1.heap.size w1 W → W.cell? ⟨w.heap.size, i, none⟩ = some v := fun W hW => by
  have hs := hb.size
  have h1 : w.heap.size < (w.alloc (.cells vs T)).heap.size := by simp
  rw [hW.cell (by show w.heap.size < _; omega), hb.cell h1, World.cell?_alloc_new, h]
end Go.Proofs.YtmgdglghjlggnaaGreat
namespace Go.Proofs.YtmgdglghjlggnaaGreat
open Go.RowKit
set_option linter.unusedVariables false
/-- what a call hands back that makes a slice: n elements, the cells xs, in memory of its own -/
def RetSl (T : TypeId) (size : Nat) (n : Nat) (xs : List Value) (w : World) (e : Ending) (w' : World) : Prop :=
  ∃ a cap, e = .returned (.slice a n cap) ∧ w'.ownsRow w.heap.size T size (.slice a n cap) n xs ∧ Below w.heap.size w w'
theorem owns_cells {w : World} {base : Nat} {T : TypeId} {size : Nat} {a : Option Addr} {n m cap : Nat} {xs : List Value} (h : w.ownsRow base T size (.slice a m cap) n xs) : CellsIn w a xs := by
  rcases h.2 with ⟨hv, h0⟩ | ⟨g, cap', cur, hv, hb, hg, hn, hc, hs, ht⟩
  · left
    have := h.1
    rw [h0] at this
    simpa using this
  · right
    simp only [Value.slice.injEq] at hv
    refine ⟨g, 0, hv.1, fun i hi => ?_⟩
    have := cell_of_row w g i cur T (0, 0) hg
    rw [Nat.zero_add, this]
    have h2 : xs[i]? = some xs[i] := List.getElem?_eq_getElem hi
    rw [← h2, ← ht, List.getElem?_take]
    have h1 := h.1
    rw [if_pos (by omega)]
    simp
theorem owns_ints {w : World} {base : Nat} {T : TypeId} {size : Nat} {a : Option Addr} {n m cap : Nat} {l : List Int} (h : w.ownsRow base T size (.slice a m cap) n (l.map (Value.int .i64))) : IntsIn w a l := owns_cells h
/-- the block of a slice lies from base on -/
theorem owns_base {w : World} {base : Nat} {T : TypeId} {size : Nat} {a : Option Addr} {n m cap : Nat} {xs : List Value} (h : w.ownsRow base T size (.slice a m cap) n xs) : ∀ x, a = some x → base ≤ x.block := by
  rintro x rfl
  exact (h.lt x.block rfl).1
theorem owns_later {w w' : World} {base : Nat} {T : TypeId} {size : Nat} {v : Value} {n : Nat} {xs : List Value} (h : w.ownsRow base T size v n xs) (hb : Below w.heap.size w w') : w'.ownsRow base T size v n xs :=
  h.kept (row := none) ⟨hb.os, hb.tape, hb.output, hb.size, fun k hk _ => hb.block k hk⟩ (by cases h : v.ownBlock <;> simp)
theorem owns_mono {w : World} {base base' : Nat} {T : TypeId} {size : Nat} {v : Value} {n : Nat} {xs : List Value} (h : w.ownsRow base T size v n xs) (hb : base' ≤ base) : w.ownsRow base' T size v n xs := by
  refine ⟨h.1, ?_⟩
  rcases h.2 with h' | ⟨g, cap', cur, hv, hb', r⟩
  · exact .inl h'
  · exact .inr ⟨g, cap', cur, hv, by omega, r⟩
theorem fill_step {xs tgt : List Value} {j : Nat} (hl : xs.length = tgt.length) (h : xs.take j = tgt.take j) (hj : j < tgt.length) : (xs.set j tgt[j]).take (j + 1) = tgt.take (j + 1) := by
  rw [List.take_succ_eq_append_getElem (by simpa using by omega), List.take_succ_eq_append_getElem hj, List.take_set_of_le (Nat.le_refl _), h]
  simp
theorem fill_done {xs tgt : List Value} {j : Nat} (hl : xs.length = tgt.length) (h : xs.take j = tgt.take j) (hj : ¬ j < tgt.length) : xs = tgt := by
  rwa [List.take_of_length_le (by omega), List.take_of_length_le (by omega)] at h
/-- a row that is being filled -/
def Filling (w wr : World) (T : TypeId) (g n : Nat) (tgt : List Value) (j : Nat) : Prop :=
  ∃ xs, wr.ownsRow g T 1 (.slice (some ⟨g, 0, none⟩) n n) n xs ∧ xs.take j = tgt.take j ∧ Below w.heap.size w wr ∧ w.heap.size ≤ g ∧ tgt.length = n
theorem Filling.cell {w wr : World} {T : TypeId} {g n : Nat} {tgt : List Value} {j : Nat} (h : Filling w wr T g n tgt j) (hj : j < n) : ∃ v, wr.cell? ⟨g, j, none⟩ = some v := by
  obtain ⟨xs, ho, ht, hb, hg, hl⟩ := h
  have := ho.cellAt j (by omega)
  have h1 := ho.1
  exact ⟨xs[j]'(by omega), by rw [this, List.getElem?_eq_getElem]⟩
theorem Filling.frozen {w wr : World} {T : TypeId} {g n : Nat} {tgt : List Value} {j : Nat} (h : Filling w wr T g n tgt j) (i : Nat) : wr.frozen? ⟨g, i, none⟩ = false := by
  obtain ⟨xs, ho, ht, hb, hg, hl⟩ := h
  exact ho.frozenAt i
theorem Filling.store {w wr : World} {T : TypeId} {g n : Nat} {tgt : List Value} {j : Nat} (h : Filling w wr T g n tgt j) (hj : j < n) {u : Value} (hu : tgt[j]? = some u) : Filling w (wr.setCell ⟨g, j, none⟩ u) T g n tgt (j + 1) := by
  obtain ⟨xs, ho, ht, hb, hg, hl⟩ := h
  have h1 := ho.1
  have hu' : tgt[j]'(by omega) = u := by rw [List.getElem?_eq_getElem (by omega)] at hu; simpa using hu
  refine ⟨xs.set j u, (ho.stored j u).1, ?_, hb.setCell hg u, hg, hl⟩
  rw [← hu']
  exact fill_step (by omega) ht (by omega)
theorem Filling.done {w wr : World} {T : TypeId} {g n : Nat} {tgt : List Value} {j : Nat} (h : Filling w wr T g n tgt j) (hj : ¬ j < n) : RetSl T 1 n tgt w (.returned (.slice (some ⟨g, 0, none⟩) n n)) wr := by
  obtain ⟨xs, ho, ht, hb, hg, hl⟩ := h
  have h1 := ho.1
  have : xs = tgt := fill_done (by omega) ht (by omega)
  subst this
  exact ⟨_, _, rfl, owns_mono ho hg, hb⟩
theorem Filling.start (w : World) (T : TypeId) (cs : Array Value) (n : Nat) (tgt : List Value) (hs : cs.size = n) (hn : n ≤ maxLen) (hl : tgt.length = n) : Filling w (w.alloc (.cells cs T)) T w.heap.size n tgt 0 :=
  ⟨cs.toList, World.ownsRow_lit w cs n (Nat.le_refl _) hn (by omega), by simp, (Below.refl _ _).alloc (Nat.le_refl _) _, Nat.le_refl _, hl⟩
theorem Tryz.infoInt : (Tryz.prog.info? 3).map (fun i => (i.zero, i.size, i.bytes)) = some (some (.int .i64 0), 1, 8) := by kernel_rfl
end Go.Proofs.YtmgdglghjlggnaaGreat
