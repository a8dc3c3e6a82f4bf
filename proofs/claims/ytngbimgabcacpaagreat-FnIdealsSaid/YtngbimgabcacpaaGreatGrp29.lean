/-
  What the law on ideals asks of the classes, in plain words.
-/
import Derived.Test.YtngbimgabcacpaaGreatGrp27
import Derived.Test.YtngbimgabcacpaaGreatGrp22
import Derived.Test.YtngbimgabcacpaaGreatGrp21
import Derived.Test.YtngbimgabcacpaaGreatGrp28
import Derived.Test.YtngbimgabcacpaaGreatGrp24
namespace Go.Proofs.YtngbimgabcacpaaGreat
open Go.RowKit
set_option linter.unusedVariables false
/-- more pigeons than holes -/
theorem php : ∀ (m : Nat) (f : Nat → Nat), (∀ i, i ≤ m → f i < m) → ∃ i j, i < j ∧ j ≤ m ∧ f i = f j
  | 0, f, h => absurd (h 0 (Nat.le_refl _)) (Nat.not_lt_zero _)
  | m + 1, f, h => by
    by_cases he : ∃ i, i ≤ m ∧ f i = f (m + 1)
    · obtain ⟨i, hi, e⟩ := he
      exact ⟨i, m + 1, by omega, Nat.le_refl _, e⟩
    · have hne : ∀ i, i ≤ m → f i ≠ f (m + 1) := fun i hi e => he ⟨i, hi, e⟩
      obtain ⟨i, j, hij, hj, e⟩ := php m (fun i => if f i = m then f (m + 1) else f i) (fun i hi => by
        have h1 := h i (by omega)
        have h2 := h (m + 1) (Nat.le_refl _)
        have h3 := hne i hi
        by_cases e : f i = m
        · simp only [e, if_true]; omega
        · simp only [e, if_false]; omega)
      have h1 := hne i (by omega)
      have h2 := hne j hj
      refine ⟨i, j, hij, by omega, ?_⟩
      by_cases e1 : f i = m <;> by_cases e2 : f j = m <;> simp [e1, e2] at e <;> omega
/-- the powers of an element -/
def pw (m : Nat) (ln : List Nat) (i : Nat) : Nat → Nat
  | 0 => 0
  | n + 1 => tm m ln (pw m ln i n) i
theorem pw_zero (m : Nat) (ln : List Nat) (i : Nat) : pw m ln i 0 = 0 := rfl
theorem pw_succ (m : Nat) (ln : List Nat) (i n : Nat) : pw m ln i (n + 1) = tm m ln (pw m ln i n) i := rfl
theorem Tb.pw_lt {m : Nat} {ln : List Nat} (h : Tb m ln) {i : Nat} (hi : i < m) : ∀ n, pw m ln i n < m
  | 0 => h.lo
  | n + 1 => h.tm_lt (h.pw_lt hi n) hi
theorem TabOk.pw_add {m : Nat} {ln : List Nat} (h : TabOk m ln) {i : Nat} (hi : i < m) (a : Nat) : ∀ b, pw m ln i (a + b) = tm m ln (pw m ln i a) (pw m ln i b)
  | 0 => by rw [Nat.add_zero, pw_zero, h.right _ (h.pw_lt hi a)]
  | b + 1 => by
    rw [← Nat.add_assoc, pw_succ, h.pw_add hi a b, pw_succ, h.assoc _ _ _ (h.pw_lt hi a) (h.pw_lt hi b) hi]
/-- the power n was there before -/
def repB (m : Nat) (ln : List Nat) (i n : Nat) : Bool := (List.range n).any fun k => decide (pw m ln i k = pw m ln i n)
theorem repB_iff {m : Nat} {ln : List Nat} {i n : Nat} : repB m ln i n = true ↔ ∃ k, k < n ∧ pw m ln i k = pw m ln i n := by simp [repB]
theorem Tb.rep {m : Nat} {ln : List Nat} (h : Tb m ln) {i : Nat} (hi : i < m) : ∃ n, n ≤ m ∧ repB m ln i n = true := by
  obtain ⟨k, n, hk, hn, e⟩ := php m (pw m ln i) (fun n _ => h.pw_lt hi n)
  exact ⟨n, hn, repB_iff.2 ⟨k, hk, e⟩⟩
/-- the first number that has a property, of those up to m -/
def firstN (p : Nat → Bool) (m : Nat) : Nat := ((List.range (m + 1)).find? p).getD 0
theorem firstN_spec {p : Nat → Bool} {m n : Nat} (hn : n ≤ m) (hp : p n = true) : p (firstN p m) = true ∧ firstN p m ≤ n ∧ ∀ z, z < firstN p m → p z = false := by
  unfold firstN
  cases h : (List.range (m + 1)).find? p
  · rw [List.find?_eq_none] at h
    have := h n (by simp; omega)
    simp [hp] at this
  · rename_i k
    rw [List.find?_eq_some_iff_getElem] at h
    obtain ⟨h1, j, hj, h2, h3⟩ := h
    simp only [List.getElem_range] at h2 h3
    subst h2
    simp only [Option.getD_some]
    refine ⟨h1, ?_, fun z hz => by simpa using h3 z hz⟩
    rcases Nat.lt_or_ge n j with hlt | hge
    · have := h3 n hlt
      simp [hp] at this
    · exact hge
def repN (m : Nat) (ln : List Nat) (i : Nat) : Nat := firstN (repB m ln i) m
def repK (m : Nat) (ln : List Nat) (i : Nat) : Nat := firstN (fun k => decide (pw m ln i k = pw m ln i (repN m ln i))) m
theorem Tb.repN_le {m : Nat} {ln : List Nat} (h : Tb m ln) {i : Nat} (hi : i < m) : repN m ln i ≤ m := by
  obtain ⟨n, hn, hp⟩ := h.rep hi
  exact Nat.le_trans (firstN_spec hn hp).2.1 hn
theorem Tb.repN_rep {m : Nat} {ln : List Nat} (h : Tb m ln) {i : Nat} (hi : i < m) : repB m ln i (repN m ln i) = true := by
  obtain ⟨n, hn, hp⟩ := h.rep hi
  exact (firstN_spec hn hp).1
theorem Tb.repN_min {m : Nat} {ln : List Nat} (h : Tb m ln) {i : Nat} (hi : i < m) {z : Nat} (hz : z < repN m ln i) : repB m ln i z = false := by
  obtain ⟨n, hn, hp⟩ := h.rep hi
  exact (firstN_spec hn hp).2.2 z hz
theorem Tb.repK_spec {m : Nat} {ln : List Nat} (h : Tb m ln) {i : Nat} (hi : i < m) : repK m ln i < repN m ln i ∧ pw m ln i (repK m ln i) = pw m ln i (repN m ln i) ∧ ∀ z, z < repK m ln i → pw m ln i z ≠ pw m ln i (repN m ln i) := by
  obtain ⟨k, hk, e⟩ := repB_iff.1 (h.repN_rep hi)
  have h1 := firstN_spec (p := fun k => decide (pw m ln i k = pw m ln i (repN m ln i))) (m := m) (n := k) (by have := h.repN_le hi; omega) (by simpa using e)
  refine ⟨?_, by simpa [repK] using h1.1, fun z hz => by simpa using h1.2.2 z hz⟩
  have : repK m ln i ≤ k := h1.2.1
  omega
/-- a group -/
structure Grp (m : Nat) (ln : List Nat) : Prop extends TabOk m ln where
  unit : ∀ i, i < m → isUnit m ln i = true
theorem Grp.inv {m : Nat} {ln : List Nat} (h : Grp m ln) {i : Nat} (hi : i < m) : ∃ k, k < m ∧ tm m ln i k = 0 ∧ tm m ln k i = 0 ∧ invF m ln i = (k : Nat) := by
  have h1 := h.unit i hi
  rw [← invF_unit] at h1
  rcases invF_lt (m := m) (ln := ln) (i := i) with h2 | ⟨k, h2, h3, h4⟩
  · rw [h2] at h1; simp at h1
  · simp [invB] at h4
    exact ⟨k, h3, h4.1, h4.2, h2⟩
theorem Grp.right_inv {m : Nat} {ln : List Nat} (h : Grp m ln) {i k : Nat} (hi : i < m) (hk : k < m) (e : tm m ln i k = 0) : tm m ln k i = 0 ∧ invF m ln i = (k : Nat) := by
  obtain ⟨k', hk', e1, e2, e3⟩ := h.inv hi
  have : k = k' := by
    have h1 := h.assoc k' i k hk' hi hk
    rw [e2, e, h.left k hk, h.right k' hk'] at h1
    exact h1
  subst this
  exact ⟨e2, e3⟩
theorem Grp.cancel {m : Nat} {ln : List Nat} (h : Grp m ln) {x a b : Nat} (hx : x < m) (ha : a < m) (hb : b < m) (e : tm m ln x a = tm m ln x b) : a = b := by
  obtain ⟨k, hk, _, e2, _⟩ := h.inv hx
  have h1 := h.assoc k x a hk hx ha
  have h2 := h.assoc k x b hk hx hb
  rw [e2, h.left a ha] at h1
  rw [e2, h.left b hb] at h2
  rw [h1, h2, e]
theorem Grp.repK_zero {m : Nat} {ln : List Nat} (h : Grp m ln) {i : Nat} (hi : i < m) : repK m ln i = 0 := by
  obtain ⟨h1, h2, h3⟩ := h.repK_spec hi
  have e : pw m ln i (repN m ln i) = tm m ln (pw m ln i (repK m ln i)) (pw m ln i (repN m ln i - repK m ln i)) := by
    rw [← h.pw_add hi]; congr 1; omega
  have h4 : pw m ln i (repN m ln i - repK m ln i) = 0 := by
    refine h.cancel (h.pw_lt hi (repK m ln i)) (h.pw_lt hi _) h.lo ?_
    rw [← e, ← h2, h.right _ (h.pw_lt hi _)]
  rcases Nat.eq_zero_or_pos (repK m ln i) with h5 | h5
  · exact h5
  · have h6 := h.repN_min hi (z := repN m ln i - repK m ln i) (by omega)
    have h7 : repB m ln i (repN m ln i - repK m ln i) = true := repB_iff.2 ⟨0, by omega, by rw [h4]; rfl⟩
    rw [h7] at h6
    cases h6
/-- the order of an element of a group: the first power that is the identity -/
theorem Grp.order {m : Nat} {ln : List Nat} (h : Grp m ln) {i : Nat} (hi : i < m) : 1 ≤ repN m ln i ∧ pw m ln i (repN m ln i) = 0 ∧ ∀ n, 1 ≤ n → n < repN m ln i → pw m ln i n ≠ 0 := by
  have h0 := h.repK_zero hi
  obtain ⟨h1, h2, _⟩ := h.repK_spec hi
  rw [h0] at h1 h2
  refine ⟨by omega, h2.symm, fun n hn hlt e => ?_⟩
  have h6 := h.repN_min hi (z := n) hlt
  have h7 : repB m ln i n = true := repB_iff.2 ⟨0, by omega, by rw [e]; rfl⟩
  rw [h7] at h6
  cases h6
theorem groupB_tab {n : Int} {l : List Int} (h : groupB n l = true) : tabB n l = true := by
  simp only [groupB, Bool.and_eq_true] at h
  exact h.1
theorem groupB_out {n : Int} {l : List Int} (h : groupB n l = true) : ∃ m ln, n = (m : Nat) ∧ l = ln.map Int.ofNat ∧ Grp m ln := by
  have ht := groupB_tab h
  obtain ⟨m, ln, rfl, rfl, hT⟩ := tabOk_out ht
  refine ⟨m, ln, rfl, rfl, hT, ?_⟩
  simp only [groupB, Bool.and_eq_true, decide_eq_true_eq] at h
  have h2 := h.2
  unfold unitsOfF at h2
  rw [thoseL_yes ht, map_toNat] at h2
  simp only [Int.toNat_natCast, listTo, List.length_map] at h2
  have h3 : ((List.range m).filter (isUnit m ln)).length = (List.range m).length := by simp; omega
  have h4 := List.length_filter_eq_length_iff.1 h3
  exact fun i hi => h4 i (List.mem_range.2 hi)
end Go.Proofs.YtngbimgabcacpaaGreat
namespace Go.Proofs.YtngbimgabcacpaaGreat
open Go.RowKit
set_option linter.unusedVariables false
set_option maxHeartbeats 400000 in
theorem has_any (m : Nat) (i : Int) (v : Value) (w : World) (hm0 : 1 ≤ m) (hm : m ≤ 40) :
    Calls Tryz.prog 35 #[.agg #[.int .i64 m, v], .int .i64 i] w fun e w' => e = .returned (.bool (inB i 0 ((m : Int) - 1))) ∧ Below w.heap.size w w' := by
  go_enter Tryz.func35, Tryz.ntmps35
  go_wp2_with fail
  refine (within_any _ _ _ _).mono ?_
  rintro e w2 ⟨rfl, rfl⟩
  go_wp2_with fail
  go_ret
  exact ⟨rfl, (Below.refl _ _).alloc (Nat.le_refl _) _⟩
theorem owns_capZ {w : World} {base : Nat} {T : TypeId} {size : Nat} {a : Option Addr} {n m cap : Nat} {xs : List Value} (h : w.ownsRow base T size (.slice a n cap) m xs) : n ≤ cap ∧ cap ≤ maxLen := by
  rcases h.2 with ⟨hv, h0⟩ | ⟨g, cap', cur, hv, hb, hg, hn, hc, r⟩
  · simp only [Value.slice.injEq] at hv
    obtain ⟨_, rfl, rfl⟩ := hv
    exact ⟨Nat.le_refl _, Nat.zero_le _⟩
  · simp only [Value.slice.injEq] at hv
    obtain ⟨_, rfl, rfl⟩ := hv
    exact ⟨hn, hc⟩
def eqZ (x : Int) : Int → Bool := fun y => x == y
theorem eqZ_def (x y : Int) : (x == y) = eqZ x y := rfl
set_option maxHeartbeats 400000 in
theorem indexInts_any (x : Int) (l : List Int) (a : Option Addr) (cap : Nat) (w : World) (hl : IntsIn w a l) (hlen : l.length ≤ 2 ^ 47) :
    Calls Tryz.prog 77 #[.slice a l.length cap, .int .i64 x] w fun e w' => e = .returned (.int .i64 (idxZ (eqZ x) l)) ∧ Below w.heap.size w w' := by
  go_enter Tryz.func77, Tryz.ntmps77
  go_wp2
  go_loopw [8] (fun i wr => ∃ j : Nat, j ≤ l.length ∧ i = .int .i64 j ∧ noneTo (eqZ x) l j ∧ wr = w) (fun i _ => l.length - (intOf i).toNat)
  case atStart => exact ⟨0, Nat.zero_le _, rfl, noneTo_zero _ _, rfl⟩
  case round =>
    obtain ⟨j, hj, rfl, hall, rfl⟩ := hrel
    have H := Lib.hid hall
    clear hall
    by_cases hlt : j < l.length
    · obtain ⟨b, off, rfl, hb, hc⟩ := hl.cell hlt
      have h1 : wr.cell? ⟨b, off + j, none⟩ = some (.int .i64 (nthZ l j)) := hc j hlt
      clear hc
      cases hp : (x == nthZ l j)
      · have F := Lib.hid (noneTo_succ H.out (by rw [← eqZ_def]; exact hp))
        go_wp2_with fail
        go_roundw
        case rel => exact ⟨j + 1, by omega, by go_num, F.out, trivial⟩
        case measure => simp [intOf]; omega
      · have F := Lib.hid (idxZ_at H.out hlt (by rw [← eqZ_def]; exact hp))
        go_wp2_with fail
        go_ret
        exact ⟨ret_int F.out.symm, Below.refl _ _⟩
    · have F := Lib.hid (idxZ_none H.out hlt)
      go_wp2_with fail
      go_ret
      exact ⟨ret_int F.out.symm, Below.refl _ _⟩
/-- a row of a table -/
def rowZ (m : Nat) (ln : List Nat) (i : Nat) : List Int := (List.range m).map fun k => ((tm m ln i k : Nat) : Int)
theorem rowZ_len (m : Nat) (ln : List Nat) (i : Nat) : (rowZ m ln i).length = m := by simp [rowZ]
theorem rowZ_at {m : Nat} {ln : List Nat} {i k : Nat} (h : k < m) : nthZ (rowZ m ln i) k = ((tm m ln i k : Nat) : Int) := by
  rw [nthZ_lt (by rw [rowZ_len]; exact h)]; simp [rowZ]
theorem row_in {m : Nat} {ln : List Nat} {i : Nat} (hT : Tb m ln) (hi : i < m) {w : World} {b off : Nat} (hc : ∀ i k, i < m → k < m → w.cell? ⟨b, off + (i * m + k), none⟩ = some (.int .i64 (tm m ln i k : Nat))) : IntsIn w (some ⟨b, off + i * m, none⟩) (rowZ m ln i) := by
  right
  refine ⟨b, off + i * m, rfl, fun k hk => ?_⟩
  have hk' : k < m := by simpa [rowZ] using hk
  have := hc i k hi hk'
  rw [← Nat.add_assoc] at this
  rw [this]
  simp [rowZ]
theorem idx_inv {m : Nat} {ln : List Nat} (h : Grp m ln) {i : Nat} (hi : i < m) : idxZ (eqZ 0) (rowZ m ln i) = invF m ln i := by
  obtain ⟨k, hk, e1, e2, e3⟩ := h.inv hi
  rw [e3]
  refine idxZ_at (j := k) (fun z hz => ?_) (by rw [rowZ_len]; exact hk) ?_
  · rw [rowZ_at (by omega)]
    cases hb : eqZ 0 ((tm m ln i z : Nat) : Int)
    · rfl
    · have e : tm m ln i z = 0 := by simp [eqZ] at hb; omega
      have := (h.right_inv hi (by omega) e).2
      rw [e3] at this
      omega
  · rw [rowZ_at hk, e1]; rfl
set_option maxHeartbeats 400000 in
theorem inverse_any (m : Nat) (ln : List Nat) (a : Option Addr) (len cap i : Nat) (w : World) (hl : NatsIn w a ln) (hG : Grp m ln) (hlen : len = m * m) (hcap : len ≤ cap) (hc63 : cap ≤ maxLen) (hi : i < m) :
    Calls Tryz.prog 43 #[.agg #[.int .i64 m, .slice a len cap], .int .i64 i] w fun e w' => e = .returned (.int .i64 (invF m ln i)) ∧ Below w.heap.size w w' := by
  obtain ⟨b, off, rfl, hb, hc⟩ := hG.toTb.cell hl
  have hm := hG.hi
  obtain ⟨q, hq⟩ : ∃ q, q = i * m := ⟨_, rfl⟩
  obtain ⟨q2, hq2⟩ : ∃ q2, q2 = (i + 1) * m := ⟨_, rfl⟩
  have hR : Hid (∀ W, Below w.heap.size w W → IntsIn W (some ⟨b, off + q, none⟩) (rowZ m ln i)) := fun W hW => by rw [hq]; exact (row_in hG.toTb hi hc).later hW
  have HI := Lib.hid (idx_inv hG hi)
  have h1 : q ≤ 1600 := by rw [hq]; exact mul_le hm hi
  have h2 : q2 ≤ 1640 := by rw [hq2]; exact Nat.le_trans (Nat.mul_le_mul (show i + 1 ≤ 41 by omega) hm) (by omega)
  have h3 : q2 ≤ cap := by rw [hq2]; exact Nat.le_trans (Nat.mul_le_mul_right m (show i + 1 ≤ m from hi)) (by omega)
  have h4 : q2 = q + m := by rw [hq2, hq, Nat.add_mul]; omega
  have e1 : (i : Int) * (m : Int) = (q : Int) := by rw [hq]; simp
  have e2 : ((i : Int) + 1) * (m : Int) = (q2 : Int) := by rw [hq2]; simp
  have e3 : q2 - q = m := by omega
  unfold maxLen at hc63
  clear hc hl hG hq hq2
  go_enter Tryz.func43, Tryz.ntmps43
  go_wp2_with fail
  have hI := indexInts_any 0 (rowZ m ln i) (some ⟨b, off + q, none⟩) (cap - q) (w.alloc (.cells #[.int .i64 (m : Nat), .slice (some ⟨b, off, none⟩) (m * m) cap] 25)) (hR.out _ ((Below.refl _ _).alloc (Nat.le_refl _) _)) (by rw [rowZ_len]; omega)
  rw [rowZ_len, HI.out] at hI
  refine hI.mono ?_
  rintro e w2 ⟨rfl, hb2⟩
  have hbel := Below.now ((Below.refl w.heap.size w).alloc (Nat.le_refl _) _) hb2
  clear hb2 hI
  go_wp2_with fail
  go_ret
  exact ⟨rfl, hbel⟩
set_option maxHeartbeats 400000 in
theorem power_any (m : Nat) (ln : List Nat) (a : Option Addr) (len cap i n : Nat) (w : World) (hl : NatsIn w a ln) (hT : Tb m ln) (hlen : len = m * m) (hi : i < m) (hn : n ≤ 1000) :
    Calls Tryz.prog 36 #[.agg #[.int .i64 m, .slice a len cap], .int .i64 i, .int .i64 n] w fun e w' => e = .returned (.int .i64 ((pw m ln i n : Nat) : Int)) ∧ Below w.heap.size w w' := by
  have HT := Lib.hid hT
  have HL := Lib.hid hlen
  have HN := Lib.hid hl
  have hm := hT.hi
  clear hl hT hlen
  go_enter Tryz.func36, Tryz.ntmps36
  go_wp2_with fail
  obtain ⟨w1, hw1⟩ : ∃ w1, w1 = w.alloc (.cells #[.int .i64 (m : Nat), .slice a len cap] 25) := ⟨_, rfl⟩
  have hb1 : Below w.heap.size w w1 := by rw [hw1]; exact (Below.refl _ _).alloc (Nat.le_refl _) _
  have hx0 : ∀ W, Below w1.heap.size w1 W → W.cell? ⟨w.heap.size, 0, none⟩ = some (.int .i64 (m : Nat)) := fun W hW => by rw [hW.cell (by rw [hw1]; simp), hw1]; simp
  have hx1 : ∀ W, Below w1.heap.size w1 W → W.cell? ⟨w.heap.size, 1, none⟩ = some (.slice a len cap) := fun W hW => by rw [hW.cell (by rw [hw1]; simp), hw1]; simp
  have HN1 : Hid (∀ W, Below w1.heap.size w1 W → NatsIn W a ln) := fun W hW => (HN.out.later hb1).later hW
  rw [← hw1]
  have HB := Lib.hid hb1
  have hb0 := Below.refl w1.heap.size w1
  clear hw1 hb1 HN
  go_loopw [7, 9] (fun v i' wr => ∃ k : Nat, k ≤ n ∧ i' = .int .i64 k ∧ v = .int .i64 ((pw m ln i k : Nat) : Int) ∧ Below w1.heap.size w1 wr) (fun _ i' _ => n - (intOf i').toNat)
  case atStart => exact ⟨0, Nat.zero_le _, rfl, rfl, Below.refl _ _⟩
  case round =>
    clear hb0
    obtain ⟨k, hk, rfl, rfl, hbw⟩ := hrel
    have HS := Lib.hid (pw_succ m ln i k)
    have hp := HT.out.pw_lt hi k
    by_cases hlt : k < n
    · go_wp2_with fail
      refine (implTimes_any m ln a _ _ (pw m ln i k) i _ (HN1.out _ hbw) HT.out HL.out hp hi).mono ?_
      rintro e w2 ⟨rfl, hb2⟩
      replace hbw := Below.now hbw hb2
      clear hb2
      go_wp2_with fail
      go_roundw
      case rel => exact ⟨k + 1, by omega, by go_num, by rw [HS.out], hbw⟩
      case measure => simp [intOf]; omega
    · obtain rfl : k = n := by omega
      go_wp2_with fail
      go_ret
      exact ⟨rfl, Below.now HB.out hbw⟩
end Go.Proofs.YtngbimgabcacpaaGreat
namespace Go.Proofs.YtngbimgabcacpaaGreat
open Go.RowKit
set_option linter.unusedVariables false
theorem TabG.nats {m : Nat} {l : List Int} (h : TabG m l) : TabOk m (l.map Int.toNat) ∧ (∀ w a, IntsIn w a l → NatsIn w a (l.map Int.toNat)) ∧ l.length = m * m := by
  obtain ⟨ln, rfl, h⟩ := h
  rw [map_toNat]
  exact ⟨h, fun w a h => h, by rw [List.length_map]; exact h.len⟩
theorem TabG.few {m : Nat} {l : List Int} (h : TabG m l) : l.length ≤ 1600 ∧ 1 ≤ m ∧ m ≤ 40 := by
  have h1 := h.nats
  exact ⟨by rw [h1.2.2]; exact sq_le h1.1.hi, h1.1.lo, h1.1.hi⟩
theorem in_has {m i : Nat} (hi : i < m) : inB (i : Int) 0 ((m : Int) - 1) = true := by unfold inB; simp; omega
set_option maxHeartbeats 1000000 in
theorem implIdealOf_ok (m : Nat) (l : List Int) (a : Option Addr) (cap i : Nat) (kind : Int) (w : World) (hl : IntsIn w a l) (hT : TabG m l) (hi : i < m) (hk : inB kind 1 3 = true) :
    Calls Tryz.prog 21 #[.agg #[.int .i64 (m : Nat), .slice a l.length cap], .int .i64 (i : Nat), .int .i64 kind] w (RetSl 3 1 (idLs m (l.map Int.toNat) kind i).length (intVals (idLs m (l.map Int.toNat) kind i)) w) := by
  obtain ⟨hlen, hm1, hm2⟩ := hT.few
  have HB1 := Lib.hid (alloc_belI w (.cells #[.int .i64 (m : Nat), .slice a l.length cap] 25))
  have HX : Hid (∀ W, Below (w.alloc (.cells #[.int .i64 (m : Nat), .slice a l.length cap] 25)).heap.size (w.alloc (.cells #[.int .i64 (m : Nat), .slice a l.length cap] 25)) W → W.cell? ⟨w.heap.size, 0, none⟩ = some (.int .i64 (m : Nat)) ∧ W.cell? ⟨w.heap.size, 1, none⟩ = some (.slice a l.length cap)) := Lib.hid (fun W hW => ⟨by rw [hW.cell (by simp)]; simp, by rw [hW.cell (by simp)]; simp⟩)
  have HTO := Lib.hid (fun W (h : IntsIn W a l) => implTableOk_any (m : Nat) l a cap W h (by omega))
  rw [hT.tab] at HTO
  have HHI := Lib.hid (fun W => has_any m (i : Int) (.slice a l.length cap) W hm1 hm2)
  rw [in_has hi] at HHI
  have HIN := Lib.hid (fun W => within_any kind 1 3 W)
  rw [hk] at HIN
  have HTM := Lib.hid (fun W (h : IntsIn W a l) => implIdeal_any m _ a l.length cap i kind W (hT.nats.2.1 W a h) hT.nats.1.toTb hT.nats.2.2 hi)
  have HL := Lib.hid hl
  generalize idLs m (l.map Int.toNat) kind i = I at *
  clear hl hT hk
  go_enter Tryz.func21, Tryz.ntmps21
  go_wp2_with fail
  generalize w.alloc (.cells #[.int .i64 (m : Nat), .slice a l.length cap] 25) = w1 at *
  refine (HTO.out _ (HL.out.later HB1.out)).mono ?_
  rintro e w2 ⟨rfl, hb2⟩
  have HB2 := Lib.hid hb2
  obtain ⟨z0, z1⟩ := HX.out _ hb2
  clear hb2
  go_wp2_with fail
  refine (HHI.out _).mono ?_
  rintro e w3 ⟨rfl, hb3⟩
  have HB3 := Lib.hid (Below.now HB2.out hb3)
  clear hb3 z0 z1
  obtain ⟨z0, z1⟩ := HX.out _ HB3.out
  go_wp2_with fail
  refine (HIN.out _).mono ?_
  rintro e w4 ⟨rfl, rfl⟩
  go_wp2_with fail
  refine (HTM.out _ (HL.out.later (Below.now HB1.out HB3.out))).mono ?_
  rintro e w5 ⟨a2, c2, rfl, ho, hb5⟩
  have F : Hid (RetSl 3 1 I.length (intVals I) w (.returned (.slice a2 I.length c2)) w5) := Lib.hid ⟨_, _, rfl, owns_mono ho (Below.now HB1.out HB3.out).size, Below.now (Below.now HB1.out HB3.out) hb5⟩
  clear ho hb5 z0 z1
  go_wp2_with fail
  go_ret
  exact F.out
set_option maxHeartbeats 1000000 in
theorem implAreRelated_ok (m : Nat) (l : List Int) (a : Option Addr) (cap i k : Nat) (kind : Int) (w : World) (hl : IntsIn w a l) (hT : TabG m l) (hi : i < m) (hk : k < m) (hkd : inB kind 1 4 = true) :
    Calls Tryz.prog 25 #[.agg #[.int .i64 (m : Nat), .slice a l.length cap], .int .i64 (i : Nat), .int .i64 (k : Nat), .int .i64 kind] w fun e w' => e = .returned (.bool (relK m (l.map Int.toNat) kind i k)) ∧ Below w.heap.size w w' := by
  obtain ⟨hlen, hm1, hm2⟩ := hT.few
  have HB1 := Lib.hid (alloc_belI w (.cells #[.int .i64 (m : Nat), .slice a l.length cap] 25))
  have HX : Hid (∀ W, Below (w.alloc (.cells #[.int .i64 (m : Nat), .slice a l.length cap] 25)).heap.size (w.alloc (.cells #[.int .i64 (m : Nat), .slice a l.length cap] 25)) W → W.cell? ⟨w.heap.size, 0, none⟩ = some (.int .i64 (m : Nat)) ∧ W.cell? ⟨w.heap.size, 1, none⟩ = some (.slice a l.length cap)) := Lib.hid (fun W hW => ⟨by rw [hW.cell (by simp)]; simp, by rw [hW.cell (by simp)]; simp⟩)
  have HTO := Lib.hid (fun W (h : IntsIn W a l) => implTableOk_any (m : Nat) l a cap W h (by omega))
  rw [hT.tab] at HTO
  have HHI := Lib.hid (fun W => has_any m (i : Int) (.slice a l.length cap) W hm1 hm2)
  rw [in_has hi] at HHI
  have HHK := Lib.hid (fun W => has_any m (k : Int) (.slice a l.length cap) W hm1 hm2)
  rw [in_has hk] at HHK
  have HIN := Lib.hid (fun W => within_any kind 1 4 W)
  rw [hkd] at HIN
  have HTM := Lib.hid (fun W (h : IntsIn W a l) => implRelated_any m _ a l.length cap i k kind W (hT.nats.2.1 W a h) hT.nats.1.toTb hT.nats.2.2 hi hk)
  have HL := Lib.hid hl
  generalize relK m (l.map Int.toNat) kind i k = r at *
  clear hl hT hkd
  go_enter Tryz.func25, Tryz.ntmps25
  go_wp2_with fail
  generalize w.alloc (.cells #[.int .i64 (m : Nat), .slice a l.length cap] 25) = w1 at *
  refine (HTO.out _ (HL.out.later HB1.out)).mono ?_
  rintro e w2 ⟨rfl, hb2⟩
  have HB2 := Lib.hid hb2
  obtain ⟨z0, z1⟩ := HX.out _ hb2
  clear hb2
  go_wp2_with fail
  refine (HHI.out _).mono ?_
  rintro e w3 ⟨rfl, hb3⟩
  have HB3 := Lib.hid (Below.now HB2.out hb3)
  clear hb3 z0 z1
  obtain ⟨z0, z1⟩ := HX.out _ HB3.out
  go_wp2_with fail
  refine (HHK.out _).mono ?_
  rintro e w4 ⟨rfl, hb4⟩
  have HB4 := Lib.hid (Below.now HB3.out hb4)
  clear hb4 z0 z1
  obtain ⟨z0, z1⟩ := HX.out _ HB4.out
  go_wp2_with fail
  refine (HIN.out _).mono ?_
  rintro e w5 ⟨rfl, rfl⟩
  go_wp2_with fail
  refine (HTM.out _ (HL.out.later (Below.now HB1.out HB4.out))).mono ?_
  rintro e w5 ⟨rfl, hb5⟩
  have HB5 := Lib.hid (Below.now (Below.now HB1.out HB4.out) hb5)
  clear hb5 z0 z1
  go_wp2_with fail
  go_ret
  exact ⟨rfl, HB5.out⟩
set_option maxHeartbeats 1000000 in
theorem implIsBelow_ok (m : Nat) (l : List Int) (a : Option Addr) (cap i k : Nat) (w : World) (hl : IntsIn w a l) (hT : TabG m l) (hi : i < m) (hk : k < m) :
    Calls Tryz.prog 23 #[.agg #[.int .i64 (m : Nat), .slice a l.length cap], .int .i64 (i : Nat), .int .i64 (k : Nat)] w fun e w' => e = .returned (.bool (decide (((i : Nat) : Int) ∈ idLs m (l.map Int.toNat) 3 k))) ∧ Below w.heap.size w w' := by
  obtain ⟨hlen, hm1, hm2⟩ := hT.few
  have HB1 := Lib.hid (alloc_belI w (.cells #[.int .i64 (m : Nat), .slice a l.length cap] 25))
  have HX : Hid (∀ W, Below (w.alloc (.cells #[.int .i64 (m : Nat), .slice a l.length cap] 25)).heap.size (w.alloc (.cells #[.int .i64 (m : Nat), .slice a l.length cap] 25)) W → W.cell? ⟨w.heap.size, 0, none⟩ = some (.int .i64 (m : Nat)) ∧ W.cell? ⟨w.heap.size, 1, none⟩ = some (.slice a l.length cap)) := Lib.hid (fun W hW => ⟨by rw [hW.cell (by simp)]; simp, by rw [hW.cell (by simp)]; simp⟩)
  have HTO := Lib.hid (fun W (h : IntsIn W a l) => implTableOk_any (m : Nat) l a cap W h (by omega))
  rw [hT.tab] at HTO
  have HHI := Lib.hid (fun W => has_any m (i : Int) (.slice a l.length cap) W hm1 hm2)
  rw [in_has hi] at HHI
  have HHK := Lib.hid (fun W => has_any m (k : Int) (.slice a l.length cap) W hm1 hm2)
  rw [in_has hk] at HHK
  have HTM := Lib.hid (fun W (h : IntsIn W a l) => implIdeal_any m _ a l.length cap k 3 W (hT.nats.2.1 W a h) hT.nats.1.toTb hT.nats.2.2 hk)
  have HL := Lib.hid hl
  have hil := idLs_len (m := m) (ln := l.map Int.toNat) 3 k
  generalize idLs m (l.map Int.toNat) 3 k = I at *
  have HCN := Lib.hid (fun ay cy W (h : IntsIn W ay I) => containsI_any I ay cy (i : Nat) W h (by omega))
  clear hl hT
  go_enter Tryz.func23, Tryz.ntmps23
  go_wp2_with fail
  generalize w.alloc (.cells #[.int .i64 (m : Nat), .slice a l.length cap] 25) = w1 at *
  refine (HTO.out _ (HL.out.later HB1.out)).mono ?_
  rintro e w2 ⟨rfl, hb2⟩
  have HB2 := Lib.hid hb2
  obtain ⟨z0, z1⟩ := HX.out _ hb2
  clear hb2
  go_wp2_with fail
  refine (HHI.out _).mono ?_
  rintro e w3 ⟨rfl, hb3⟩
  have HB3 := Lib.hid (Below.now HB2.out hb3)
  clear hb3 z0 z1
  obtain ⟨z0, z1⟩ := HX.out _ HB3.out
  go_wp2_with fail
  refine (HHK.out _).mono ?_
  rintro e w4 ⟨rfl, hb4⟩
  have HB4 := Lib.hid (Below.now HB3.out hb4)
  clear hb4 z0 z1
  obtain ⟨z0, z1⟩ := HX.out _ HB4.out
  go_wp2_with fail
  refine (HTM.out _ (HL.out.later (Below.now HB1.out HB4.out))).mono ?_
  rintro e w5 ⟨a2, c2, rfl, ho, hb5⟩
  have HB5 := Lib.hid (Below.now (Below.now HB1.out HB4.out) hb5)
  have HI5 := Lib.hid (owns_ints (l := I) ho)
  clear hb5 z0 z1 ho
  go_wp2_with fail
  refine (HCN.out _ _ _ HI5.out).mono ?_
  rintro e w6 ⟨rfl, rfl⟩
  go_wp2_with fail
  go_ret
  exact ⟨rfl, HB5.out⟩
set_option maxHeartbeats 2000000 in
theorem implLeastIdeal_ok (m : Nat) (l : List Int) (a : Option Addr) (cap : Nat) (w : World) (hl : IntsIn w a l) (hT : TabG m l) :
    Calls Tryz.prog 22 #[.agg #[.int .i64 (m : Nat), .slice a l.length cap]] w (RetSl 3 1 (idLs m (l.map Int.toNat) 3 (leastTo m (l.map Int.toNat) m)).length (intVals (idLs m (l.map Int.toNat) 3 (leastTo m (l.map Int.toNat) m))) w) := by
  obtain ⟨hlen, hm1, hm2⟩ := hT.few
  have HB1 := Lib.hid (alloc_belI w (.cells #[.int .i64 (m : Nat), .slice a l.length cap] 25))
  have HX : Hid (∀ W, Below (w.alloc (.cells #[.int .i64 (m : Nat), .slice a l.length cap] 25)).heap.size (w.alloc (.cells #[.int .i64 (m : Nat), .slice a l.length cap] 25)) W → W.cell? ⟨w.heap.size, 0, none⟩ = some (.int .i64 (m : Nat)) ∧ W.cell? ⟨w.heap.size, 1, none⟩ = some (.slice a l.length cap)) := Lib.hid (fun W hW => ⟨by rw [hW.cell (by simp)]; simp, by rw [hW.cell (by simp)]; simp⟩)
  have HTO := Lib.hid (fun W (h : IntsIn W a l) => implTableOk_any (m : Nat) l a cap W h (by omega))
  rw [hT.tab] at HTO
  have HTM := Lib.hid (fun i W (h : IntsIn W a l) hi => implIdeal_any m _ a l.length cap i 3 W (hT.nats.2.1 W a h) hT.nats.1.toTb hT.nats.2.2 hi)
  have HT0 := Lib.hid (HTM.out 0)
  have HL := Lib.hid hl
  generalize hz : l.map Int.toNat = zn at *
  have HLN := Lib.hid (fun i => idLs_len (m := m) (ln := zn) 3 i)
  clear hl hT hz
  go_enter Tryz.func22, Tryz.ntmps22
  go_wp2_with fail
  generalize w.alloc (.cells #[.int .i64 (m : Nat), .slice a l.length cap] 25) = w1 at *
  refine (HTO.out _ (HL.out.later HB1.out)).mono ?_
  rintro e w2 ⟨rfl, hb2⟩
  have HB2 := Lib.hid hb2
  obtain ⟨z0, z1⟩ := HX.out _ hb2
  clear hb2
  go_wp2_with fail
  refine (HT0.out _ (HL.out.later (Below.now HB1.out HB2.out)) hm1).mono ?_
  rintro e w3 ⟨a3, c3, rfl, ho3, hb3⟩
  have HB3 := Lib.hid (Below.now HB2.out hb3)
  have HS3 : Hid (RetSl 3 1 (idLs m zn 3 (leastTo m zn 0)).length (intVals (idLs m zn 3 (leastTo m zn 0))) w (.returned (.slice a3 (idLs m zn 3 0).length c3)) w3) := Lib.hid ⟨_, _, rfl, owns_mono ho3 (Below.now HB1.out HB2.out).size, Below.now HB1.out HB3.out⟩
  clear ho3 hb3 z0 z1
  obtain ⟨z0, z1⟩ := HX.out _ HB3.out
  go_wp2_with fail
  go_loopw [3, 13] (fun v i wr => ∃ c : Nat, c ≤ m ∧ i = .int .i64 (c : Nat) ∧ Below w1.heap.size w1 wr ∧ RetSl 3 1 (idLs m zn 3 (leastTo m zn c)).length (intVals (idLs m zn 3 (leastTo m zn c))) w (.returned v) wr) (fun _ i _ => m - (intOf i).toNat)
  case atStart => exact ⟨0, Nat.zero_le _, rfl, HB3.out, HS3.out⟩
  case round =>
    clear HS3 HB3 z0 z1
    obtain ⟨c, hc, rfl, hbr, a4, c4, he, ho4, hb4⟩ := hrel
    obtain rfl := Ending.returned.inj he
    have HBR := Lib.hid hbr
    have HO4 := Lib.hid ho4
    have HB4 := Lib.hid hb4
    obtain ⟨z0, z1⟩ := HX.out _ hbr
    clear hbr ho4 hb4 he
    by_cases hlt : c < m
    · have hll := HLN.out c
      have hlb := HLN.out (leastTo m zn c)
      have HS : Hid (leastTo m zn (c + 1) = bestI m zn (leastTo m zn c) c) := Lib.hid rfl
      go_wp2_with fail
      refine (HTM.out c _ (HL.out.later (Below.now HB1.out HBR.out)) hlt).mono ?_
      rintro e w5 ⟨a5, c5, rfl, ho5, hb5⟩
      have HB5 := Lib.hid (Below.now HBR.out hb5)
      by_cases hq : (idLs m zn 3 c).length < (idLs m zn 3 (leastTo m zn c)).length
      · have F : Hid (RetSl 3 1 (idLs m zn 3 (leastTo m zn (c + 1))).length (intVals (idLs m zn 3 (leastTo m zn (c + 1)))) w (.returned (.slice a5 (idLs m zn 3 c).length c5)) w5) := Lib.hid (by
          rw [HS.out, show bestI m zn (leastTo m zn c) c = c from if_pos hq]
          exact ⟨_, _, rfl, owns_mono ho5 HB4.out.size, Below.now HB4.out hb5⟩)
        clear ho5 hb5 z0 z1 HS
        generalize (idLs m zn 3 c).length = q1 at *
        generalize (idLs m zn 3 (leastTo m zn c)).length = q2 at *
        go_wp2_with fail
        go_roundw
        case rel => exact ⟨c + 1, by omega, by go_num, HB5.out, F.out⟩
        case measure => simp [intOf]; omega
      · have F : Hid (RetSl 3 1 (idLs m zn 3 (leastTo m zn (c + 1))).length (intVals (idLs m zn 3 (leastTo m zn (c + 1)))) w (.returned (.slice a4 (idLs m zn 3 (leastTo m zn c)).length c4)) w5) := Lib.hid (by
          rw [HS.out, show bestI m zn (leastTo m zn c) c = leastTo m zn c from if_neg hq]
          exact ⟨_, _, rfl, owns_later HO4.out hb5, Below.now HB4.out hb5⟩)
        clear ho5 hb5 z0 z1 HS
        generalize (idLs m zn 3 c).length = q1 at *
        go_wp2_with fail
        go_roundw
        case rel => exact ⟨c + 1, by omega, by go_num, HB5.out, F.out⟩
        case measure => simp [intOf]; omega
    · obtain rfl : c = m := by omega
      have F : Hid (RetSl 3 1 (idLs c zn 3 (leastTo c zn c)).length (intVals (idLs c zn 3 (leastTo c zn c))) w (.returned (.slice a4 (idLs c zn 3 (leastTo c zn c)).length c4)) wr) := Lib.hid ⟨_, _, rfl, HO4.out, HB4.out⟩
      go_wp2_with fail
      go_ret
      exact F.out
end Go.Proofs.YtngbimgabcacpaaGreat
namespace Go.Proofs.YtngbimgabcacpaaGreat
open Go.RowKit
set_option linter.unusedVariables false
theorem clz_form {m : Nat} {l : List Int} {kind : Int} (h : TabG m l) (hk : inB kind 1 4 = true) : clzF (m : Nat) l kind = numO (relK m (l.map Int.toNat) kind) m := by
  obtain ⟨ln, rfl, hT⟩ := h
  rw [clzF_yes (TabG.tab ⟨ln, rfl, hT⟩) hk, map_toNat]
theorem clz_len {m : Nat} {l : List Int} {kind : Int} (h : TabG m l) (hk : inB kind 1 4 = true) : (clzF (m : Nat) l kind).length = m := by rw [clz_form h hk, numO_len]
theorem clz_same {m : Nat} {l : List Int} {kind : Int} (h : TabG m l) (hk : inB kind 1 4 = true) {i k : Nat} (hi : i < m) (hk2 : k < m) : (nthZ (clzF (m : Nat) l kind) i == nthZ (clzF (m : Nat) l kind) k) = relK m (l.map Int.toNat) kind i k := by
  rw [clz_form h hk, Bool.eq_iff_iff, beq_iff_eq]
  exact num_same (eqv_rel m _ kind) hi hk2
theorem clz_one {m : Nat} {l : List Int} {kind : Int} (h : TabG m l) (hk : inB kind 1 4 = true) : 1 ≤ cntF (clzF (m : Nat) l kind) :=
  cnt_one (by rw [clz_len h hk]; have := h.few; omega) fun x hx => (clzF_small hx).1
theorem num_finer_to {p q : Nat → Nat → Bool} {m : Nat} (hp : EqvB p) (hq : EqvB q) (h : ∀ i k, i < m → k < m → p i k = true → q i k = true) : ∀ c, c ≤ m → (numF q c).length ≤ (numF p c).length
  | 0, _ => Nat.le_refl _
  | c + 1, hc => by
    have ih := num_finer_to hp hq h c (by omega)
    rw [numF_succ, numF_succ]
    cases h1 : (numF q c).any (q c)
    · have h2 : (numF p c).any (p c) = false := (num_new hp c).2 fun j hj => by
        rw [Bool.eq_false_iff]
        intro h3
        have := (num_new hq c).1 h1 j hj
        rw [h c j (by omega) (by omega) h3] at this
        cases this
      rw [h2]
      simp
      exact ih
    · cases h2 : (numF p c).any (p c)
      · simp; omega
      · simp; exact ih
theorem clz_more {m : Nat} {l : List Int} (h : TabG m l) : cntF (clzF (m : Nat) l 3) ≤ cntF (clzF (m : Nat) l 4) := by
  rw [clz_form h (by decide), clz_form h (by decide), num_count, num_count]
  exact Int.ofNat_le.2 (num_finer_to (eqv_rel m _ 4) (eqv_rel m _ 3) (fun i k hi hk => rel_43 h.nats.1 hi hk) m (Nat.le_refl _))
theorem zero_law {m : Nat} {l : List Int} (h : TabG m l) : decide (0 ≤ zeroF (m : Nat) l) = decide ((idLs m (l.map Int.toNat) 3 (leastTo m (l.map Int.toNat) m)).length = 1) := by
  rw [decide_eq_decide, zero_iff h, zero_least h.nats.1]
end Go.Proofs.YtngbimgabcacpaaGreat
