/-
  The laws' own functions over rows of numbers: count, has, same; and ProductOf at a valid table.
-/
import Derived.Test.YtggfhephdcnpcaaGreatGrp39
import Derived.Test.YtggfhephdcnpcaaGreatGrp32
import Derived.Test.YtggfhephdcnpcaaGreatGrp40
namespace Go.Proofs.YtggfhephdcnpcaaGreat
open Go.RowKit
set_option linter.unusedVariables false
/-- more pigeons than holes -/
theorem php : ∀ (m : Nat) (f : Nat → Nat), (∀ i, i ≤ m → f i < m) → ∃ i j, i < j ∧ j ≤ m ∧ f i = f j
  | 0, f, h => absurd (h 0 (Nat.le_refl _)) (Nat.not_lt_zero _)
  | m + 1, f, h => by
    by_cases he : ∃ i, i ≤ m ∧ f i = f (m + 1)
    · obtain ⟨i, hi, e⟩ := he
      exact ⟨i, m + 1, by omega, Nat.le_refl _, e⟩
    · have hne : ∀ i, i ≤ m → f i ≠ f (m + 1) := fun i hi e => he ⟨i, hi, e⟩
      obtain ⟨i, j, hij, hj, e⟩ := php m (fun i => if f i = m then f (m + 1) else f i) (fun i hi => by
        have h1 := h i (by omega)
        have h2 := h (m + 1) (Nat.le_refl _)
        have h3 := hne i hi
        by_cases e : f i = m
        · simp only [e, if_true]; omega
        · simp only [e, if_false]; omega)
      have h1 := hne i (by omega)
      have h2 := hne j hj
      refine ⟨i, j, hij, by omega, ?_⟩
      by_cases e1 : f i = m <;> by_cases e2 : f j = m <;> simp [e1, e2] at e <;> omega
/-- the powers of an element -/
def pw (m : Nat) (ln : List Nat) (i : Nat) : Nat → Nat
  | 0 => 0
  | n + 1 => tm m ln (pw m ln i n) i
theorem pw_zero (m : Nat) (ln : List Nat) (i : Nat) : pw m ln i 0 = 0 := rfl
theorem pw_succ (m : Nat) (ln : List Nat) (i n : Nat) : pw m ln i (n + 1) = tm m ln (pw m ln i n) i := rfl
theorem Tb.pw_lt {m : Nat} {ln : List Nat} (h : Tb m ln) {i : Nat} (hi : i < m) : ∀ n, pw m ln i n < m
  | 0 => h.lo
  | n + 1 => h.tm_lt (h.pw_lt hi n) hi
theorem TabOk.pw_add {m : Nat} {ln : List Nat} (h : TabOk m ln) {i : Nat} (hi : i < m) (a : Nat) : ∀ b, pw m ln i (a + b) = tm m ln (pw m ln i a) (pw m ln i b)
  | 0 => by rw [Nat.add_zero, pw_zero, h.right _ (h.pw_lt hi a)]
  | b + 1 => by
    rw [← Nat.add_assoc, pw_succ, h.pw_add hi a b, pw_succ, h.assoc _ _ _ (h.pw_lt hi a) (h.pw_lt hi b) hi]
/-- the power n was there before -/
def repB (m : Nat) (ln : List Nat) (i n : Nat) : Bool := (List.range n).any fun k => decide (pw m ln i k = pw m ln i n)
theorem repB_iff {m : Nat} {ln : List Nat} {i n : Nat} : repB m ln i n = true ↔ ∃ k, k < n ∧ pw m ln i k = pw m ln i n := by simp [repB]
theorem Tb.rep {m : Nat} {ln : List Nat} (h : Tb m ln) {i : Nat} (hi : i < m) : ∃ n, n ≤ m ∧ repB m ln i n = true := by
  obtain ⟨k, n, hk, hn, e⟩ := php m (pw m ln i) (fun n _ => h.pw_lt hi n)
  exact ⟨n, hn, repB_iff.2 ⟨k, hk, e⟩⟩
/-- the first number that has a property, of those up to m -/
def firstN (p : Nat → Bool) (m : Nat) : Nat := ((List.range (m + 1)).find? p).getD 0
theorem firstN_spec {p : Nat → Bool} {m n : Nat} (hn : n ≤ m) (hp : p n = true) : p (firstN p m) = true ∧ firstN p m ≤ n ∧ ∀ z, z < firstN p m → p z = false := by
  unfold firstN
  cases h : (List.range (m + 1)).find? p
  · rw [List.find?_eq_none] at h
    have := h n (by simp; omega)
    simp [hp] at this
  · rename_i k
    rw [List.find?_eq_some_iff_getElem] at h
    obtain ⟨h1, j, hj, h2, h3⟩ := h
    simp only [List.getElem_range] at h2 h3
    subst h2
    simp only [Option.getD_some]
    refine ⟨h1, ?_, fun z hz => by simpa using h3 z hz⟩
    rcases Nat.lt_or_ge n j with hlt | hge
    · have := h3 n hlt
      simp [hp] at this
    · exact hge
def repN (m : Nat) (ln : List Nat) (i : Nat) : Nat := firstN (repB m ln i) m
def repK (m : Nat) (ln : List Nat) (i : Nat) : Nat := firstN (fun k => decide (pw m ln i k = pw m ln i (repN m ln i))) m
theorem Tb.repN_le {m : Nat} {ln : List Nat} (h : Tb m ln) {i : Nat} (hi : i < m) : repN m ln i ≤ m := by
  obtain ⟨n, hn, hp⟩ := h.rep hi
  exact Nat.le_trans (firstN_spec hn hp).2.1 hn
theorem Tb.repN_rep {m : Nat} {ln : List Nat} (h : Tb m ln) {i : Nat} (hi : i < m) : repB m ln i (repN m ln i) = true := by
  obtain ⟨n, hn, hp⟩ := h.rep hi
  exact (firstN_spec hn hp).1
theorem Tb.repN_min {m : Nat} {ln : List Nat} (h : Tb m ln) {i : Nat} (hi : i < m) {z : Nat} (hz : z < repN m ln i) : repB m ln i z = false := by
  obtain ⟨n, hn, hp⟩ := h.rep hi
  exact (firstN_spec hn hp).2.2 z hz
theorem Tb.repK_spec {m : Nat} {ln : List Nat} (h : Tb m ln) {i : Nat} (hi : i < m) : repK m ln i < repN m ln i ∧ pw m ln i (repK m ln i) = pw m ln i (repN m ln i) ∧ ∀ z, z < repK m ln i → pw m ln i z ≠ pw m ln i (repN m ln i) := by
  obtain ⟨k, hk, e⟩ := repB_iff.1 (h.repN_rep hi)
  have h1 := firstN_spec (p := fun k => decide (pw m ln i k = pw m ln i (repN m ln i))) (m := m) (n := k) (by have := h.repN_le hi; omega) (by simpa using e)
  refine ⟨?_, by simpa [repK] using h1.1, fun z hz => by simpa using h1.2.2 z hz⟩
  have : repK m ln i ≤ k := h1.2.1
  omega
/-- a group -/
structure Grp (m : Nat) (ln : List Nat) : Prop extends TabOk m ln where
  unit : ∀ i, i < m → isUnit m ln i = true
theorem Grp.inv {m : Nat} {ln : List Nat} (h : Grp m ln) {i : Nat} (hi : i < m) : ∃ k, k < m ∧ tm m ln i k = 0 ∧ tm m ln k i = 0 ∧ invF m ln i = (k : Nat) := by
  have h1 := h.unit i hi
  rw [← invF_unit] at h1
  rcases invF_lt (m := m) (ln := ln) (i := i) with h2 | ⟨k, h2, h3, h4⟩
  · rw [h2] at h1; simp at h1
  · simp [invB] at h4
    exact ⟨k, h3, h4.1, h4.2, h2⟩
theorem Grp.right_inv {m : Nat} {ln : List Nat} (h : Grp m ln) {i k : Nat} (hi : i < m) (hk : k < m) (e : tm m ln i k = 0) : tm m ln k i = 0 ∧ invF m ln i = (k : Nat) := by
  obtain ⟨k', hk', e1, e2, e3⟩ := h.inv hi
  have : k = k' := by
    have h1 := h.assoc k' i k hk' hi hk
    rw [e2, e, h.left k hk, h.right k' hk'] at h1
    exact h1
  subst this
  exact ⟨e2, e3⟩
theorem Grp.cancel {m : Nat} {ln : List Nat} (h : Grp m ln) {x a b : Nat} (hx : x < m) (ha : a < m) (hb : b < m) (e : tm m ln x a = tm m ln x b) : a = b := by
  obtain ⟨k, hk, _, e2, _⟩ := h.inv hx
  have h1 := h.assoc k x a hk hx ha
  have h2 := h.assoc k x b hk hx hb
  rw [e2, h.left a ha] at h1
  rw [e2, h.left b hb] at h2
  rw [h1, h2, e]
theorem Grp.repK_zero {m : Nat} {ln : List Nat} (h : Grp m ln) {i : Nat} (hi : i < m) : repK m ln i = 0 := by
  obtain ⟨h1, h2, h3⟩ := h.repK_spec hi
  have e : pw m ln i (repN m ln i) = tm m ln (pw m ln i (repK m ln i)) (pw m ln i (repN m ln i - repK m ln i)) := by
    rw [← h.pw_add hi]; congr 1; omega
  have h4 : pw m ln i (repN m ln i - repK m ln i) = 0 := by
    refine h.cancel (h.pw_lt hi (repK m ln i)) (h.pw_lt hi _) h.lo ?_
    rw [← e, ← h2, h.right _ (h.pw_lt hi _)]
  rcases Nat.eq_zero_or_pos (repK m ln i) with h5 | h5
  · exact h5
  · have h6 := h.repN_min hi (z := repN m ln i - repK m ln i) (by omega)
    have h7 : repB m ln i (repN m ln i - repK m ln i) = true := repB_iff.2 ⟨0, by omega, by rw [h4]; rfl⟩
    rw [h7] at h6
    cases h6
/-- the order of an element of a group: the first power that is the identity -/
theorem Grp.order {m : Nat} {ln : List Nat} (h : Grp m ln) {i : Nat} (hi : i < m) : 1 ≤ repN m ln i ∧ pw m ln i (repN m ln i) = 0 ∧ ∀ n, 1 ≤ n → n < repN m ln i → pw m ln i n ≠ 0 := by
  have h0 := h.repK_zero hi
  obtain ⟨h1, h2, _⟩ := h.repK_spec hi
  rw [h0] at h1 h2
  refine ⟨by omega, h2.symm, fun n hn hlt e => ?_⟩
  have h6 := h.repN_min hi (z := n) hlt
  have h7 : repB m ln i n = true := repB_iff.2 ⟨0, by omega, by rw [e]; rfl⟩
  rw [h7] at h6
  cases h6
theorem groupB_tab {n : Int} {l : List Int} (h : groupB n l = true) : tabB n l = true := by
  simp only [groupB, Bool.and_eq_true] at h
  exact h.1
theorem groupB_out {n : Int} {l : List Int} (h : groupB n l = true) : ∃ m ln, n = (m : Nat) ∧ l = ln.map Int.ofNat ∧ Grp m ln := by
  have ht := groupB_tab h
  obtain ⟨m, ln, rfl, rfl, hT⟩ := tabOk_out ht
  refine ⟨m, ln, rfl, rfl, hT, ?_⟩
  simp only [groupB, Bool.and_eq_true, decide_eq_true_eq] at h
  have h2 := h.2
  unfold unitsOfF at h2
  rw [thoseL_yes ht, map_toNat] at h2
  simp only [Int.toNat_natCast, listTo, List.length_map] at h2
  have h3 : ((List.range m).filter (isUnit m ln)).length = (List.range m).length := by simp; omega
  have h4 := List.length_filter_eq_length_iff.1 h3
  exact fun i hi => h4 i (List.mem_range.2 hi)
end Go.Proofs.YtggfhephdcnpcaaGreat
namespace Go.Proofs.YtggfhephdcnpcaaGreat
open Go.RowKit
set_option linter.unusedVariables false
set_option maxHeartbeats 400000 in
theorem has_any (m : Nat) (i : Int) (v : Value) (w : World) (hm0 : 1 ≤ m) (hm : m ≤ 40) :
    Calls Tryz.prog 40 #[.agg #[.int .i64 m, v], .int .i64 i] w fun e w' => e = .returned (.bool (inB i 0 ((m : Int) - 1))) ∧ Below w.heap.size w w' := by
  go_enter Tryz.func40, Tryz.ntmps40
  go_wp2_with fail
  refine (within_any _ _ _ _).mono ?_
  rintro e w2 ⟨rfl, rfl⟩
  go_wp2_with fail
  go_ret
  exact ⟨rfl, (Below.refl _ _).alloc (Nat.le_refl _) _⟩
theorem owns_capZ {w : World} {base : Nat} {T : TypeId} {size : Nat} {a : Option Addr} {n m cap : Nat} {xs : List Value} (h : w.ownsRow base T size (.slice a n cap) m xs) : n ≤ cap ∧ cap ≤ maxLen := by
  rcases h.2 with ⟨hv, h0⟩ | ⟨g, cap', cur, hv, hb, hg, hn, hc, r⟩
  · simp only [Value.slice.injEq] at hv
    obtain ⟨_, rfl, rfl⟩ := hv
    exact ⟨Nat.le_refl _, Nat.zero_le _⟩
  · simp only [Value.slice.injEq] at hv
    obtain ⟨_, rfl, rfl⟩ := hv
    exact ⟨hn, hc⟩
def eqZ (x : Int) : Int → Bool := fun y => x == y
theorem eqZ_def (x y : Int) : (x == y) = eqZ x y := rfl
set_option maxHeartbeats 400000 in
theorem indexInts_any (x : Int) (l : List Int) (a : Option Addr) (cap : Nat) (w : World) (hl : IntsIn w a l) (hlen : l.length ≤ 2 ^ 47) :
    Calls Tryz.prog 79 #[.slice a l.length cap, .int .i64 x] w fun e w' => e = .returned (.int .i64 (idxZ (eqZ x) l)) ∧ Below w.heap.size w w' := by
  go_enter Tryz.func79, Tryz.ntmps79
  go_wp2
  go_loopw [8] (fun i wr => ∃ j : Nat, j ≤ l.length ∧ i = .int .i64 j ∧ noneTo (eqZ x) l j ∧ wr = w) (fun i _ => l.length - (intOf i).toNat)
  case atStart => exact ⟨0, Nat.zero_le _, rfl, noneTo_zero _ _, rfl⟩
  case round =>
    obtain ⟨j, hj, rfl, hall, rfl⟩ := hrel
    have H := Lib.hid hall
    clear hall
    by_cases hlt : j < l.length
    · obtain ⟨b, off, rfl, hb, hc⟩ := hl.cell hlt
      have h1 : wr.cell? ⟨b, off + j, none⟩ = some (.int .i64 (nthZ l j)) := hc j hlt
      clear hc
      cases hp : (x == nthZ l j)
      · have F := Lib.hid (noneTo_succ H.out (by rw [← eqZ_def]; exact hp))
        go_wp2_with fail
        go_roundw
        case rel => exact ⟨j + 1, by omega, by go_num, F.out, trivial⟩
        case measure => simp [intOf]; omega
      · have F := Lib.hid (idxZ_at H.out hlt (by rw [← eqZ_def]; exact hp))
        go_wp2_with fail
        go_ret
        exact ⟨ret_int F.out.symm, Below.refl _ _⟩
    · have F := Lib.hid (idxZ_none H.out hlt)
      go_wp2_with fail
      go_ret
      exact ⟨ret_int F.out.symm, Below.refl _ _⟩
/-- a row of a table -/
def rowZ (m : Nat) (ln : List Nat) (i : Nat) : List Int := (List.range m).map fun k => ((tm m ln i k : Nat) : Int)
theorem rowZ_len (m : Nat) (ln : List Nat) (i : Nat) : (rowZ m ln i).length = m := by simp [rowZ]
theorem rowZ_at {m : Nat} {ln : List Nat} {i k : Nat} (h : k < m) : nthZ (rowZ m ln i) k = ((tm m ln i k : Nat) : Int) := by
  rw [nthZ_lt (by rw [rowZ_len]; exact h)]; simp [rowZ]
theorem row_in {m : Nat} {ln : List Nat} {i : Nat} (hT : Tb m ln) (hi : i < m) {w : World} {b off : Nat} (hc : ∀ i k, i < m → k < m → w.cell? ⟨b, off + (i * m + k), none⟩ = some (.int .i64 (tm m ln i k : Nat))) : IntsIn w (some ⟨b, off + i * m, none⟩) (rowZ m ln i) := by
  right
  refine ⟨b, off + i * m, rfl, fun k hk => ?_⟩
  have hk' : k < m := by simpa [rowZ] using hk
  have := hc i k hi hk'
  rw [← Nat.add_assoc] at this
  rw [this]
  simp [rowZ]
theorem idx_inv {m : Nat} {ln : List Nat} (h : Grp m ln) {i : Nat} (hi : i < m) : idxZ (eqZ 0) (rowZ m ln i) = invF m ln i := by
  obtain ⟨k, hk, e1, e2, e3⟩ := h.inv hi
  rw [e3]
  refine idxZ_at (j := k) (fun z hz => ?_) (by rw [rowZ_len]; exact hk) ?_
  · rw [rowZ_at (by omega)]
    cases hb : eqZ 0 ((tm m ln i z : Nat) : Int)
    · rfl
    · have e : tm m ln i z = 0 := by simp [eqZ] at hb; omega
      have := (h.right_inv hi (by omega) e).2
      rw [e3] at this
      omega
  · rw [rowZ_at hk, e1]; rfl
set_option maxHeartbeats 400000 in
theorem inverse_any (m : Nat) (ln : List Nat) (a : Option Addr) (len cap i : Nat) (w : World) (hl : NatsIn w a ln) (hG : Grp m ln) (hlen : len = m * m) (hcap : len ≤ cap) (hc63 : cap ≤ maxLen) (hi : i < m) :
    Calls Tryz.prog 67 #[.agg #[.int .i64 m, .slice a len cap], .int .i64 i] w fun e w' => e = .returned (.int .i64 (invF m ln i)) ∧ Below w.heap.size w w' := by
  obtain ⟨b, off, rfl, hb, hc⟩ := hG.toTb.cell hl
  have hm := hG.hi
  obtain ⟨q, hq⟩ : ∃ q, q = i * m := ⟨_, rfl⟩
  obtain ⟨q2, hq2⟩ : ∃ q2, q2 = (i + 1) * m := ⟨_, rfl⟩
  have hR : Hid (∀ W, Below w.heap.size w W → IntsIn W (some ⟨b, off + q, none⟩) (rowZ m ln i)) := fun W hW => by rw [hq]; exact (row_in hG.toTb hi hc).later hW
  have HI := Lib.hid (idx_inv hG hi)
  have h1 : q ≤ 1600 := by rw [hq]; exact mul_le hm hi
  have h2 : q2 ≤ 1640 := by rw [hq2]; exact Nat.le_trans (Nat.mul_le_mul (show i + 1 ≤ 41 by omega) hm) (by omega)
  have h3 : q2 ≤ cap := by rw [hq2]; exact Nat.le_trans (Nat.mul_le_mul_right m (show i + 1 ≤ m from hi)) (by omega)
  have h4 : q2 = q + m := by rw [hq2, hq, Nat.add_mul]; omega
  have e1 : (i : Int) * (m : Int) = (q : Int) := by rw [hq]; simp
  have e2 : ((i : Int) + 1) * (m : Int) = (q2 : Int) := by rw [hq2]; simp
  have e3 : q2 - q = m := by omega
  unfold maxLen at hc63
  clear hc hl hG hq hq2
  go_enter Tryz.func67, Tryz.ntmps67
  go_wp2_with fail
  have hI := indexInts_any 0 (rowZ m ln i) (some ⟨b, off + q, none⟩) (cap - q) (w.alloc (.cells #[.int .i64 (m : Nat), .slice (some ⟨b, off, none⟩) (m * m) cap] 25)) (hR.out _ ((Below.refl _ _).alloc (Nat.le_refl _) _)) (by rw [rowZ_len]; omega)
  rw [rowZ_len, HI.out] at hI
  refine hI.mono ?_
  rintro e w2 ⟨rfl, hb2⟩
  have hbel := Below.now ((Below.refl w.heap.size w).alloc (Nat.le_refl _) _) hb2
  clear hb2 hI
  go_wp2_with fail
  go_ret
  exact ⟨rfl, hbel⟩
set_option maxHeartbeats 400000 in
theorem power_any (m : Nat) (ln : List Nat) (a : Option Addr) (len cap i n : Nat) (w : World) (hl : NatsIn w a ln) (hT : Tb m ln) (hlen : len = m * m) (hi : i < m) (hn : n ≤ 1000) :
    Calls Tryz.prog 63 #[.agg #[.int .i64 m, .slice a len cap], .int .i64 i, .int .i64 n] w fun e w' => e = .returned (.int .i64 ((pw m ln i n : Nat) : Int)) ∧ Below w.heap.size w w' := by
  have HT := Lib.hid hT
  have HL := Lib.hid hlen
  have HN := Lib.hid hl
  have hm := hT.hi
  clear hl hT hlen
  go_enter Tryz.func63, Tryz.ntmps63
  go_wp2_with fail
  obtain ⟨w1, hw1⟩ : ∃ w1, w1 = w.alloc (.cells #[.int .i64 (m : Nat), .slice a len cap] 25) := ⟨_, rfl⟩
  have hb1 : Below w.heap.size w w1 := by rw [hw1]; exact (Below.refl _ _).alloc (Nat.le_refl _) _
  have hx0 : ∀ W, Below w1.heap.size w1 W → W.cell? ⟨w.heap.size, 0, none⟩ = some (.int .i64 (m : Nat)) := fun W hW => by rw [hW.cell (by rw [hw1]; simp), hw1]; simp
  have hx1 : ∀ W, Below w1.heap.size w1 W → W.cell? ⟨w.heap.size, 1, none⟩ = some (.slice a len cap) := fun W hW => by rw [hW.cell (by rw [hw1]; simp), hw1]; simp
  have HN1 : Hid (∀ W, Below w1.heap.size w1 W → NatsIn W a ln) := fun W hW => (HN.out.later hb1).later hW
  rw [← hw1]
  have HB := Lib.hid hb1
  have hb0 := Below.refl w1.heap.size w1
  clear hw1 hb1 HN
  go_loopw [7, 9] (fun v i' wr => ∃ k : Nat, k ≤ n ∧ i' = .int .i64 k ∧ v = .int .i64 ((pw m ln i k : Nat) : Int) ∧ Below w1.heap.size w1 wr) (fun _ i' _ => n - (intOf i').toNat)
  case atStart => exact ⟨0, Nat.zero_le _, rfl, rfl, Below.refl _ _⟩
  case round =>
    clear hb0
    obtain ⟨k, hk, rfl, rfl, hbw⟩ := hrel
    have HS := Lib.hid (pw_succ m ln i k)
    have hp := HT.out.pw_lt hi k
    by_cases hlt : k < n
    · go_wp2_with fail
      refine (implTimes_any m ln a _ _ (pw m ln i k) i _ (HN1.out _ hbw) HT.out HL.out hp hi).mono ?_
      rintro e w2 ⟨rfl, hb2⟩
      replace hbw := Below.now hbw hb2
      clear hb2
      go_wp2_with fail
      go_roundw
      case rel => exact ⟨k + 1, by omega, by go_num, by rw [HS.out], hbw⟩
      case measure => simp [intOf]; omega
    · obtain rfl : k = n := by omega
      go_wp2_with fail
      go_ret
      exact ⟨rfl, Below.now HB.out hbw⟩
end Go.Proofs.YtggfhephdcnpcaaGreat
namespace Go.Proofs.YtggfhephdcnpcaaGreat
open Go.RowKit
set_option linter.unusedVariables false
/-- how often a number is in a list -/
def cntZ (l : List Int) (x : Int) : Nat := (l.filter fun y => decide (y = x)).length
def cntZTo (l : List Int) (x : Int) (j : Nat) : Nat := cntZ (l.take j) x
theorem cntZTo_le (l : List Int) (x : Int) (j : Nat) : cntZTo l x j ≤ l.length := Nat.le_trans (List.length_filter_le _ _) (by rw [List.length_take]; omega)
theorem cntZTo_succ {l : List Int} {x : Int} {j : Nat} (hj : j < l.length) : cntZTo l x (j + 1) = if nthZ l j = x then cntZTo l x j + 1 else cntZTo l x j := by
  unfold cntZTo cntZ
  rw [List.take_add_one, List.getElem?_eq_getElem hj, List.filter_append, List.length_append]
  have e : nthZ l j = l[j] := by unfold nthZ; rw [List.getD_eq_getElem?_getD, List.getElem?_eq_getElem hj]; rfl
  rw [e]
  by_cases h : l[j] = x
  · simp [h]
  · simp [h]
theorem cntZTo_all {l : List Int} {x : Int} {j : Nat} (hj : ¬ j < l.length) : cntZTo l x j = cntZ l x := by
  unfold cntZTo; rw [List.take_of_length_le (by omega)]
theorem cntZ_pos (l : List Int) (x : Int) : decide (0 < cntZ l x) = decide (x ∈ l) := by
  rw [decide_eq_decide]
  unfold cntZ
  rw [List.length_pos_iff_exists_mem]
  constructor
  · rintro ⟨y, hy⟩
    obtain ⟨h1, h2⟩ := List.mem_filter.1 hy
    rw [← of_decide_eq_true h2]; exact h1
  · intro h
    exact ⟨x, List.mem_filter.2 ⟨h, by simp⟩⟩
set_option maxHeartbeats 1000000 in
theorem lawCount_any (l : List Int) (a : Option Addr) (cap : Nat) (x : Int) (w : World) (hl : IntsIn w a l) (hlen : l.length ≤ 2 ^ 47) :
    Calls Tryz.prog 29 #[.slice a l.length cap, .int .i64 x] w fun e w' => e = .returned (.int .i64 ((cntZ l x : Nat) : Int)) ∧ w' = w := by
  have HL := Lib.hid hl
  have HC0 : Hid (cntZTo l x 0 = 0) := Lib.hid (by simp [cntZTo, cntZ])
  clear hl
  go_enter Tryz.func29, Tryz.ntmps29
  go_wp2_with fail
  go_loop [5, 10] (fun k i => ∃ j c : Nat, j ≤ l.length ∧ i = .int .i64 (j : Nat) ∧ k = .int .i64 (c : Nat) ∧ Hid (c = cntZTo l x j) ∧ c ≤ j) (fun _ i => l.length - (intOf i).toNat)
  case atStart => exact ⟨0, 0, Nat.zero_le _, rfl, rfl, Lib.hid HC0.out.symm, Nat.le_refl _⟩
  case round =>
    obtain ⟨j, c, hj, rfl, rfl, hc, hcj⟩ := hrel
    by_cases hlt : j < l.length
    · obtain ⟨b, off, rfl, hb, hcell⟩ := HL.out.cell hlt
      have h1 := hcell j hlt
      have HS := Lib.hid (cntZTo_succ (x := x) hlt)
      clear hcell
      cases hq : (nthZ l j == x)
      · have F : Hid (c = cntZTo l x (j + 1)) := Lib.hid (by rw [HS.out, if_neg (by simpa using hq)]; exact hc.out)
        go_wp2_with fail
        go_round
        case rel => exact ⟨j + 1, c, by omega, by go_num, rfl, F, by omega⟩
        case measure => simp [intOf]; omega
      · have F : Hid (c + 1 = cntZTo l x (j + 1)) := Lib.hid (by rw [HS.out, if_pos (by simpa using hq)]; exact congrArg (· + 1) hc.out)
        go_wp2_with fail
        go_round
        case rel => exact ⟨j + 1, c + 1, by omega, by go_num, by go_num, F, by omega⟩
        case measure => simp [intOf]; omega
    · have F : Hid (c = cntZ l x) := Lib.hid (hc.out.trans (cntZTo_all hlt))
      go_wp2_with fail
      go_ret
      exact ⟨ret_int (by rw [F.out]), rfl⟩
set_option maxHeartbeats 400000 in
theorem lawHas_any (l : List Int) (a : Option Addr) (cap : Nat) (x : Int) (w : World) (hl : IntsIn w a l) (hlen : l.length ≤ 2 ^ 47) :
    Calls Tryz.prog 11 #[.slice a l.length cap, .int .i64 x] w fun e w' => e = .returned (.bool (decide (x ∈ l))) ∧ w' = w := by
  have HC := Lib.hid (lawCount_any l a cap x w hl hlen)
  have HP := Lib.hid (cntZ_pos l x)
  clear hl
  go_enter Tryz.func11, Tryz.ntmps11
  go_wp2_with fail
  refine HC.out.mono ?_
  rintro e w2 ⟨rfl, rfl⟩
  go_wp2_with fail
  go_ret
  exact ⟨ret_bool (by rw [← HP.out]), rfl⟩
set_option maxHeartbeats 1000000 in
theorem lawSame_any (xs ys : List Int) (ax ay : Option Addr) (cx cy : Nat) (w : World) (hx : IntsIn w ax xs) (hy : IntsIn w ay ys) (hxl : xs.length ≤ 2 ^ 47) (hyl : ys.length ≤ 2 ^ 47) :
    Calls Tryz.prog 21 #[.slice ax xs.length cx, .slice ay ys.length cy] w fun e w' => e = .returned (.bool (decide (xs = ys))) ∧ w' = w := by
  have HX := Lib.hid hx
  have HY := Lib.hid hy
  clear hx hy
  cases hn : (((xs.length : Nat) : Int) != ((ys.length : Nat) : Int))
  rotate_left
  · have F : Hid (decide (xs = ys) = false) := Lib.hid (decide_eq_false (by rintro rfl; simp at hn))
    go_enter Tryz.func21, Tryz.ntmps21
    go_wp2_with fail
    go_ret
    exact ⟨ret_bool F.out.symm, rfl⟩
  have hxy : xs.length = ys.length := by simp at hn; omega
  have HE := Lib.hid hxy
  clear hxy
  go_enter Tryz.func21, Tryz.ntmps21
  go_wp2_with fail
  go_loop [14] (fun i => ∃ j : Nat, j ≤ xs.length ∧ i = .int .i64 (j : Nat) ∧ Hid (xs.take j = ys.take j)) (fun i => xs.length - (intOf i).toNat)
  case atStart => exact ⟨0, Nat.zero_le _, rfl, Lib.hid rfl⟩
  case round =>
    obtain ⟨j, hj, rfl, ht⟩ := hrel
    by_cases hlt : j < xs.length
    · have hlt2 : j < ys.length := by rw [← HE.out]; exact hlt
      obtain ⟨b, off, rfl, hb, hcell⟩ := HX.out.cell hlt
      obtain ⟨b2, off2, rfl, hb2, hcell2⟩ := HY.out.cell hlt2
      have h1 := hcell j hlt
      have h2 := hcell2 j hlt2
      have e1 : Hid (nthZ xs j = xs[j] ∧ nthZ ys j = ys[j]) := Lib.hid (by unfold nthZ; rw [List.getD_eq_getElem?_getD, List.getElem?_eq_getElem hlt, List.getD_eq_getElem?_getD, List.getElem?_eq_getElem hlt2]; exact ⟨rfl, rfl⟩)
      clear hcell hcell2
      cases hq : (nthZ xs j != nthZ ys j)
      · have F : Hid (xs.take (j + 1) = ys.take (j + 1)) := Lib.hid (by
          rw [List.take_add_one, List.take_add_one, ht.out, List.getElem?_eq_getElem hlt, List.getElem?_eq_getElem hlt2, ← e1.out.1, ← e1.out.2]
          have : nthZ xs j = nthZ ys j := by simpa using hq
          rw [this])
        go_wp2_with fail
        go_round
        case rel => exact ⟨j + 1, by omega, by go_num, F⟩
        case measure => simp [intOf]; omega
      · have F : Hid (decide (xs = ys) = false) := Lib.hid (decide_eq_false (by rintro rfl; simp at hq))
        go_wp2_with fail
        go_ret
        exact ⟨ret_bool F.out.symm, rfl⟩
    · have F : Hid (decide (xs = ys) = true) := Lib.hid (decide_eq_true (by
        have := ht.out
        rw [List.take_of_length_le (by omega), List.take_of_length_le (by rw [← HE.out]; omega)] at this
        exact this))
      go_wp2_with fail
      go_ret
      exact ⟨ret_bool F.out.symm, rfl⟩
set_option maxHeartbeats 1000000 in
theorem implProductOf_ok (m : Nat) (l : List Int) (a : Option Addr) (cap i k : Nat) (w : World) (hl : IntsIn w a l) (hT : TabG m l) (hi : i < m) (hk : k < m) :
    Calls Tryz.prog 20 #[.agg #[.int .i64 (m : Nat), .slice a l.length cap], .int .i64 (i : Nat), .int .i64 (k : Nat)] w fun e w' => e = .returned (.tuple #[.int .i64 ((tm m (l.map Int.toNat) i k : Nat) : Int), .bool true]) ∧ Below w.heap.size w w' := by
  have hlen : l.length ≤ 1600 := by
    obtain ⟨ln, rfl, h⟩ := hT
    rw [List.length_map, h.len]; exact sq_le h.hi
  have HB1 := Lib.hid ((Below.refl w.heap.size w).alloc (Nat.le_refl _) (.cells #[.int .i64 (m : Nat), .slice a l.length cap] 25))
  have HX : Hid (∀ W, Below (w.alloc (.cells #[.int .i64 (m : Nat), .slice a l.length cap] 25)).heap.size (w.alloc (.cells #[.int .i64 (m : Nat), .slice a l.length cap] 25)) W → W.cell? ⟨w.heap.size, 0, none⟩ = some (.int .i64 (m : Nat)) ∧ W.cell? ⟨w.heap.size, 1, none⟩ = some (.slice a l.length cap)) := Lib.hid (fun W hW => ⟨by rw [hW.cell (by simp)]; simp, by rw [hW.cell (by simp)]; simp⟩)
  have HTO := Lib.hid (fun W (h : IntsIn W a l) => implTableOk_any (m : Nat) l a cap W h (by omega))
  rw [hT.tab] at HTO
  obtain ⟨hm1, hm2⟩ : 1 ≤ m ∧ m ≤ 40 := by obtain ⟨ln, _, h⟩ := hT; exact ⟨h.lo, h.hi⟩
  have hbi : inB (i : Int) 0 ((m : Int) - 1) = true := by unfold inB; simp; omega
  have hbk : inB (k : Int) 0 ((m : Int) - 1) = true := by unfold inB; simp; omega
  have HHI := Lib.hid (fun W => has_any m (i : Int) (.slice a l.length cap) W hm1 hm2)
  have HHK := Lib.hid (fun W => has_any m (k : Int) (.slice a l.length cap) W hm1 hm2)
  rw [hbi] at HHI
  rw [hbk] at HHK
  have HTM : Hid (∀ W, IntsIn W a l → Calls Tryz.prog 54 #[.agg #[.int .i64 (m : Nat), .slice a l.length cap], .int .i64 (i : Nat), .int .i64 (k : Nat)] W fun e w' => e = .returned (.int .i64 (tm m (l.map Int.toNat) i k : Nat)) ∧ Below W.heap.size W w') := Lib.hid (fun W h => by
    obtain ⟨ln, rfl, hT⟩ := hT
    rw [map_toNat]
    exact implTimes_any m ln a _ cap i k W h hT.toTb (by rw [List.length_map]; exact hT.len) hi hk)
  have HL := Lib.hid hl
  generalize tm m (l.map Int.toNat) i k = q at *
  clear hl hT hbi hbk
  go_enter Tryz.func20, Tryz.ntmps20
  go_wp2_with fail
  generalize w.alloc (.cells #[.int .i64 (m : Nat), .slice a l.length cap] 25) = w1 at *
  refine (HTO.out _ (HL.out.later HB1.out)).mono ?_
  rintro e w2 ⟨rfl, hb2⟩
  have HB2 := Lib.hid hb2
  obtain ⟨z0, z1⟩ := HX.out _ hb2
  clear hb2
  go_wp2_with fail
  refine (HHI.out _).mono ?_
  rintro e w3 ⟨rfl, hb3⟩
  have HB3 := Lib.hid (Below.now HB2.out hb3)
  clear hb3 z0 z1
  obtain ⟨z0, z1⟩ := HX.out _ HB3.out
  go_wp2_with fail
  refine (HHK.out _).mono ?_
  rintro e w4 ⟨rfl, hb4⟩
  have HB4 := Lib.hid (Below.now HB3.out hb4)
  clear hb4 z0 z1
  obtain ⟨z0, z1⟩ := HX.out _ HB4.out
  go_wp2_with fail
  refine (HTM.out _ (HL.out.later (Below.now HB1.out HB4.out))).mono ?_
  rintro e w5 ⟨rfl, hb5⟩
  have HB5 := Lib.hid (Below.now HB4.out hb5)
  clear hb5 z0 z1
  go_wp2_with fail
  go_ret2
  exact ⟨rfl, Below.now HB1.out HB5.out⟩
end Go.Proofs.YtggfhephdcnpcaaGreat
