/-
  Elements of groups: has, slices.Index at ints, inverse, power.
-/
import Derived.Test.YtkkffaiacipibaaPow
import Derived.Test.YtkkffaiacipibaaTabImpl
import Derived.Test.YtkkffaiacipibaaFuncInts
namespace Go.Proofs.Ytkkffaiacipibaa
open Go.RowKit
set_option linter.unusedVariables false
set_option maxHeartbeats 400000 in
theorem has_any (m : Nat) (i : Int) (v : Value) (w : World) (hm0 : 1 ≤ m) (hm : m ≤ 40) :
    Calls Try.prog 71 #[.agg #[.int .i64 m, v], .int .i64 i] w fun e w' => e = .returned (.bool (inB i 0 ((m : Int) - 1))) ∧ Below w.heap.size w w' := by
  go_enter Try.func71, Try.ntmps71
  go_wp2_with fail
  refine (within_any _ _ _ _).mono ?_
  rintro e w2 ⟨rfl, rfl⟩
  go_wp2_with fail
  go_ret
  exact ⟨rfl, (Below.refl _ _).alloc (Nat.le_refl _) _⟩
theorem owns_cap {w : World} {base : Nat} {T : TypeId} {size : Nat} {a : Option Addr} {n m cap : Nat} {xs : List Value} (h : w.ownsRow base T size (.slice a n cap) m xs) : n ≤ cap ∧ cap ≤ maxLen := by
  rcases h.2 with ⟨hv, h0⟩ | ⟨g, cap', cur, hv, hb, hg, hn, hc, r⟩
  · simp only [Value.slice.injEq] at hv
    obtain ⟨_, rfl, rfl⟩ := hv
    exact ⟨Nat.le_refl _, Nat.zero_le _⟩
  · simp only [Value.slice.injEq] at hv
    obtain ⟨_, rfl, rfl⟩ := hv
    exact ⟨hn, hc⟩
def eqZ (x : Int) : Int → Bool := fun y => x == y
theorem eqZ_def (x y : Int) : (x == y) = eqZ x y := rfl
set_option maxHeartbeats 400000 in
theorem indexInts_any (x : Int) (l : List Int) (a : Option Addr) (cap : Nat) (w : World) (hl : IntsIn w a l) (hlen : l.length ≤ 2 ^ 47) :
    Calls Try.prog 100 #[.slice a l.length cap, .int .i64 x] w fun e w' => e = .returned (.int .i64 (idxZ (eqZ x) l)) ∧ Below w.heap.size w w' := by
  go_enter Try.func100, Try.ntmps100
  go_wp2
  go_loopw [8] (fun i wr => ∃ j : Nat, j ≤ l.length ∧ i = .int .i64 j ∧ noneTo (eqZ x) l j ∧ wr = w) (fun i _ => l.length - (intOf i).toNat)
  case atStart => exact ⟨0, Nat.zero_le _, rfl, noneTo_zero _ _, rfl⟩
  case round =>
    obtain ⟨j, hj, rfl, hall, rfl⟩ := hrel
    have H := Lib.hid hall
    clear hall
    by_cases hlt : j < l.length
    · obtain ⟨b, off, rfl, hb, hc⟩ := hl.cell hlt
      have h1 : wr.cell? ⟨b, off + j, none⟩ = some (.int .i64 (nthZ l j)) := hc j hlt
      clear hc
      cases hp : (x == nthZ l j)
      · have F := Lib.hid (noneTo_succ H.out (by rw [← eqZ_def]; exact hp))
        go_wp2_with fail
        go_roundw
        case rel => exact ⟨j + 1, by omega, by go_num, F.out, trivial⟩
        case measure => simp [intOf]; omega
      · have F := Lib.hid (idxZ_at H.out hlt (by rw [← eqZ_def]; exact hp))
        go_wp2_with fail
        go_ret
        exact ⟨ret_int F.out.symm, Below.refl _ _⟩
    · have F := Lib.hid (idxZ_none H.out hlt)
      go_wp2_with fail
      go_ret
      exact ⟨ret_int F.out.symm, Below.refl _ _⟩
/-- a row of a table -/
def rowZ (m : Nat) (ln : List Nat) (i : Nat) : List Int := (List.range m).map fun k => ((tm m ln i k : Nat) : Int)
theorem rowZ_len (m : Nat) (ln : List Nat) (i : Nat) : (rowZ m ln i).length = m := by simp [rowZ]
theorem rowZ_at {m : Nat} {ln : List Nat} {i k : Nat} (h : k < m) : nthZ (rowZ m ln i) k = ((tm m ln i k : Nat) : Int) := by
  rw [nthZ_lt (by rw [rowZ_len]; exact h)]; simp [rowZ]
theorem row_in {m : Nat} {ln : List Nat} {i : Nat} (hT : Tb m ln) (hi : i < m) {w : World} {b off : Nat} (hc : ∀ i k, i < m → k < m → w.cell? ⟨b, off + (i * m + k), none⟩ = some (.int .i64 (tm m ln i k : Nat))) : IntsIn w (some ⟨b, off + i * m, none⟩) (rowZ m ln i) := by
  right
  refine ⟨b, off + i * m, rfl, fun k hk => ?_⟩
  have hk' : k < m := by simpa [rowZ] using hk
  have := hc i k hi hk'
  rw [← Nat.add_assoc] at this
  rw [this]
  simp [rowZ]
theorem idx_inv {m : Nat} {ln : List Nat} (h : Grp m ln) {i : Nat} (hi : i < m) : idxZ (eqZ 0) (rowZ m ln i) = invF m ln i := by
  obtain ⟨k, hk, e1, e2, e3⟩ := h.inv hi
  rw [e3]
  refine idxZ_at (j := k) (fun z hz => ?_) (by rw [rowZ_len]; exact hk) ?_
  · rw [rowZ_at (by omega)]
    cases hb : eqZ 0 ((tm m ln i z : Nat) : Int)
    · rfl
    · have e : tm m ln i z = 0 := by simp [eqZ] at hb; omega
      have := (h.right_inv hi (by omega) e).2
      rw [e3] at this
      omega
  · rw [rowZ_at hk, e1]; rfl
set_option maxHeartbeats 400000 in
theorem inverse_any (m : Nat) (ln : List Nat) (a : Option Addr) (len cap i : Nat) (w : World) (hl : NatsIn w a ln) (hG : Grp m ln) (hlen : len = m * m) (hcap : len ≤ cap) (hc63 : cap ≤ maxLen) (hi : i < m) :
    Calls Try.prog 72 #[.agg #[.int .i64 m, .slice a len cap], .int .i64 i] w fun e w' => e = .returned (.int .i64 (invF m ln i)) ∧ Below w.heap.size w w' := by
  obtain ⟨b, off, rfl, hb, hc⟩ := hG.toTb.cell hl
  have hm := hG.hi
  obtain ⟨q, hq⟩ : ∃ q, q = i * m := ⟨_, rfl⟩
  obtain ⟨q2, hq2⟩ : ∃ q2, q2 = (i + 1) * m := ⟨_, rfl⟩
  have hR : Hid (∀ W, Below w.heap.size w W → IntsIn W (some ⟨b, off + q, none⟩) (rowZ m ln i)) := fun W hW => by rw [hq]; exact (row_in hG.toTb hi hc).later hW
  have HI := Lib.hid (idx_inv hG hi)
  have h1 : q ≤ 1600 := by rw [hq]; exact mul_le hm hi
  have h2 : q2 ≤ 1640 := by rw [hq2]; exact Nat.le_trans (Nat.mul_le_mul (show i + 1 ≤ 41 by omega) hm) (by omega)
  have h3 : q2 ≤ cap := by rw [hq2]; exact Nat.le_trans (Nat.mul_le_mul_right m (show i + 1 ≤ m from hi)) (by omega)
  have h4 : q2 = q + m := by rw [hq2, hq, Nat.add_mul]; omega
  have e1 : (i : Int) * (m : Int) = (q : Int) := by rw [hq]; simp
  have e2 : ((i : Int) + 1) * (m : Int) = (q2 : Int) := by rw [hq2]; simp
  have e3 : q2 - q = m := by omega
  unfold maxLen at hc63
  clear hc hl hG hq hq2
  go_enter Try.func72, Try.ntmps72
  go_wp2_with fail
  have hI := indexInts_any 0 (rowZ m ln i) (some ⟨b, off + q, none⟩) (cap - q) (w.alloc (.cells #[.int .i64 (m : Nat), .slice (some ⟨b, off, none⟩) (m * m) cap] 27)) (hR.out _ ((Below.refl _ _).alloc (Nat.le_refl _) _)) (by rw [rowZ_len]; omega)
  rw [rowZ_len, HI.out] at hI
  refine hI.mono ?_
  rintro e w2 ⟨rfl, hb2⟩
  have hbel := Below.now ((Below.refl w.heap.size w).alloc (Nat.le_refl _) _) hb2
  clear hb2 hI
  go_wp2_with fail
  go_ret
  exact ⟨rfl, hbel⟩
set_option maxHeartbeats 400000 in
theorem power_any (m : Nat) (ln : List Nat) (a : Option Addr) (len cap i n : Nat) (w : World) (hl : NatsIn w a ln) (hT : Tb m ln) (hlen : len = m * m) (hi : i < m) (hn : n ≤ 1000) :
    Calls Try.prog 74 #[.agg #[.int .i64 m, .slice a len cap], .int .i64 i, .int .i64 n] w fun e w' => e = .returned (.int .i64 ((pw m ln i n : Nat) : Int)) ∧ Below w.heap.size w w' := by
  have HT := Lib.hid hT
  have HL := Lib.hid hlen
  have HN := Lib.hid hl
  have hm := hT.hi
  clear hl hT hlen
  go_enter Try.func74, Try.ntmps74
  go_wp2_with fail
  obtain ⟨w1, hw1⟩ : ∃ w1, w1 = w.alloc (.cells #[.int .i64 (m : Nat), .slice a len cap] 27) := ⟨_, rfl⟩
  have hb1 : Below w.heap.size w w1 := by rw [hw1]; exact (Below.refl _ _).alloc (Nat.le_refl _) _
  have hx0 : ∀ W, Below w1.heap.size w1 W → W.cell? ⟨w.heap.size, 0, none⟩ = some (.int .i64 (m : Nat)) := fun W hW => by rw [hW.cell (by rw [hw1]; simp), hw1]; simp
  have hx1 : ∀ W, Below w1.heap.size w1 W → W.cell? ⟨w.heap.size, 1, none⟩ = some (.slice a len cap) := fun W hW => by rw [hW.cell (by rw [hw1]; simp), hw1]; simp
  have HN1 : Hid (∀ W, Below w1.heap.size w1 W → NatsIn W a ln) := fun W hW => (HN.out.later hb1).later hW
  rw [← hw1]
  have HB := Lib.hid hb1
  have hb0 := Below.refl w1.heap.size w1
  clear hw1 hb1 HN
  go_loopw [7, 9] (fun v i' wr => ∃ k : Nat, k ≤ n ∧ i' = .int .i64 k ∧ v = .int .i64 ((pw m ln i k : Nat) : Int) ∧ Below w1.heap.size w1 wr) (fun _ i' _ => n - (intOf i').toNat)
  case atStart => exact ⟨0, Nat.zero_le _, rfl, rfl, Below.refl _ _⟩
  case round =>
    clear hb0
    obtain ⟨k, hk, rfl, rfl, hbw⟩ := hrel
    have HS := Lib.hid (pw_succ m ln i k)
    have hp := HT.out.pw_lt hi k
    by_cases hlt : k < n
    · go_wp2_with fail
      refine (implTimes_any m ln a _ _ (pw m ln i k) i _ (HN1.out _ hbw) HT.out HL.out hp hi).mono ?_
      rintro e w2 ⟨rfl, hb2⟩
      replace hbw := Below.now hbw hb2
      clear hb2
      go_wp2_with fail
      go_roundw
      case rel => exact ⟨k + 1, by omega, by go_num, by rw [HS.out], hbw⟩
      case measure => simp [intOf]; omega
    · obtain rfl : k = n := by omega
      go_wp2_with fail
      go_ret
      exact ⟨rfl, Below.now HB.out hbw⟩
end Go.Proofs.Ytkkffaiacipibaa
