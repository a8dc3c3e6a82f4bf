/-
  The program's CountAvoiding.
-/
import Derived.Test.YtnnboeeogbgmdaaCountAv
namespace Go.Proofs.Ytnnboeeogbgmdaa
open Go.RowKit
set_option linter.unusedVariables false
/-- the arguments are fit -/
def caOk (p : ByteArray) (k n : Int) : Bool := patternOkB p && (inB k 1 4 && (inB n 0 8 && decide (k.toNat ^ n.toNat ≤ 1024)))
/-- CountAvoiding as a function of plain data -/
def caV (p : ByteArray) (k n : Int) : Int := if caOk p k n = true then ((((lev k.toNat n.toNat).filter (avoidB p)).length : Nat) : Int) else -1
theorem caV_not {p : ByteArray} {k n : Int} (h : caOk p k n = false) : caV p k n = -1 := by simp [caV, h]
theorem caV_yes {p : ByteArray} {k n : Int} (h : caOk p k n = true) : caV p k n = ((((lev k.toNat n.toNat).filter (avoidB p)).length : Nat) : Int) := by simp [caV, h]
theorem ca_not1 {p : ByteArray} {k n : Int} (h : patternOkB p = false) : caOk p k n = false := by simp [caOk, h]
theorem ca_not2 {p : ByteArray} {k n : Int} (h : inB k 1 4 = false) : caOk p k n = false := by simp [caOk, h]
theorem ca_not3 {p : ByteArray} {k n : Int} (h : inB n 0 8 = false) : caOk p k n = false := by simp [caOk, h]
theorem ca_nat {p : ByteArray} {k n : Int} (h1 : patternOkB p = true) (h2 : inB k 1 4 = true) (h3 : inB n 0 8 = true) : ∃ kk nn : Nat, k = kk ∧ n = nn ∧ 1 ≤ kk ∧ kk ≤ 4 ∧ nn ≤ 8 ∧ caOk p kk nn = decide (kk ^ nn ≤ 1024) := by
  have a := inB_bounds h2
  have b := inB_bounds h3
  refine ⟨k.toNat, n.toNat, by omega, by omega, by omega, by omega, by omega, ?_⟩
  have e1 : ((k.toNat : Nat) : Int) = k := by omega
  have e2 : ((n.toNat : Nat) : Int) = n := by omega
  rw [e1, e2]
  simp [caOk, h1, h2, h3]
def cntTo (q : ByteArray → Bool) (l : List ByteArray) (j : Nat) : Nat := ((l.take j).filter q).length
theorem cntTo_zero (q : ByteArray → Bool) (l : List ByteArray) : cntTo q l 0 = 0 := by simp [cntTo]
theorem cntTo_yes {q : ByteArray → Bool} {l : List ByteArray} {j : Nat} (hj : j < l.length) (h : q (nthS l j) = true) : cntTo q l (j + 1) = cntTo q l j + 1 := by
  unfold cntTo
  rw [List.take_succ_eq_append_getElem hj, List.filter_append, ← nthS_lt hj]; simp [h]
theorem cntTo_no {q : ByteArray → Bool} {l : List ByteArray} {j : Nat} (hj : j < l.length) (h : q (nthS l j) = false) : cntTo q l (j + 1) = cntTo q l j := by
  unfold cntTo
  rw [List.take_succ_eq_append_getElem hj, List.filter_append, ← nthS_lt hj]; simp [h]
theorem cntTo_full (q : ByteArray → Bool) (l : List ByteArray) : cntTo q l l.length = (l.filter q).length := by unfold cntTo; rw [List.take_length]
theorem cntTo_le (q : ByteArray → Bool) (l : List ByteArray) (j : Nat) : cntTo q l j ≤ j := by
  unfold cntTo
  exact Nat.le_trans (List.length_filter_le _ _) (List.length_take_le _ _)
theorem strs_cell {w : World} {a : Option Addr} {l : List ByteArray} (h : StrsIn w a l) {j : Nat} (hj : j < l.length) : ∃ b off, a = some ⟨b, off, none⟩ ∧ ∀ W, Below w.heap.size w W → W.cell? ⟨b, off + j, none⟩ = some (.string (nthS l j)) := by
  rcases h with h | ⟨b, off, ha, hc⟩
  · have : l = [] := by simpa using h
    subst this; simp at hj
  · have h1 : w.cell? ⟨b, off + j, none⟩ = some (.string (nthS l j)) := by rw [hc j (by simpa using hj), List.getElem_map, nthS_lt hj]
    exact ⟨b, off, ha, fun W hW => by rw [hW.cell (World.block_lt_of_cell? w _ h1)]; exact h1⟩
set_option maxRecDepth 20000 in
set_option maxHeartbeats 2000000 in
theorem implCountAvoiding_any (p : ByteArray) (k n : Int) (w : World) (hp : p.size ≤ maxLen) :
    Calls Try.prog 10 #[.string p, .int .i64 k, .int .i64 n] w fun e w' => e = .returned (.int .i64 (caV p k n)) ∧ Below w.heap.size w w' := by
  cases h1 : patternOkB p
  · have F := Lib.hid (caV_not (k := k) (n := n) (ca_not1 h1))
    go_enter Try.func10, Try.ntmps10
    go_wp2_with (go_at_call 15; refine (implPatternOk_any _ _ hp).mono ?_; rintro e w' ⟨h9, rfl⟩; rw [h1] at h9; subst h9)
    go_ret
    exact ⟨ret_int F.out.symm, Below.refl _ _⟩
  cases h2 : inB k 1 4
  · have F := Lib.hid (caV_not (p := p) (n := n) (ca_not2 h2))
    go_enter Try.func10, Try.ntmps10
    go_wp2_with (first
      | (go_at_call 15; refine (implPatternOk_any _ _ hp).mono ?_; rintro e w' ⟨h9, rfl⟩; rw [h1] at h9; subst h9)
      | (go_at_call 28; refine (within_any k 1 4 _).mono ?_; rintro e w' ⟨h9, rfl⟩; rw [h2] at h9; subst h9))
    go_ret
    exact ⟨ret_int F.out.symm, Below.refl _ _⟩
  cases h3 : inB n 0 8
  · have F := Lib.hid (caV_not (p := p) (k := k) (ca_not3 h3))
    go_enter Try.func10, Try.ntmps10
    go_wp2_with (first
      | (go_at_call 15; refine (implPatternOk_any _ _ hp).mono ?_; rintro e w' ⟨h9, rfl⟩; rw [h1] at h9; subst h9)
      | (go_at_call 28; refine (within_any _ _ _ _).mono ?_; rintro e w' ⟨h9, rfl⟩; (first | rw [h2] at h9 | rw [h3] at h9); subst h9))
    go_ret
    exact ⟨ret_int F.out.symm, Below.refl _ _⟩
  obtain ⟨kk, nn, rfl, rfl, hk1, hk2, hn2, hok⟩ := ca_nat h1 h2 h3
  have HOK := Lib.hid hok
  have P1 := Lib.hid h1
  have P2 := Lib.hid h2
  have P3 := Lib.hid h3
  clear hok h1 h2 h3
  go_enter Try.func10, Try.ntmps10
  go_wp2_with (first
    | (go_at_call 15; refine (implPatternOk_any _ _ hp).mono ?_; rintro e w' ⟨h9, rfl⟩; rw [P1.out] at h9; subst h9)
    | (go_at_call 28; refine (within_any _ _ _ _).mono ?_; rintro e w' ⟨h9, rfl⟩; (first | rw [P2.out] at h9 | rw [P3.out] at h9); subst h9))
  go_loop [7, 25] (fun v i => ∃ (j q : Nat), j ≤ nn ∧ i = .int .i64 j ∧ v = .int .i64 q ∧ q = kk ^ j) (fun _ i => nn - (intOf i).toNat)
  case atStart => exact ⟨0, 1, Nat.zero_le _, rfl, rfl, rfl⟩
  case round =>
    obtain ⟨j, q, hj, rfl, rfl, hq⟩ := hrel
    have hpl := pow_le hk2 (show j ≤ 8 by omega)
    rw [← hq] at hpl
    have HQ := Lib.hid hq
    clear hq
    by_cases hlt : j < nn
    · obtain ⟨q2, hq2⟩ : ∃ q2, q2 = q * kk := ⟨_, rfl⟩
      have hm : (q : Int) * (kk : Int) = (q2 : Int) := by rw [hq2]; simp
      have hq2b : q2 ≤ 262144 := by rw [hq2]; exact Nat.le_trans (Nat.mul_le_mul hpl hk2) (by decide)
      have HQ2 : Hid (q2 = kk ^ (j + 1)) := Lib.hid (by rw [hq2, HQ.out, Nat.pow_succ])
      clear hq2
      go_wp2_with fail
      go_round
      case rel => exact ⟨j + 1, q2, by omega, by go_num, rfl, HQ2.out⟩
      case measure => simp [intOf]; omega
    · obtain rfl : j = nn := by omega
      by_cases hbig : 1024 < q
      · have F : Hid (caV p (kk : Nat) (j : Nat) = -1) := Lib.hid (caV_not (by rw [HOK.out, decide_eq_false_iff_not, ← HQ.out]; omega))
        go_wp2_with fail
        go_ret
        exact ⟨ret_int F.out.symm, Below.refl _ _⟩
      · have hcok : caOk p (kk : Nat) (j : Nat) = true := by rw [HOK.out, decide_eq_true_eq, ← HQ.out]; omega
        have F : Hid (caV p (kk : Nat) (j : Nat) = (((up kk j).filter (fun v => decide (v.size = j) && avoidB p v)).length : Nat)) := Lib.hid (by
          rw [caV_yes hcok, up_filter]; rfl)
        have hul := up_len hk2 j hn2
        have HSZ := Lib.hid (up_size kk j)
        clear hcok
        go_wp2_with fail
        refine (wordsUpTo_any kk j _ hk2 hn2).mono ?_
        rintro e w2 ⟨a2, c2, rfl, ho2, hb2⟩
        have HS := Lib.hid (owns_strsIn ho2)
        have HB := Lib.hid hb2
        have hb0 := Below.refl w2.heap.size w2
        clear ho2 hb2
        generalize up kk j = L at *
        go_wp2_with fail
        go_loopw [8, 37] (fun v i wr => ∃ t : Nat, t ≤ L.length ∧ i = .int .i64 t ∧ v = .int .i64 ((cntTo (fun v => decide (v.size = j) && avoidB p v) L t : Nat) : Int) ∧ Below w2.heap.size w2 wr) (fun _ i _ => L.length - (intOf i).toNat)
        case atStart => exact ⟨0, Nat.zero_le _, rfl, by rw [cntTo_zero]; rfl, hb0⟩
        case round =>
          clear hb0
          obtain ⟨t, ht, rfl, rfl, hbw⟩ := hrel
          have hcl := cntTo_le (fun v => decide (v.size = j) && avoidB p v) L t
          by_cases htl : t < L.length
          · obtain ⟨b, off, hab, hcz⟩ := strs_cell HS.out htl
            subst hab
            have hcell := hcz _ hbw
            have hvs : (nthS L t).size ≤ j := HSZ.out _ (by rw [nthS_lt htl]; exact List.getElem_mem _)
            have HY := Lib.hid (cntTo_yes (q := fun v => decide (v.size = j) && avoidB p v) htl)
            have HN := Lib.hid (cntTo_no (q := fun v => decide (v.size = j) && avoidB p v) htl)
            generalize nthS L t = v at *
            generalize cntTo (fun v => decide (v.size = j) && avoidB p v) L t = c at *
            clear hcz
            by_cases hsz : v.size = j
            · have HV := Lib.hid (implAvoidsPattern_any p v wr hp (by unfold maxLen; omega))
              have HC : Hid (∀ b, avoidB p v = b → (fun v => decide (v.size = j) && avoidB p v) v = b) := Lib.hid (fun b h => by simp [hsz, h])
              have hsz2 : (v.size : Int) = (j : Int) := by omega
              go_wp2_with fail
              refine HV.out.mono ?_
              rintro e w3 ⟨h3, hb3⟩
              have hbw3 := Below.now hbw hb3
              clear hb3 hbw HV
              cases hav : avoidB p v
              · rw [hav] at h3
                subst h3
                have F3 := Lib.hid (HN.out (HC.out _ hav))
                go_wp2_with fail
                go_roundw
                case rel => exact ⟨t + 1, by omega, by go_num, by rw [F3.out], hbw3⟩
                case measure => simp [intOf]; omega
              · rw [hav] at h3
                subst h3
                have F3 := Lib.hid (HY.out (HC.out _ hav))
                go_wp2_with fail
                go_roundw
                case rel => exact ⟨t + 1, by omega, by go_num, by rw [F3.out]; go_num, hbw3⟩
                case measure => simp [intOf]; omega
            · have F3 := Lib.hid (HN.out (by simp [hsz]))
              have hsz2 : ¬ (v.size : Int) = (j : Int) := by omega
              go_wp2_with fail
              go_roundw
              case rel => exact ⟨t + 1, by omega, by go_num, by rw [F3.out], hbw⟩
              case measure => simp [intOf]; omega
          · obtain rfl : t = L.length := by omega
            have FC := Lib.hid (cntTo_full (fun v => decide (v.size = j) && avoidB p v) L)
            go_wp2_with fail
            go_ret
            exact ⟨ret_int (by rw [F.out, FC.out]), Below.now HB.out hbw⟩
end Go.Proofs.Ytnnboeeogbgmdaa
