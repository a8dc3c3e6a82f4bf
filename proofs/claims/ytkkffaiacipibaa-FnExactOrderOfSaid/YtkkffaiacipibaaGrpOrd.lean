/-
  IndexPeriod and OrderOf of the reference.
-/
import Derived.Test.YtkkffaiacipibaaGrpInv
import Derived.Test.YtkkffaiacipibaaBuild
namespace Go.Proofs.Ytkkffaiacipibaa
open Go.RowKit
set_option linter.unusedVariables false
/-- the powers that were seen -/
def pwL (m : Nat) (ln : List Nat) (i c : Nat) : List Int := (List.range c).map fun k => ((pw m ln i k : Nat) : Int)
theorem pwL_len (m : Nat) (ln : List Nat) (i c : Nat) : (pwL m ln i c).length = c := by simp [pwL]
theorem pwL_zero (m : Nat) (ln : List Nat) (i : Nat) : pwL m ln i 0 = [] := rfl
theorem pwL_succ (m : Nat) (ln : List Nat) (i c : Nat) : pwL m ln i (c + 1) = pwL m ln i c ++ [((pw m ln i c : Nat) : Int)] := by simp [pwL, List.range_succ]
theorem pwL_at {m : Nat} {ln : List Nat} {i c j : Nat} (h : j < c) : nthZ (pwL m ln i c) j = ((pw m ln i j : Nat) : Int) := by
  rw [nthZ_lt (by rw [pwL_len]; exact h)]; simp [pwL]
theorem ip_found {m : Nat} {ln : List Nat} {i c j : Nat} (hT : Tb m ln) (hi : i < m) (hc : c ≤ repN m ln i) (hj : j < c) (he : pw m ln i j = pw m ln i c) (hn : ∀ z, z < j → pw m ln i z ≠ pw m ln i c) : repN m ln i = c ∧ repK m ln i = j := by
  have h1 : repB m ln i c = true := repB_iff.2 ⟨j, hj, he⟩
  have h2 : repN m ln i = c := by
    rcases Nat.lt_or_ge c (repN m ln i) with h | h
    · have := hT.repN_min hi h
      rw [h1] at this; cases this
    · omega
  refine ⟨h2, ?_⟩
  obtain ⟨k1, k2, k3⟩ := hT.repK_spec hi
  rw [h2] at k1 k2 k3
  rcases Nat.lt_trichotomy (repK m ln i) j with h | h | h
  · exact absurd k2 (hn _ h)
  · exact h
  · exact absurd he (k3 _ h)
theorem ip_none {m : Nat} {ln : List Nat} {i c : Nat} (hT : Tb m ln) (hi : i < m) (hc : c ≤ repN m ln i) (hn : ∀ z, z < c → pw m ln i z ≠ pw m ln i c) : c + 1 ≤ repN m ln i := by
  rcases Nat.lt_or_ge c (repN m ln i) with h | h
  · exact h
  · have : c = repN m ln i := by omega
    subst this
    obtain ⟨k1, k2, k3⟩ := hT.repK_spec hi
    exact absurd k2 (hn _ k1)
theorem ne_succ {m : Nat} {ln : List Nat} {i c j : Nat} (h : ∀ z, z < j → pw m ln i z ≠ pw m ln i c) (hj : pw m ln i j ≠ pw m ln i c) : ∀ z, z < j + 1 → pw m ln i z ≠ pw m ln i c := fun z hz => by
  by_cases e : z = j
  · rw [e]; exact hj
  · exact h z (by omega)
def okB (n : Int) (l : List Int) (i : Int) : Bool := tabB n l && inB i 0 (n - 1)
set_option maxHeartbeats 400000 in
theorem l08Ok_any (n : Int) (l : List Int) (a : Option Addr) (cap : Nat) (i : Int) (w : World) (hl : IntsIn w a l) (hlen : l.length ≤ 2 ^ 47) :
    Calls Try.prog 101 #[.agg #[.int .i64 n, .slice a l.length cap], .int .i64 i] w fun e w' => e = .returned (.bool (okB n l i)) ∧ Below w.heap.size w w' := by
  have HI := Lib.hid hl
  have HE : Hid (okB n l i = (tabB n l && inB i 0 (n - 1))) := rfl
  clear hl
  cases ht : tabB n l
  · go_enter Try.func101, Try.ntmps101
    go_wp2_with fail
    refine (specTableOk_any n l a cap _ (HI.out.later ((Below.refl _ _).alloc (Nat.le_refl _) _)) hlen).mono ?_
    rintro e w1 ⟨h2, hb1⟩
    rw [ht] at h2
    subst h2
    have hbel := Below.now ((Below.refl w.heap.size w).alloc (Nat.le_refl _) _) hb1
    clear hb1
    go_wp2_with fail
    go_ret
    exact ⟨ret_bool (by rw [HE.out, ht]; rfl), hbel⟩
  · obtain ⟨m, ln, rfl, -, hT⟩ := tabOk_out ht
    have hm0 := hT.lo
    have hm1 := hT.hi
    have HT := Lib.hid ht
    clear hT
    go_enter Try.func101, Try.ntmps101
    go_wp2_with fail
    refine (specTableOk_any _ l a cap _ (HI.out.later ((Below.refl _ _).alloc (Nat.le_refl _) _)) hlen).mono ?_
    rintro e w1 ⟨h2, hb1⟩
    rw [HT.out] at h2
    subst h2
    have x0 := box_later hb1 (i := 0) (v := .int .i64 (m : Nat)) rfl _ (Below.refl _ _)
    have x1 := box_later hb1 (i := 1) (v := .slice a l.length cap) rfl _ (Below.refl _ _)
    have hbel := Below.now ((Below.refl w.heap.size w).alloc (Nat.le_refl _) _) hb1
    clear hb1
    go_wp2_with fail
    refine (l01In_any _ _ _ _).mono ?_
    rintro e w2 ⟨rfl, rfl⟩
    go_wp2_with fail
    go_ret
    exact ⟨ret_bool (by rw [HE.out, HT.out]; rfl), hbel⟩
set_option maxHeartbeats 1000000 in
theorem indexPeriod_any (m k : Nat) (ln : List Nat) (l : List Int) (a : Option Addr) (cap : Nat) (w : World) (hl : IntsIn w a l) (hlm : l = ln.map Int.ofNat) (ht : tabB (m : Nat) l = true) (hT : Tb m ln) (hk : k < m) :
    Calls Try.prog 73 #[.agg #[.int .i64 m, .slice a l.length cap], .int .i64 k] w fun e w' => e = .returned (.tuple #[.int .i64 (repK m ln k : Nat), .int .i64 ((repN m ln k - repK m ln k : Nat) : Int)]) ∧ Below w.heap.size w w' := by
  have HI := Lib.hid hl
  have HT := Lib.hid hT
  have hm0 := hT.lo
  have hm1 := hT.hi
  have HLM := Lib.hid hlm
  have HLL : Hid (l.length = m * m) := by rw [hlm, List.length_map]; exact hT.len
  have hlen : l.length ≤ 2 ^ 47 := by rw [HLL.out]; have := sq_le hm1; omega
  have hok : okB (m : Nat) l (k : Nat) = true := by simp only [okB, ht, Bool.true_and, inB, Bool.and_eq_true, decide_eq_true_eq]; omega
  have HOK := Lib.hid hok
  have hrn := hT.repN_le hk
  clear hl hlm hT hok ht
  go_enter Try.func73, Try.ntmps73
  go_wp2_with fail
  refine (l08Ok_any _ l a cap _ _ (HI.out.later ((Below.refl _ _).alloc (Nat.le_refl _) _)) hlen).mono ?_
  rintro e w1 ⟨h2, hb1⟩
  rw [HOK.out] at h2
  subst h2
  have hx0 := box_later hb1 (i := 0) (v := .int .i64 (m : Nat)) rfl
  have hx1 := box_later hb1 (i := 1) (v := .slice a l.length cap) rfl
  have hbel := Lib.hid (Below.now ((Below.refl w.heap.size w).alloc (Nat.le_refl _) _) hb1)
  have HN1 : Hid (∀ W, Below w1.heap.size w1 W → NatsIn W a ln) := fun W hW => by unfold NatsIn; rw [← HLM.out]; exact (HI.out.later hbel.out).later hW
  have hb0 := Below.refl w1.heap.size w1
  clear hb1 HI
  go_wp2_with fail
  have HS := Lib.hid (Bld.empty 3 1 w1)
  obtain ⟨w2, hw2⟩ : ∃ w2, w2 = w1.alloc (.cells #[] 3) := ⟨_, rfl⟩
  rw [← hw2] at HS
  rw [← hw2]
  clear hw2 hb0
  go_loopw [6, 7] (fun v x wr => ∃ c : Nat, c ≤ repN m ln k ∧ x = .int .i64 ((pw m ln k c : Nat) : Int) ∧ Bld 3 1 w1 wr v c (intVals (pwL m ln k c))) (fun v _ _ => 100 - (match v with | .slice _ n _ => n | _ => 0))
  case atStart => exact ⟨0, Nat.zero_le _, by rw [pw_zero]; rfl, HS.out⟩
  case round =>
    clear HS
    obtain ⟨c, hcn, rfl, hbd⟩ := hrel
    obtain ⟨a3, c3, rfl⟩ := owns_form hbd.1
    have HB := Lib.hid hbd
    have hbw := hbd.2
    have HR : Hid (IntsIn wr a3 (pwL m ln k c)) := owns_ints hbd.1
    clear hbd
    go_wp2_with fail
    go_loopw [21] (fun i' wr' => ∃ j : Nat, j ≤ c ∧ i' = .int .i64 j ∧ wr' = wr ∧ ∀ z, z < j → pw m ln k z ≠ pw m ln k c) (fun i' _ => c - (intOf i').toNat)
    case atStart => exact ⟨0, Nat.zero_le _, rfl, rfl, fun _ h => absurd h (Nat.not_lt_zero _)⟩
    case round =>
      obtain ⟨j, hj, rfl, rfl, hne⟩ := hrel
      have HNE := Lib.hid hne
      clear hne
      by_cases hlt : j < c
      · obtain ⟨b, off, rfl, hb, hc⟩ := HR.out.cell (i := j) (by rw [pwL_len]; exact hlt)
        have h1 := hc j (by rw [pwL_len]; exact hlt)
        rw [pwL_at hlt] at h1
        clear hc
        cases e1 : (((pw m ln k c : Nat) : Int) == ((pw m ln k j : Nat) : Int))
        · have F := Lib.hid (ne_succ HNE.out (show pw m ln k j ≠ pw m ln k c by simp at e1; omega))
          go_wp2_with fail
          go_roundw
          case rel => exact ⟨j + 1, by omega, by go_num, trivial, F.out⟩
          case measure => simp [intOf]; omega
        · have F := Lib.hid (ip_found HT.out hk hcn hlt (by simp at e1; omega) HNE.out)
          go_wp2_with fail
          go_ret2
          exact ⟨ret_ii (by rw [F.out.2]) (by rw [F.out.1, F.out.2]; omega), Below.now hbel.out hbw⟩
      · obtain rfl : j = c := by omega
        have F := Lib.hid (ip_none HT.out hk hcn HNE.out)
        have F3 := Lib.hid (pwL_succ m ln k j)
        have F4 := Lib.hid (pw_succ m ln k j)
        have hp := HT.out.pw_lt hk j
        go_wp2_with (at_builtin; refine wpList_app1 rfl _ _ rfl Try.underlying22 Try.infoInt rfl (by decide) rfl HB.out rfl rfl ?c1 ?c2 ?c3 ?c4)
        case c1 => simp [Value.oneCell']
        case c2 => unfold maxLen; omega
        case c3 => omega
        intro v2 w4 hb2
        have F2 : Hid (Bld 3 1 w1 w4 v2 (j + 1) (intVals (pwL m ln k (j + 1)))) := by
          rw [F3.out]; unfold intVals at *; rw [List.map_append]; exact hb2
        replace hbw := hb2.2
        obtain ⟨a5, c5, rfl⟩ := owns_form hb2.1
        clear hb2
        go_wp2_with fail
        refine (specTimes_any m ln a _ _ (pw m ln k j) k _ (HN1.out _ hbw) HT.out HLL.out hp hk).mono ?_
        rintro e w5 ⟨rfl, hb5⟩
        have F5 := Lib.hid (F2.out.later hb5)
        clear hb5
        go_wp2_with fail
        go_roundw
        case rel => exact ⟨j + 1, F.out, by rw [F4.out], F5.out⟩
        case measure => simp; omega
set_option maxHeartbeats 1000000 in
theorem specOrderOf_any (n : Int) (l : List Int) (a : Option Addr) (cap : Nat) (i : Int) (w : World) (hl : IntsIn w a l) (hlen : l.length ≤ 2 ^ 47) :
    Calls Try.prog 36 #[.agg #[.int .i64 n, .slice a l.length cap], .int .i64 i] w fun e w' => e = .returned (.int .i64 (ordV n l i)) ∧ Below w.heap.size w w' := by
  have HI := Lib.hid hl
  clear hl
  cases hg : groupB n l
  · have F := Lib.hid (ordV_not (invOk_not1 (i := i) hg))
    have F2 := Lib.hid (invOk_not1 (i := i) hg)
    go_enter Try.func36, Try.ntmps36
    go_wp2_with fail
    refine (specIsGroup_any n l a cap _ (HI.out.later ((Below.refl _ _).alloc (Nat.le_refl _) _)) hlen).mono ?_
    rintro e w1 ⟨h2, hb1⟩
    rw [hg] at h2
    subst h2
    have hbel := Below.now ((Below.refl w.heap.size w).alloc (Nat.le_refl _) _) hb1
    clear hb1
    go_wp2_with fail
    go_ret
    exact ⟨ret_int F.out.symm, hbel⟩
  obtain ⟨m, ln, rfl, hlm, hG⟩ := groupB_out hg
  have HG := Lib.hid hG
  have hm0 := hG.lo
  have hm1 := hG.hi
  have HLM := Lib.hid hlm
  have HLL : Hid (l.length = m * m) := by rw [hlm, List.length_map]; exact hG.len
  have HGB : Hid (groupB (m : Nat) l = true) := hg
  clear hG hlm
  cases hi : inB i 0 ((m : Nat) - 1)
  · have F := Lib.hid (ordV_not (invOk_not2 (l := l) hi))
    have F2 := Lib.hid (invOk_not2 (l := l) hi)
    go_enter Try.func36, Try.ntmps36
    go_wp2_with fail
    refine (specIsGroup_any _ l a cap _ (HI.out.later ((Below.refl _ _).alloc (Nat.le_refl _) _)) hlen).mono ?_
    rintro e w1 ⟨h2, hb1⟩
    rw [HGB.out] at h2
    subst h2
    have x0 := box_later hb1 (i := 0) (v := .int .i64 (m : Nat)) rfl _ (Below.refl _ _)
    have x1 := box_later hb1 (i := 1) (v := .slice a l.length cap) rfl _ (Below.refl _ _)
    have hbel := Below.now ((Below.refl w.heap.size w).alloc (Nat.le_refl _) _) hb1
    clear hb1
    go_wp2_with fail
    refine (l01In_any _ _ _ _).mono ?_
    rintro e w2 ⟨h2, rfl⟩
    rw [hi] at h2
    subst h2
    go_wp2_with fail
    go_ret
    exact ⟨ret_int F.out.symm, hbel⟩
  · have F2 := Lib.hid (invOk_yes HGB.out hi)
    obtain ⟨k, rfl, hk⟩ := inB_nat hi
    have F : Hid (ordV (m : Nat) l (k : Nat) = ((repN m ln k : Nat) : Int)) := by have := F2.out; rw [HLM.out] at this ⊢; exact ordV_yes this
    go_enter Try.func36, Try.ntmps36
    go_wp2_with fail
    refine (specIsGroup_any _ l a cap _ (HI.out.later ((Below.refl _ _).alloc (Nat.le_refl _) _)) hlen).mono ?_
    rintro e w1 ⟨h2, hb1⟩
    rw [HGB.out] at h2
    subst h2
    have x0 := box_later hb1 (i := 0) (v := .int .i64 (m : Nat)) rfl _ (Below.refl _ _)
    have x1 := box_later hb1 (i := 1) (v := .slice a l.length cap) rfl _ (Below.refl _ _)
    have hbel := Below.now ((Below.refl w.heap.size w).alloc (Nat.le_refl _) _) hb1
    clear hb1
    go_wp2_with fail
    refine (l01In_any _ _ _ _).mono ?_
    rintro e w2 ⟨h2, rfl⟩
    rw [hi] at h2
    subst h2
    go_wp2_with fail
    have HZ := Lib.hid (HG.out.repK_zero hk)
    have F9 : Hid (((repN m ln k - repK m ln k : Nat) : Int) = ordV (m : Nat) l (k : Nat)) := by rw [F.out, HZ.out]; rfl
    refine (indexPeriod_any m k ln l a cap _ (HI.out.later hbel) HLM.out (groupB_tab HGB.out) HG.out.toTb hk).mono ?_
    rintro e w5 ⟨rfl, hb5⟩
    replace hbel := Below.now hbel hb5
    clear hb5 x0 x1
    go_wp2_with fail
    go_ret
    exact ⟨ret_int F9.out, hbel⟩
end Go.Proofs.Ytkkffaiacipibaa
