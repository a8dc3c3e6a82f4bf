/-
  InverseOf and OrderOf, of the program and of the reference.
-/
import Derived.Test.YtkkffaiacipibaaGrpEl
namespace Go.Proofs.Ytkkffaiacipibaa
open Go.RowKit
set_option linter.unusedVariables false
/-- InverseOf as a function of plain data -/
def invOk (n : Int) (l : List Int) (i : Int) : Bool := groupB n l && inB i 0 (n - 1)
def invV (n : Int) (l : List Int) (i : Int) : Int := if invOk n l i = true then invF n.toNat (l.map Int.toNat) i.toNat else 0
/-- OrderOf as a function of plain data -/
def ordV (n : Int) (l : List Int) (i : Int) : Int := if invOk n l i = true then (repN n.toNat (l.map Int.toNat) i.toNat : Nat) else 0
theorem invOk_not1 {n : Int} {l : List Int} {i : Int} (h : groupB n l = false) : invOk n l i = false := by simp [invOk, h]
theorem invOk_not2 {n : Int} {l : List Int} {i : Int} (h : inB i 0 (n - 1) = false) : invOk n l i = false := by simp [invOk, h]
theorem invOk_yes {n : Int} {l : List Int} {i : Int} (h1 : groupB n l = true) (h : inB i 0 (n - 1) = true) : invOk n l i = true := by simp [invOk, h, h1]
theorem invV_not {n : Int} {l : List Int} {i : Int} (h : invOk n l i = false) : invV n l i = 0 := by simp [invV, h]
theorem ordV_not {n : Int} {l : List Int} {i : Int} (h : invOk n l i = false) : ordV n l i = 0 := by simp [ordV, h]
theorem invV_yes {m k : Nat} {ln : List Nat} (h : invOk (m : Nat) (ln.map Int.ofNat) (k : Nat) = true) : invV (m : Nat) (ln.map Int.ofNat) (k : Nat) = invF m ln k := by
  unfold invV; rw [if_pos h, map_toNat]; rfl
theorem ordV_yes {m k : Nat} {ln : List Nat} (h : invOk (m : Nat) (ln.map Int.ofNat) (k : Nat) = true) : ordV (m : Nat) (ln.map Int.ofNat) (k : Nat) = ((repN m ln k : Nat) : Int) := by
  unfold ordV; rw [if_pos h, map_toNat]; rfl
theorem inB_nat {m : Nat} {i : Int} (h : inB i 0 ((m : Nat) - 1) = true) : ∃ k : Nat, i = (k : Nat) ∧ k < m := by
  have := inB_bounds h
  exact ⟨i.toNat, by omega, by omega⟩
theorem ret_ib {a b : Int} {p q : Bool} (h : a = b) (h2 : p = q) : Ending.returned (.tuple #[.int .i64 a, .bool p]) = .returned (.tuple #[.int .i64 b, .bool q]) := by rw [h, h2]
theorem ret_ii {a b c d : Int} (h : a = b) (h2 : c = d) : Ending.returned (.tuple #[.int .i64 a, .int .i64 c]) = .returned (.tuple #[.int .i64 b, .int .i64 d]) := by rw [h, h2]
set_option maxHeartbeats 1000000 in
theorem implInverseOf_any (n : Int) (l : List Int) (a : Option Addr) (cap : Nat) (i : Int) (w : World) (hl : IntsIn w a l) (hlen : l.length ≤ 2 ^ 47) (hcap : l.length ≤ cap ∧ cap ≤ maxLen) :
    Calls Try.prog 35 #[.agg #[.int .i64 n, .slice a l.length cap], .int .i64 i] w fun e w' => e = .returned (.tuple #[.int .i64 (invV n l i), .bool (invOk n l i)]) ∧ Below w.heap.size w w' := by
  have HI := Lib.hid hl
  have HC := Lib.hid hcap
  clear hl hcap
  cases hg : groupB n l
  · have F := Lib.hid (invV_not (invOk_not1 (i := i) hg))
    have F2 := Lib.hid (invOk_not1 (i := i) hg)
    go_enter Try.func35, Try.ntmps35
    go_wp2_with fail
    refine (implIsGroup_any n l a cap _ (HI.out.later ((Below.refl _ _).alloc (Nat.le_refl _) _)) hlen).mono ?_
    rintro e w1 ⟨h2, hb1⟩
    rw [hg] at h2
    subst h2
    have hbel := Below.now ((Below.refl w.heap.size w).alloc (Nat.le_refl _) _) hb1
    clear hb1
    go_wp2_with fail
    go_ret2
    exact ⟨ret_ib F.out.symm F2.out.symm, hbel⟩
  obtain ⟨m, ln, rfl, hlm, hG⟩ := groupB_out hg
  have HG := Lib.hid hG
  have hm0 := hG.lo
  have hm1 := hG.hi
  have HLM := Lib.hid hlm
  have HLL : Hid (l.length = m * m) := by rw [hlm, List.length_map]; exact hG.len
  have HGB : Hid (groupB (m : Nat) l = true) := hg
  clear hG hlm
  cases hi : inB i 0 ((m : Nat) - 1)
  · have F := Lib.hid (invV_not (invOk_not2 (l := l) hi))
    have F2 := Lib.hid (invOk_not2 (l := l) hi)
    go_enter Try.func35, Try.ntmps35
    go_wp2_with fail
    refine (implIsGroup_any _ l a cap _ (HI.out.later ((Below.refl _ _).alloc (Nat.le_refl _) _)) hlen).mono ?_
    rintro e w1 ⟨h2, hb1⟩
    rw [HGB.out] at h2
    subst h2
    have x0 := box_later hb1 (i := 0) (v := .int .i64 (m : Nat)) rfl _ (Below.refl _ _)
    have x1 := box_later hb1 (i := 1) (v := .slice a l.length cap) rfl _ (Below.refl _ _)
    have hbel := Below.now ((Below.refl w.heap.size w).alloc (Nat.le_refl _) _) hb1
    clear hb1
    go_wp2_with fail
    refine (has_any m _ _ _ hm0 hm1).mono ?_
    rintro e w2 ⟨h2, hb2⟩
    rw [hi] at h2
    subst h2
    replace x0 := (hb2.cell (World.block_lt_of_cell? _ _ x0)).trans x0
    replace x1 := (hb2.cell (World.block_lt_of_cell? _ _ x1)).trans x1
    replace hbel := Below.now hbel hb2
    clear hb2
    go_wp2_with fail
    go_ret2
    exact ⟨ret_ib F.out.symm F2.out.symm, hbel⟩
  · have F2 := Lib.hid (invOk_yes HGB.out hi)
    obtain ⟨k, rfl, hk⟩ := inB_nat hi
    have F : Hid (invV (m : Nat) l (k : Nat) = invF m ln k) := by have := F2.out; rw [HLM.out] at this ⊢; exact invV_yes this
    go_enter Try.func35, Try.ntmps35
    go_wp2_with fail
    refine (implIsGroup_any _ l a cap _ (HI.out.later ((Below.refl _ _).alloc (Nat.le_refl _) _)) hlen).mono ?_
    rintro e w1 ⟨h2, hb1⟩
    rw [HGB.out] at h2
    subst h2
    have x0 := box_later hb1 (i := 0) (v := .int .i64 (m : Nat)) rfl _ (Below.refl _ _)
    have x1 := box_later hb1 (i := 1) (v := .slice a l.length cap) rfl _ (Below.refl _ _)
    have hbel := Below.now ((Below.refl w.heap.size w).alloc (Nat.le_refl _) _) hb1
    clear hb1
    go_wp2_with fail
    refine (has_any m _ _ _ hm0 hm1).mono ?_
    rintro e w2 ⟨h2, hb2⟩
    rw [hi] at h2
    subst h2
    replace x0 := (hb2.cell (World.block_lt_of_cell? _ _ x0)).trans x0
    replace x1 := (hb2.cell (World.block_lt_of_cell? _ _ x1)).trans x1
    replace hbel := Below.now hbel hb2
    clear hb2
    go_wp2_with fail
    refine (inverse_any m ln a _ cap k _ (by unfold NatsIn; rw [← HLM.out]; exact HI.out.later hbel) HG.out HLL.out HC.out.1 HC.out.2 hk).mono ?_
    rintro e w5 ⟨rfl, hb5⟩
    replace hbel := Below.now hbel hb5
    clear hb5 x0 x1
    go_wp2_with fail
    go_ret2
    exact ⟨ret_ib F.out.symm F2.out.symm, hbel⟩
set_option maxHeartbeats 1000000 in
theorem specInverseOf_any (n : Int) (l : List Int) (a : Option Addr) (cap : Nat) (i : Int) (w : World) (hl : IntsIn w a l) (hlen : l.length ≤ 2 ^ 47) :
    Calls Try.prog 34 #[.agg #[.int .i64 n, .slice a l.length cap], .int .i64 i] w fun e w' => e = .returned (.tuple #[.int .i64 (invV n l i), .bool (invOk n l i)]) ∧ Below w.heap.size w w' := by
  have HI := Lib.hid hl
  clear hl
  cases hg : groupB n l
  · have F := Lib.hid (invV_not (invOk_not1 (i := i) hg))
    have F2 := Lib.hid (invOk_not1 (i := i) hg)
    go_enter Try.func34, Try.ntmps34
    go_wp2_with fail
    refine (specIsGroup_any n l a cap _ (HI.out.later ((Below.refl _ _).alloc (Nat.le_refl _) _)) hlen).mono ?_
    rintro e w1 ⟨h2, hb1⟩
    rw [hg] at h2
    subst h2
    have hbel := Below.now ((Below.refl w.heap.size w).alloc (Nat.le_refl _) _) hb1
    clear hb1
    go_wp2_with fail
    go_ret2
    exact ⟨ret_ib F.out.symm F2.out.symm, hbel⟩
  obtain ⟨m, ln, rfl, hlm, hG⟩ := groupB_out hg
  have HG := Lib.hid hG
  have hm0 := hG.lo
  have hm1 := hG.hi
  have HLM := Lib.hid hlm
  have HLL : Hid (l.length = m * m) := by rw [hlm, List.length_map]; exact hG.len
  have HGB : Hid (groupB (m : Nat) l = true) := hg
  clear hG hlm
  cases hi : inB i 0 ((m : Nat) - 1)
  · have F := Lib.hid (invV_not (invOk_not2 (l := l) hi))
    have F2 := Lib.hid (invOk_not2 (l := l) hi)
    go_enter Try.func34, Try.ntmps34
    go_wp2_with fail
    refine (specIsGroup_any _ l a cap _ (HI.out.later ((Below.refl _ _).alloc (Nat.le_refl _) _)) hlen).mono ?_
    rintro e w1 ⟨h2, hb1⟩
    rw [HGB.out] at h2
    subst h2
    have x0 := box_later hb1 (i := 0) (v := .int .i64 (m : Nat)) rfl _ (Below.refl _ _)
    have x1 := box_later hb1 (i := 1) (v := .slice a l.length cap) rfl _ (Below.refl _ _)
    have hbel := Below.now ((Below.refl w.heap.size w).alloc (Nat.le_refl _) _) hb1
    clear hb1
    go_wp2_with fail
    refine (l01In_any _ _ _ _).mono ?_
    rintro e w2 ⟨h2, rfl⟩
    rw [hi] at h2
    subst h2
    go_wp2_with fail
    go_ret2
    exact ⟨ret_ib F.out.symm F2.out.symm, hbel⟩
  · have F2 := Lib.hid (invOk_yes HGB.out hi)
    obtain ⟨k, rfl, hk⟩ := inB_nat hi
    have F : Hid (invV (m : Nat) l (k : Nat) = invF m ln k) := by have := F2.out; rw [HLM.out] at this ⊢; exact invV_yes this
    go_enter Try.func34, Try.ntmps34
    go_wp2_with fail
    refine (specIsGroup_any _ l a cap _ (HI.out.later ((Below.refl _ _).alloc (Nat.le_refl _) _)) hlen).mono ?_
    rintro e w1 ⟨h2, hb1⟩
    rw [HGB.out] at h2
    subst h2
    have x0 := box_later hb1 (i := 0) (v := .int .i64 (m : Nat)) rfl _ (Below.refl _ _)
    have x1 := box_later hb1 (i := 1) (v := .slice a l.length cap) rfl _ (Below.refl _ _)
    have hbel := Below.now ((Below.refl w.heap.size w).alloc (Nat.le_refl _) _) hb1
    clear hb1
    go_wp2_with fail
    refine (l01In_any _ _ _ _).mono ?_
    rintro e w2 ⟨h2, rfl⟩
    rw [hi] at h2
    subst h2
    go_wp2_with fail
    refine (l08Inverse_any m ln a _ cap k _ (by unfold NatsIn; rw [← HLM.out]; exact HI.out.later hbel) HG.out.toTb HLL.out hk).mono ?_
    rintro e w5 ⟨rfl, hb5⟩
    replace hbel := Below.now hbel hb5
    clear hb5 x0 x1
    go_wp2_with fail
    go_ret2
    exact ⟨ret_ib F.out.symm F2.out.symm, hbel⟩
set_option maxHeartbeats 1000000 in
theorem implOrderOf_any (n : Int) (l : List Int) (a : Option Addr) (cap : Nat) (i : Int) (w : World) (hl : IntsIn w a l) (hlen : l.length ≤ 2 ^ 47) :
    Calls Try.prog 37 #[.agg #[.int .i64 n, .slice a l.length cap], .int .i64 i] w fun e w' => e = .returned (.int .i64 (ordV n l i)) ∧ Below w.heap.size w w' := by
  have HI := Lib.hid hl
  clear hl
  cases hg : groupB n l
  · have F := Lib.hid (ordV_not (invOk_not1 (i := i) hg))
    have F2 := Lib.hid (invOk_not1 (i := i) hg)
    go_enter Try.func37, Try.ntmps37
    go_wp2_with fail
    refine (implIsGroup_any n l a cap _ (HI.out.later ((Below.refl _ _).alloc (Nat.le_refl _) _)) hlen).mono ?_
    rintro e w1 ⟨h2, hb1⟩
    rw [hg] at h2
    subst h2
    have hbel := Below.now ((Below.refl w.heap.size w).alloc (Nat.le_refl _) _) hb1
    clear hb1
    go_wp2_with fail
    go_ret
    exact ⟨ret_int F.out.symm, hbel⟩
  obtain ⟨m, ln, rfl, hlm, hG⟩ := groupB_out hg
  have HG := Lib.hid hG
  have hm0 := hG.lo
  have hm1 := hG.hi
  have HLM := Lib.hid hlm
  have HLL : Hid (l.length = m * m) := by rw [hlm, List.length_map]; exact hG.len
  have HGB : Hid (groupB (m : Nat) l = true) := hg
  clear hG hlm
  cases hi : inB i 0 ((m : Nat) - 1)
  · have F := Lib.hid (ordV_not (invOk_not2 (l := l) hi))
    have F2 := Lib.hid (invOk_not2 (l := l) hi)
    go_enter Try.func37, Try.ntmps37
    go_wp2_with fail
    refine (implIsGroup_any _ l a cap _ (HI.out.later ((Below.refl _ _).alloc (Nat.le_refl _) _)) hlen).mono ?_
    rintro e w1 ⟨h2, hb1⟩
    rw [HGB.out] at h2
    subst h2
    have x0 := box_later hb1 (i := 0) (v := .int .i64 (m : Nat)) rfl _ (Below.refl _ _)
    have x1 := box_later hb1 (i := 1) (v := .slice a l.length cap) rfl _ (Below.refl _ _)
    have hbel := Below.now ((Below.refl w.heap.size w).alloc (Nat.le_refl _) _) hb1
    clear hb1
    go_wp2_with fail
    refine (has_any m _ _ _ hm0 hm1).mono ?_
    rintro e w2 ⟨h2, hb2⟩
    rw [hi] at h2
    subst h2
    replace x0 := (hb2.cell (World.block_lt_of_cell? _ _ x0)).trans x0
    replace x1 := (hb2.cell (World.block_lt_of_cell? _ _ x1)).trans x1
    replace hbel := Below.now hbel hb2
    clear hb2
    go_wp2_with fail
    go_ret
    exact ⟨ret_int F.out.symm, hbel⟩
  · have F2 := Lib.hid (invOk_yes HGB.out hi)
    obtain ⟨k, rfl, hk⟩ := inB_nat hi
    have F : Hid (ordV (m : Nat) l (k : Nat) = ((repN m ln k : Nat) : Int)) := by have := F2.out; rw [HLM.out] at this ⊢; exact ordV_yes this
    go_enter Try.func37, Try.ntmps37
    go_wp2_with fail
    refine (implIsGroup_any _ l a cap _ (HI.out.later ((Below.refl _ _).alloc (Nat.le_refl _) _)) hlen).mono ?_
    rintro e w1 ⟨h2, hb1⟩
    rw [HGB.out] at h2
    subst h2
    have x0 := box_later hb1 (i := 0) (v := .int .i64 (m : Nat)) rfl _ (Below.refl _ _)
    have x1 := box_later hb1 (i := 1) (v := .slice a l.length cap) rfl _ (Below.refl _ _)
    have hbel := Below.now ((Below.refl w.heap.size w).alloc (Nat.le_refl _) _) hb1
    clear hb1
    go_wp2_with fail
    refine (has_any m _ _ _ hm0 hm1).mono ?_
    rintro e w2 ⟨h2, hb2⟩
    rw [hi] at h2
    subst h2
    replace x0 := (hb2.cell (World.block_lt_of_cell? _ _ x0)).trans x0
    replace x1 := (hb2.cell (World.block_lt_of_cell? _ _ x1)).trans x1
    replace hbel := Below.now hbel hb2
    clear hb2
    go_wp2_with fail
    obtain ⟨hN1, hN2, hN3⟩ := HG.out.order hk
    have hN4 := HG.out.toTb.repN_le hk
    have HN2 := Lib.hid hN2
    have HN3 := Lib.hid hN3
    have HN1 : Hid (∀ W, Below w2.heap.size w2 W → NatsIn W a ln) := fun W hW => by unfold NatsIn; rw [← HLM.out]; exact (HI.out.later hbel).later hW
    have hx0 : ∀ W, Below w2.heap.size w2 W → W.cell? ⟨w.heap.size, 0, none⟩ = some (.int .i64 (m : Nat)) := fun W hW => (hW.cell (World.block_lt_of_cell? _ _ x0)).trans x0
    have hx1 : ∀ W, Below w2.heap.size w2 W → W.cell? ⟨w.heap.size, 1, none⟩ = some (.slice a l.length cap) := fun W hW => (hW.cell (World.block_lt_of_cell? _ _ x1)).trans x1
    have HB := Lib.hid hbel
    have hb0 := Below.refl w2.heap.size w2
    clear hN2 hN3 hbel x0 x1
    go_loopw [5] (fun v wr => ∃ c : Nat, 1 ≤ c ∧ c ≤ repN m ln k ∧ v = .int .i64 c ∧ Below w2.heap.size w2 wr) (fun v _ => 100 - (intOf v).toNat)
    case atStart => exact ⟨1, Nat.le_refl _, hN1, rfl, hb0⟩
    case round =>
      clear hb0
      obtain ⟨c, hc1, hc2, rfl, hbw⟩ := hrel
      go_wp2_with fail
      refine (power_any m ln a _ _ k c _ (HN1.out _ hbw) HG.out.toTb HLL.out hk (by omega)).mono ?_
      rintro e w5 ⟨rfl, hb5⟩
      replace hbw := Below.now hbw hb5
      clear hb5
      by_cases hlt : c < repN m ln k
      · have hne : ((((pw m ln k c : Nat) : Int) == 0) = false) := by have := HN3.out c hc1 hlt; simp; omega
        go_wp2_with fail
        go_roundw
        case rel => exact ⟨c + 1, by omega, by omega, by go_num, hbw⟩
        case measure => simp [intOf]; omega
      · obtain rfl : c = repN m ln k := by omega
        have hne : ((((pw m ln k (repN m ln k) : Nat) : Int) == 0) = true) := by rw [HN2.out]; rfl
        go_wp2_with fail
        go_ret
        exact ⟨ret_int F.out.symm, Below.now HB.out hbw⟩
end Go.Proofs.Ytkkffaiacipibaa
