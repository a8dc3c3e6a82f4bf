/-
  SubgroupOf.
-/
import Derived.Test.YtkkffaiacipibaaGrpSub
namespace Go.Proofs.Ytkkffaiacipibaa
open Go.RowKit
set_option linter.unusedVariables false
/-- a table is a group and a list has only elements of it -/
def subOk (n : Int) (l z : List Int) : Bool := groupB n l && rngB n z
/-- SubgroupOf as a function of plain data -/
def subF (n : Int) (l z : List Int) : List Int := if subOk n l z = true then subL n.toNat (l.map Int.toNat) (z.map Int.toNat) else []
theorem subOk_not1 {n : Int} {l z : List Int} (h : groupB n l = false) : subOk n l z = false := by simp [subOk, h]
theorem subOk_not2 {n : Int} {l z : List Int} (h : rngB n z = false) : subOk n l z = false := by simp [subOk, h]
theorem subOk_yes {n : Int} {l z : List Int} (h1 : groupB n l = true) (h : rngB n z = true) : subOk n l z = true := by simp [subOk, h, h1]
theorem subOk_out {n : Int} {l z : List Int} (h : subOk n l z = true) : groupB n l = true ∧ rngB n z = true := by simpa [subOk] using h
theorem subF_not {n : Int} {l z : List Int} (h : subOk n l z = false) : subF n l z = [] := by simp [subF, h]
theorem map_toNat' (l : List Nat) : (l.map Int.ofNat).map Int.toNat = l := by rw [List.map_map]; exact List.map_id'' (fun x => rfl) l
theorem subF_yes {m : Nat} {ln zn : List Nat} (h : subOk (m : Nat) (ln.map Int.ofNat) (zn.map Int.ofNat) = true) : subF (m : Nat) (ln.map Int.ofNat) (zn.map Int.ofNat) = subL m ln zn := by
  unfold subF; rw [if_pos h, map_toNat', map_toNat']; rfl
theorem rng_nats {m : Nat} {z : List Int} (h : rngB (m : Nat) z = true) : ∃ zn : List Nat, z = zn.map Int.ofNat ∧ ∀ x ∈ zn, x < m := by
  unfold rngB at h
  rw [List.all_eq_true] at h
  refine ⟨z.map Int.toNat, ?_, fun x hx => ?_⟩
  · rw [List.map_map]
    symm
    have : ∀ x ∈ z, (Int.ofNat ∘ Int.toNat) x = x := fun x hx => by
      have := inB_bounds (h x hx)
      simp; omega
    rw [List.map_congr_left this]; simp
  · obtain ⟨y, hy, rfl⟩ := List.mem_map.1 hx
    have := inB_bounds (h y hy)
    omega
theorem subF_len (n : Int) (l z : List Int) : (subF n l z).length ≤ 1000 := by
  cases h : subOk n l z
  · rw [subF_not h]; simp
  · obtain ⟨hg, hr⟩ := subOk_out h
    obtain ⟨m, ln, rfl, rfl, hG⟩ := groupB_out hg
    obtain ⟨zn, rfl, _⟩ := rng_nats hr
    rw [subF_yes h]
    have := listTo_len (inSub m ln zn) m
    have := hG.hi
    unfold subL; omega
set_option maxHeartbeats 1000000 in
theorem implSubgroupOf_any (n : Int) (l : List Int) (a : Option Addr) (cap : Nat) (z : List Int) (az : Option Addr) (cz : Nat) (w : World) (hl : IntsIn w a l) (hlen : l.length ≤ 2 ^ 47) (hz : IntsIn w az z) (hzl : z.length ≤ 2 ^ 47) :
    Calls Try.prog 44 #[.agg #[.int .i64 n, .slice a l.length cap], .slice az z.length cz] w (RetSl 3 1 (subF n l z).length (intVals (subF n l z)) w) := by
  have HI := Lib.hid hl
  have HZ := Lib.hid hz
  clear hl hz
  cases hg : groupB n l
  · have F : Hid (∀ w', Below w.heap.size w w' → RetSl 3 1 (subF n l z).length (intVals (subF n l z)) w (.returned (.slice none 0 0)) w') := fun w' hb => by
      rw [subF_not (subOk_not1 hg)]; exact retSl_nil _ _ _ hb
    go_enter Try.func44, Try.ntmps44
    go_wp2_with fail
    refine (implIsGroup_any n l a cap _ (HI.out.later ((Below.refl _ _).alloc (Nat.le_refl _) _)) hlen).mono ?_
    rintro e w1 ⟨h2, hb1⟩
    rw [hg] at h2
    subst h2
    have hbel := Below.now ((Below.refl w.heap.size w).alloc (Nat.le_refl _) _) hb1
    clear hb1
    go_wp2_with fail
    go_ret
    exact F.out _ hbel
  obtain ⟨m, ln, rfl, hlm, hG⟩ := groupB_out hg
  have HG := Lib.hid hG
  have hm0 := hG.lo
  have hm1 := hG.hi
  have HLM := Lib.hid hlm
  have HLL : Hid (l.length = m * m) := by rw [hlm, List.length_map]; exact hG.len
  have HGB : Hid (groupB (m : Nat) l = true) := hg
  clear hG hlm
  cases hr : rngB (m : Nat) z
  · have F : Hid (∀ w', Below w.heap.size w w' → RetSl 3 1 (subF (m : Nat) l z).length (intVals (subF (m : Nat) l z)) w (.returned (.slice none 0 0)) w') := fun w' hb => by
      rw [subF_not (subOk_not2 hr)]; exact retSl_nil _ _ _ hb
    have HR : Hid ((z.all fun x => inB x 0 ((m : Nat) - 1)) = false) := hr
    clear hr
    go_enter Try.func44, Try.ntmps44
    go_wp2_with fail
    refine (implIsGroup_any _ l a cap _ (HI.out.later ((Below.refl _ _).alloc (Nat.le_refl _) _)) hlen).mono ?_
    rintro e w1 ⟨h2, hb1⟩
    rw [HGB.out] at h2
    subst h2
    have x0 := box_later hb1 (i := 0) (v := .int .i64 (m : Nat)) rfl _ (Below.refl _ _)
    have x1 := box_later hb1 (i := 1) (v := .slice a l.length cap) rfl _ (Below.refl _ _)
    have hbel := Below.now ((Below.refl w.heap.size w).alloc (Nat.le_refl _) _) hb1
    clear hb1
    go_wp2_with fail
    refine (allWithin_any _ _ z _ _ _ (HZ.out.later hbel) hzl).mono ?_
    rintro e w2 ⟨h2, hb2⟩
    rw [HR.out] at h2
    subst h2
    replace hbel := Below.now hbel hb2
    clear hb2
    go_wp2_with fail
    go_ret
    exact F.out _ hbel
  · obtain ⟨zn, hzn, hzm⟩ := rng_nats hr
    have F : Hid (subF (m : Nat) l z = subL m ln zn) := by
      have := subOk_yes HGB.out hr
      rw [HLM.out, hzn] at this ⊢
      exact subF_yes this
    have HZN := Lib.hid hzn
    have HZM := Lib.hid hzm
    have HZL : Hid (z.length = zn.length) := Lib.hid (by rw [hzn, List.length_map])
    have HR : Hid ((z.all fun x => inB x 0 ((m : Nat) - 1)) = true) := hr
    clear hr hzn hzm
    go_enter Try.func44, Try.ntmps44
    go_wp2_with fail
    refine (implIsGroup_any _ l a cap _ (HI.out.later ((Below.refl _ _).alloc (Nat.le_refl _) _)) hlen).mono ?_
    rintro e w1 ⟨h2, hb1⟩
    rw [HGB.out] at h2
    subst h2
    have x0 := box_later hb1 (i := 0) (v := .int .i64 (m : Nat)) rfl _ (Below.refl _ _)
    have x1 := box_later hb1 (i := 1) (v := .slice a l.length cap) rfl _ (Below.refl _ _)
    have hbel := Below.now ((Below.refl w.heap.size w).alloc (Nat.le_refl _) _) hb1
    clear hb1
    go_wp2_with fail
    refine (allWithin_any _ _ z _ _ _ (HZ.out.later hbel) hzl).mono ?_
    rintro e w2 ⟨h2, hb2⟩
    rw [HR.out] at h2
    subst h2
    replace x0 := (hb2.cell (World.block_lt_of_cell? _ _ x0)).trans x0
    replace x1 := (hb2.cell (World.block_lt_of_cell? _ _ x1)).trans x1
    replace hbel := Below.now hbel hb2
    clear hb2
    go_wp2_with fail
    have hC := subgroup_any m ln a l.length cap zn az cz w2 (by unfold NatsIn; rw [← HLM.out]; exact HI.out.later hbel) HG.out.toTb HLL.out (by unfold NatsIn; rw [← HZN.out]; exact HZ.out.later hbel) HZM.out (by rw [← HZL.out]; exact hzl)
    rw [← HZL.out] at hC
    refine hC.mono ?_
    rintro e w5 ⟨a5, c5, rfl, ho5, hb5⟩
    have F5 : Hid (RetSl 3 1 (subF (m : Nat) l z).length (intVals (subF (m : Nat) l z)) w (.returned (.slice a5 (subL m ln zn).length c5)) w5) := by
      rw [F.out]; exact ⟨_, _, rfl, owns_mono ho5 hbel.size, Below.now hbel hb5⟩
    clear hb5 ho5 x0 x1 hbel hC
    go_wp2_with fail
    go_ret
    exact F5.out
set_option maxHeartbeats 1000000 in
theorem l10Ok_any (n : Int) (l : List Int) (a : Option Addr) (cap : Nat) (z : List Int) (az : Option Addr) (cz : Nat) (w : World) (hl : IntsIn w a l) (hlen : l.length ≤ 2 ^ 47) (hz : IntsIn w az z) (hzl : z.length ≤ 2 ^ 47) :
    Calls Try.prog 79 #[.agg #[.int .i64 n, .slice a l.length cap], .slice az z.length cz] w fun e w' => e = .returned (.bool (subOk n l z)) ∧ Below w.heap.size w w' := by
  have HI := Lib.hid hl
  have HZ := Lib.hid hz
  clear hl hz
  cases hg : groupB n l
  · have F := Lib.hid (subOk_not1 (z := z) hg)
    go_enter Try.func79, Try.ntmps79
    go_wp2_with fail
    refine (specIsGroup_any n l a cap _ (HI.out.later ((Below.refl _ _).alloc (Nat.le_refl _) _)) hlen).mono ?_
    rintro e w1 ⟨h2, hb1⟩
    rw [hg] at h2
    subst h2
    have hbel := Below.now ((Below.refl w.heap.size w).alloc (Nat.le_refl _) _) hb1
    clear hb1
    go_wp2_with fail
    go_ret
    exact ⟨ret_bool F.out.symm, hbel⟩
  obtain ⟨m, ln, rfl, hlm, hG⟩ := groupB_out hg
  have hm0 := hG.lo
  have hm1 := hG.hi
  have HGB : Hid (groupB (m : Nat) l = true) := hg
  clear hG hlm
  go_enter Try.func79, Try.ntmps79
  go_wp2_with fail
  refine (specIsGroup_any _ l a cap _ (HI.out.later ((Below.refl _ _).alloc (Nat.le_refl _) _)) hlen).mono ?_
  rintro e w1 ⟨h2, hb1⟩
  rw [HGB.out] at h2
  subst h2
  have x0 := box_later hb1 (i := 0) (v := .int .i64 (m : Nat)) rfl _ (Below.refl _ _)
  have hbel := Lib.hid (Below.now ((Below.refl w.heap.size w).alloc (Nat.le_refl _) _) hb1)
  have HZ1 := Lib.hid (HZ.out.later hbel.out)
  clear hb1 HZ HI hg
  go_wp2_with fail
  go_loop [12] (fun i => ∃ j : Nat, j ≤ z.length ∧ i = .int .i64 j ∧ rngTo (m : Nat) z j) (fun i => z.length - (intOf i).toNat)
  case atStart => exact ⟨0, Nat.zero_le _, rfl, rngTo_zero _ _⟩
  case round =>
    obtain ⟨j, hj, rfl, hall⟩ := hrel
    have H := Lib.hid hall
    clear hall
    by_cases hlt : j < z.length
    · obtain ⟨b, off, rfl, hb, hc⟩ := HZ1.out.cell hlt
      have hcell := hc j hlt
      clear hc
      cases hp : inB (nthZ z j) 0 ((m : Nat) - 1)
      · have F := Lib.hid (subOk_not2 (l := l) (rngB_false hlt hp))
        go_wp2_with (go_at_call 70; refine (l01In_any _ _ _ _).mono ?_; rintro e w' ⟨rfl, rfl⟩)
        go_ret
        exact ⟨ret_bool F.out.symm, hbel.out⟩
      · have F := Lib.hid (rngTo_succ H.out hp)
        go_wp2_with (go_at_call 70; refine (l01In_any _ _ _ _).mono ?_; rintro e w' ⟨rfl, rfl⟩)
        go_round
        case rel => exact ⟨j + 1, by omega, by go_num, F.out⟩
        case measure => simp [intOf]; omega
    · have F := Lib.hid (subOk_yes HGB.out (rngTo_full H.out hlt))
      go_wp2
      go_ret
      exact ⟨ret_bool F.out.symm, hbel.out⟩
end Go.Proofs.Ytkkffaiacipibaa
