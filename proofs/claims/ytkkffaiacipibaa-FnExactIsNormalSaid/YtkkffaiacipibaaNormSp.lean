/-
  The reference's IsNormal.
-/
import Derived.Test.YtkkffaiacipibaaNormal
namespace Go.Proofs.Ytkkffaiacipibaa
open Go.RowKit
set_option linter.unusedVariables false
set_option maxRecDepth 100000 in
set_option maxHeartbeats 2000000 in
theorem specIsNormal_any (n : Int) (l : List Int) (a : Option Addr) (cap : Nat) (z : List Int) (az : Option Addr) (cz : Nat) (w : World) (hl : IntsIn w a l) (hlen : l.length ≤ 2 ^ 47) (hz : IntsIn w az z) (hzl : z.length ≤ 2 ^ 47) :
    Calls Try.prog 45 #[.agg #[.int .i64 n, .slice a l.length cap], .slice az z.length cz] w fun e w' => e = .returned (.bool (normB n l z)) ∧ Below w.heap.size w w' := by
  have HI := Lib.hid hl
  have HZ := Lib.hid hz
  clear hl hz
  cases hg : subOk n l z
  · have F := Lib.hid (normB_not hg)
    go_enter Try.func45, Try.ntmps45
    go_wp2_with fail
    refine (l10Ok_any n l a cap z az cz _ (HI.out.later ((Below.refl _ _).alloc (Nat.le_refl _) _)) hlen (HZ.out.later ((Below.refl _ _).alloc (Nat.le_refl _) _)) hzl).mono ?_
    rintro e w1 ⟨h2, hb1⟩
    rw [hg] at h2
    subst h2
    have hbel := Below.now ((Below.refl w.heap.size w).alloc (Nat.le_refl _) _) hb1
    clear hb1
    go_wp2_with fail
    go_ret
    exact ⟨ret_bool F.out.symm, hbel⟩
  · have HOK := Lib.hid hg
    obtain ⟨hgr, hr⟩ := subOk_out hg
    obtain ⟨m, ln, rfl, hlm, hG⟩ := groupB_out hgr
    obtain ⟨zn, hzn, hzm⟩ := rng_nats hr
    have FN : Hid (normB (m : Nat) l z = (List.range m).all (norX m ln zn)) := by
      have := HOK.out
      rw [← nor_swap]
      rw [hlm, hzn] at this ⊢
      exact normB_yes this
    have HG := Lib.hid hG
    have hm0 := hG.lo
    have hm1 := hG.hi
    have hnl := subN_le m ln zn
    have HNL := Lib.hid (subN_len m ln zn)
    have HLM := Lib.hid hlm
    have HLL : Hid (l.length = m * m) := Lib.hid (by rw [hlm, List.length_map]; exact hG.len)
    have HZN := Lib.hid hzn
    have HZM := Lib.hid hzm
    have HZL : Hid (z.length = zn.length) := Lib.hid (by rw [hzn, List.length_map])
    clear hgr hr hlm hG hzn hzm hg
    go_enter Try.func45, Try.ntmps45
    go_wp2_with fail
    refine (l10Ok_any _ l a cap z az cz _ (HI.out.later ((Below.refl _ _).alloc (Nat.le_refl _) _)) hlen (HZ.out.later ((Below.refl _ _).alloc (Nat.le_refl _) _)) hzl).mono ?_
    rintro e w1 ⟨h2, hb1⟩
    rw [HOK.out] at h2
    subst h2
    have x0 := box_later hb1 (i := 0) (v := .int .i64 (m : Nat)) rfl
    have x1 := box_later hb1 (i := 1) (v := .slice a l.length cap) rfl
    have v0 := x0 _ (Below.refl _ _)
    have v1 := x1 _ (Below.refl _ _)
    have hbel := Below.now ((Below.refl w.heap.size w).alloc (Nat.le_refl _) _) hb1
    clear hb1
    have hC := l10Sub_any m ln a l.length cap zn az cz w1 (by unfold NatsIn; rw [← HLM.out]; exact HI.out.later hbel) HG.out.toTb HLL.out (by unfold NatsIn; rw [← HZN.out]; exact HZ.out.later hbel) HZM.out (by rw [← HZL.out]; exact hzl)
    rw [← HZL.out] at hC
    have HC := Lib.hid hC
    have HBL := Lib.hid hbel
    clear hC hbel
    go_wp2_with fail
    refine HC.out.mono ?_
    rintro e w2 ⟨g, rfl, hr2, hb2⟩
    have HR2 := Lib.hid hr2
    have HB2 := Lib.hid (Below.now HBL.out hb2)
    have y0 : ∀ W, Below w2.heap.size w2 W → W.cell? ⟨w.heap.size, 0, none⟩ = some (.int .i64 (m : Nat)) := fun W hW => x0 W (Below.now hb2 hW)
    have y1 : ∀ W, Below w2.heap.size w2 W → W.cell? ⟨w.heap.size, 1, none⟩ = some (.slice a l.length cap) := fun W hW => x1 W (Below.now hb2 hW)
    have HN2 : Hid (∀ W, Below w2.heap.size w2 W → NatsIn W a ln) := fun W hW => by unfold NatsIn; rw [← HLM.out]; exact HI.out.later (Below.now HB2.out hW)
    have hb0 := Below.refl w2.heap.size w2
    clear hr2 hb2 x0 x1 v0 v1 HC
    go_wp2_with fail
    go_loopw [6] (fun i wr => ∃ x : Nat, x ≤ m ∧ i = .int .i64 x ∧ upto (norX m ln zn) x ∧ Below w2.heap.size w2 wr) (fun i _ => m - (intOf i).toNat)
    case atStart => exact ⟨0, Nat.zero_le _, rfl, upto_zero _, hb0⟩
    case round =>
      clear hb0
      obtain ⟨x, hxm, rfl, hup, hbw⟩ := hrel
      have HU := Lib.hid hup
      have v0 := y0 _ hbw
      clear hup
      by_cases hlx : x < m
      · have HL9 := Lib.hid (l09List_any m g _ wr _ (HR2.out.later hbw) (by omega))
        go_wp2_with fail
        refine HL9.out.mono ?_
        rintro e w3 ⟨a3, c3, rfl, ho3, hb3⟩
        have hbw3 := Below.now hbw hb3
        have hLn : (listTo (inSub m ln zn) m).length = (subN m ln zn).length := HNL.out.symm
        have HN3 : Hid (NatsIn w3 a3 (subN m ln zn)) := Lib.hid (by unfold NatsIn; exact owns_ints ho3)
        rw [hLn]
        have hb30 := Below.refl w3.heap.size w3
        clear ho3 hb3 hbw hLn v0 HL9
        go_wp2_with fail
        go_loopw [25] (fun i wr => ∃ j : Nat, j ≤ (subN m ln zn).length ∧ i = .int .i64 j ∧ uptoL (fun h => norB m ln zn h x) (subN m ln zn) j ∧ Below w3.heap.size w3 wr) (fun i _ => (subN m ln zn).length - (intOf i).toNat)
        case atStart => exact ⟨0, Nat.zero_le _, rfl, uptoL_zero _ _, hb30⟩
        case round =>
          clear hb30
          obtain ⟨j, hj, rfl, hup, hbw⟩ := hrel
          have HV := Lib.hid hup
          clear hup
          have hb2w := Below.now hbw3 hbw
          by_cases hlt : j < (subN m ln zn).length
          · obtain ⟨bz, oz, hbz, hcz⟩ := nats_cell HN3.out hlt
            subst hbz
            have hcj := hcz _ hbw
            have hjm : (subN m ln zn)[j] < m := subN_lt (List.getElem_mem hlt)
            have HS1 := Lib.hid (fun h => uptoL_succ (p := fun h => norB m ln zn h x) hlt HV.out h)
            have HS2 := Lib.hid (fun h => all_at (p := fun h => norB m ln zn h x) hlt h)
            have z1 := y0 _ hb2w
            have z2 := y1 _ hb2w
            generalize hy : (subN m ln zn)[j] = y at *
            clear hy hcz
            have hcy := HG.out.cj_lt hlx hjm
            have HT := Lib.hid (l10Turn_any m ln a l.length cap x y wr (HN2.out _ hb2w) HG.out HLL.out hlx hjm)
            go_wp2_with fail
            refine HT.out.mono ?_
            rintro e w4 ⟨rfl, hb4⟩
            have hbw4 := Below.now hbw hb4
            have hcell := (HR2.out.later (Below.now hb2w hb4)).cell hcy
            have hcell2 : w4.cell? ⟨g, cj m ln x y, none⟩ = some (.bool (norB m ln zn y x)) := hcell
            clear hb4 z1 z2 hcj hbw HT hcell
            cases hn : norB m ln zn y x
            · rw [hn] at hcell2
              have F9 : Hid (normB (m : Nat) l z = false) := by rw [FN.out]; exact all_range_false hlx (HS2.out hn)
              go_wp2_with fail
              go_ret
              exact ⟨ret_bool F9.out.symm, Below.now HB2.out (Below.now hbw3 hbw4)⟩
            · rw [hn] at hcell2
              have F9 := Lib.hid (HS1.out hn)
              go_wp2_with fail
              go_roundw
              case rel => exact ⟨j + 1, by omega, by go_num, F9.out, hbw4⟩
              case measure => simp [intOf]; omega
          · have F9 := Lib.hid (upto_succ HU.out (show norX m ln zn x = true from uptoL_full hlt HV.out))
            go_wp2_with fail
            go_roundw
            case rel => exact ⟨x + 1, by omega, by go_num, F9.out, hb2w⟩
            case measure => simp [intOf]; omega
      · have F9 : Hid (normB (m : Nat) l z = true) := by rw [FN.out]; exact upto_all HU.out hlx
        go_wp2_with fail
        go_ret
        exact ⟨ret_bool F9.out.symm, Below.now HB2.out hbw⟩
end Go.Proofs.Ytkkffaiacipibaa
