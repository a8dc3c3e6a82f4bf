/-
  The reference's CosetsOf.
-/
import Derived.Test.YtkkffaiacipibaaCosets
namespace Go.Proofs.Ytkkffaiacipibaa
open Go.RowKit
set_option linter.unusedVariables false
def negs (j : Nat) : List Value := (List.range j).map fun _ => Value.int .i64 (-1)
theorem negs_succ (j : Nat) : negs (j + 1) = negs j ++ [.int .i64 (-1)] := by simp [negs, List.range_succ]
set_option maxRecDepth 100000 in
set_option maxHeartbeats 4000000 in
theorem specCosetsOf_any (n : Int) (l : List Int) (a : Option Addr) (cap : Nat) (z : List Int) (az : Option Addr) (cz : Nat) (w : World) (hl : IntsIn w a l) (hlen : l.length ≤ 2 ^ 47) (hz : IntsIn w az z) (hzl : z.length ≤ 2 ^ 47) :
    Calls Try.prog 51 #[.agg #[.int .i64 n, .slice a l.length cap], .slice az z.length cz] w (RetSl 3 1 (cosF n l z).length (intVals (cosF n l z)) w) := by
  have HI := Lib.hid hl
  have HZ := Lib.hid hz
  clear hl hz
  cases hg : subOk n l z
  · have F : Hid (∀ w', Below w.heap.size w w' → RetSl 3 1 (cosF n l z).length (intVals (cosF n l z)) w (.returned (.slice none 0 0)) w') := fun w' hb => by
      rw [cosF_not hg]; exact retSl_nil _ _ _ hb
    go_enter Try.func51, Try.ntmps51
    go_wp2_with fail
    refine (l10Ok_any n l a cap z az cz _ (HI.out.later ((Below.refl _ _).alloc (Nat.le_refl _) _)) hlen (HZ.out.later ((Below.refl _ _).alloc (Nat.le_refl _) _)) hzl).mono ?_
    rintro e w1 ⟨h2, hb1⟩
    rw [hg] at h2
    subst h2
    have hbel := Below.now ((Below.refl w.heap.size w).alloc (Nat.le_refl _) _) hb1
    clear hb1
    go_wp2_with fail
    go_ret
    exact F.out _ hbel
  · have HOK := Lib.hid hg
    obtain ⟨hgr, hr⟩ := subOk_out hg
    obtain ⟨m, ln, rfl, hlm, hG⟩ := groupB_out hgr
    obtain ⟨zn, hzn, hzm⟩ := rng_nats hr
    have FN : Hid (cosF (m : Nat) l z = numO (cosP m ln zn) m) := by
      have := HOK.out
      rw [hlm, hzn] at this ⊢
      exact cosF_yes this
    have HG := Lib.hid hG
    have hm0 := hG.lo
    have hm1 := hG.hi
    have hnl := subN_le m ln zn
    have HNL := Lib.hid (subN_len m ln zn)
    have HLM := Lib.hid hlm
    have HLL : Hid (l.length = m * m) := Lib.hid (by rw [hlm, List.length_map]; exact hG.len)
    have HZN := Lib.hid hzn
    have HZM := Lib.hid hzm
    have HZL : Hid (z.length = zn.length) := Lib.hid (by rw [hzn, List.length_map])
    have HCW := Lib.hid (fun c hc hn x hx => cosW_full (z := zn) hG hzm (c := c) hc hn (x := x) hx)
    have HFU : Hid (numO (cosP m ln zn) m = (List.range m).map (numI (cosP m ln zn) (numF (cosP m ln zn) m))) := Lib.hid (numO_full fun i hi => cosP_refl hG hzm hi)
    clear hgr hr hlm hG hzn hzm hg
    go_enter Try.func51, Try.ntmps51
    go_wp2_with fail
    refine (l10Ok_any _ l a cap z az cz _ (HI.out.later ((Below.refl _ _).alloc (Nat.le_refl _) _)) hlen (HZ.out.later ((Below.refl _ _).alloc (Nat.le_refl _) _)) hzl).mono ?_
    rintro e w1 ⟨h2, hb1⟩
    rw [HOK.out] at h2
    subst h2
    have x0 := box_later hb1 (i := 0) (v := .int .i64 (m : Nat)) rfl
    have x1 := box_later hb1 (i := 1) (v := .slice a l.length cap) rfl
    have v0 := x0 _ (Below.refl _ _)
    have v1 := x1 _ (Below.refl _ _)
    have hbel := Below.now ((Below.refl w.heap.size w).alloc (Nat.le_refl _) _) hb1
    clear hb1
    have hC := l10Sub_any m ln a l.length cap zn az cz w1 (by unfold NatsIn; rw [← HLM.out]; exact HI.out.later hbel) HG.out.toTb HLL.out (by unfold NatsIn; rw [← HZN.out]; exact HZ.out.later hbel) HZM.out (by rw [← HZL.out]; exact hzl)
    rw [← HZL.out] at hC
    have HC := Lib.hid hC
    have HBL := Lib.hid hbel
    clear hC hbel
    go_wp2_with fail
    refine HC.out.mono ?_
    rintro e w2 ⟨g0, rfl, hr2, hb2⟩
    have HL9 := Lib.hid (l09List_any m g0 _ w2 _ hr2 (by omega))
    have hb12 := hb2
    clear hr2 hb2 HC
    go_wp2_with fail
    refine HL9.out.mono ?_
    rintro e w3 ⟨a3, c3, rfl, ho3, hb3⟩
    have hb13 := Below.now hb12 hb3
    have HB3 := Lib.hid (Below.now HBL.out hb13)
    have HN3 : Hid (NatsIn w3 a3 (subN m ln zn)) := Lib.hid (by unfold NatsIn; exact owns_ints ho3)
    have y0 : Hid (∀ W, Below w3.heap.size w3 W → W.cell? ⟨w.heap.size, 0, none⟩ = some (.int .i64 (m : Nat))) := Lib.hid (fun W hW => x0 W (Below.now hb13 hW))
    have y1 : Hid (∀ W, Below w3.heap.size w3 W → W.cell? ⟨w.heap.size, 1, none⟩ = some (.slice a l.length cap)) := Lib.hid (fun W hW => x1 W (Below.now hb13 hW))
    have HNT : Hid (∀ W, Below w3.heap.size w3 W → NatsIn W a ln) := Lib.hid (fun W hW => by unfold NatsIn; rw [← HLM.out]; exact HI.out.later (Below.now HB3.out hW))
    have hLn : (listTo (inSub m ln zn) m).length = (subN m ln zn).length := HNL.out.symm
    rw [hLn]
    clear ho3 hb3 hb12 hb13 hLn HL9 x0 x1 v0 v1
    have HS : Hid (Bld 3 1 w3 (w3.alloc (.cells #[] 3)) (.slice (some ⟨w3.heap.size, 0, none⟩) 0 0) 0 (negs 0)) := Lib.hid (Bld.empty 3 1 w3)
    go_wp2_with fail
    go_loopw [6, 7] (fun v i wr => ∃ j : Nat, j ≤ m ∧ i = .int .i64 j ∧ Bld 3 1 w3 wr v j (negs j)) (fun _ i _ => m - (intOf i).toNat)
    case atStart => exact ⟨0, Nat.zero_le _, rfl, HS.out⟩
    case round =>
      clear HS
      obtain ⟨j, hj, rfl, hb⟩ := hrel
      have HO := Lib.hid hb
      have r0 := y0.out _ hb.2
      clear hb
      by_cases hlt : j < m
      · have HR := Lib.hid (negs_succ j)
        go_wp2_with (at_builtin; refine wpList_app1 rfl _ _ rfl Try.underlying22 Try.infoInt rfl (by decide) rfl HO.out rfl rfl ?c1 ?c2 ?c3 ?c4)
        case c1 => simp [Value.oneCell']
        case c2 => unfold maxLen; omega
        case c3 => omega
        intro v2 w2 hb2
        have F2 : Hid (Bld 3 1 w3 w2 v2 (j + 1) (negs (j + 1))) := Lib.hid (by rw [HR.out]; exact hb2)
        clear hb2
        go_wp2_with fail
        go_roundw
        case rel => exact ⟨j + 1, by omega, by go_num, F2.out⟩
        case measure => simp [intOf]; omega
      · obtain rfl : j = m := by omega
        obtain ⟨g, c, rfl⟩ := owns_some HO.out.1 hm0
        have HR : Hid (IntRow wr w3.heap.size g j c (numI (cosP j ln zn) (numF (cosP j ln zn) 0))) := Lib.hid HO.out.1
        have HW := Lib.hid HO.out.2
        have hgl := (HO.out.1.lt g rfl).1
        clear HO
        go_wp2_with fail
        clear r0
        go_loopw [8, 32] (fun b i wr => ∃ x : Nat, x ≤ j ∧ i = .int .i64 x ∧ b = .int .i64 (((numF (cosP j ln zn) x).length : Nat) : Int) ∧ Below w3.heap.size w3 wr ∧ IntRow wr w3.heap.size g j c (numI (cosP j ln zn) (numF (cosP j ln zn) x))) (fun _ i _ => j - (intOf i).toNat)
        case atStart => exact ⟨0, Nat.zero_le _, rfl, rfl, HW.out, HR.out⟩
        case round =>
          clear HR HW
          obtain ⟨x, hxj, rfl, rfl, hbw, hrow⟩ := hrel
          have HW := Lib.hid hbw
          have HR := Lib.hid hrow
          have hfl := numF_len (cosP j ln zn) x
          clear hbw hrow
          by_cases hlx : x < j
          · have hcx := HR.out.cell hlx
            have HY := Lib.hid (@numF_yes (cosP j ln zn) x)
            have HN := Lib.hid (@numF_no (cosP j ln zn) x)
            have HCx := Lib.hid (fun hn => HCW.out x hlx hn)
            by_cases hq : numI (cosP j ln zn) (numF (cosP j ln zn) x) x < 0
            · have HF := Lib.hid (HN.out hq)
              have HC2 := Lib.hid (HCx.out hq)
              generalize numI (cosP j ln zn) (numF (cosP j ln zn) x) x = q at *
              clear HN HY HCx
              go_wp2_with fail
              have HR0 := Lib.hid (HR.out.congr (f' := cosW j ln (subN j ln zn) x (((numF (cosP j ln zn) x).length : Nat) : Int) (numI (cosP j ln zn) (numF (cosP j ln zn) x)) 0) (fun y _ => cosW_zero ..))
              clear hcx HR
              generalize hLq : (numF (cosP j ln zn) x).length = L at *
              have HLq := Lib.hid hLq
              clear hLq
              go_loopw [42] (fun i wr => ∃ k : Nat, k ≤ (subN j ln zn).length ∧ i = .int .i64 k ∧ Below w3.heap.size w3 wr ∧ IntRow wr w3.heap.size g j c (cosW j ln (subN j ln zn) x ((L : Nat) : Int) (numI (cosP j ln zn) (numF (cosP j ln zn) x)) k)) (fun i _ => (subN j ln zn).length - (intOf i).toNat)
              case atStart => exact ⟨0, Nat.zero_le _, rfl, HW.out, HR0.out⟩
              case round =>
                clear HR0 HW
                obtain ⟨k, hk, rfl, hbw, hrow⟩ := hrel
                have HW := Lib.hid hbw
                have HR := Lib.hid hrow
                clear hbw hrow
                by_cases hlk : k < (subN j ln zn).length
                · obtain ⟨bz, oz, hbz, hcz⟩ := nats_cell HN3.out hlk
                  subst hbz
                  have hck := hcz _ HW.out
                  have hkm : (subN j ln zn)[k] < j := subN_lt (List.getElem_mem hlk)
                  have HS := Lib.hid (cosW_succ (m := j) (ln := ln) (c := x) (L := ((L : Nat) : Int)) (f := numI (cosP j ln zn) (numF (cosP j ln zn) x)) hlk)
                  generalize hy : (subN j ln zn)[k] = y at *
                  clear hy hcz
                  have hti := HG.out.toTb.tm_lt hkm hlx
                  have HT := Lib.hid (specTimes_any j ln a l.length cap y x _ (HNT.out _ HW.out) HG.out.toTb HLL.out hkm hlx)
                  have z0 := y0.out _ HW.out
                  have z1 := y1.out _ HW.out
                  go_wp2_with fail
                  refine HT.out.mono ?_
                  rintro e w5 ⟨rfl, hb5⟩
                  have HR5 := Lib.hid (HR.out.later hb5)
                  have hcell := HR5.out.cell hti
                  have hfr := HR5.out.frozen (tm j ln y x)
                  have HB9 := Lib.hid ((Below.now HW.out hb5).setCell hgl (p := ⟨g, tm j ln y x, none⟩) (.int .i64 ((L : Nat) : Int)))
                  have HR9 := Lib.hid ((HR5.out.store (tm j ln y x) ((L : Nat) : Int)).congr (fun v _ => (HS.out v).symm))
                  clear hb5 HT z0 z1 HR hck HR5 HS
                  go_wp2_with fail
                  go_roundw
                  case rel => exact ⟨k + 1, by omega, by go_num, HB9.out, HR9.out⟩
                  case measure => simp [intOf]; omega
                · obtain rfl : k = (subN j ln zn).length := by omega
                  have HR9 : Hid (IntRow wr w3.heap.size g j c (numI (cosP j ln zn) (numF (cosP j ln zn) (x + 1)))) := Lib.hid (by
                    have h1 := HR.out
                    exact h1.congr (fun v hv => HC2.out v hv))
                  have HL9 : Hid ((numF (cosP j ln zn) (x + 1)).length = L + 1) := Lib.hid (by rw [HF.out, List.length_append, HLq.out]; rfl)
                  go_wp2_with fail
                  go_roundw
                  case rel => exact ⟨x + 1, by omega, by go_num, by rw [HL9.out]; go_num, HW.out, HR9.out⟩
                  case measure => simp [intOf]; omega
            · have HF := Lib.hid (HY.out hq)
              have hq2 : 0 ≤ numI (cosP j ln zn) (numF (cosP j ln zn) x) x := by omega
              generalize numI (cosP j ln zn) (numF (cosP j ln zn) x) x = q at *
              go_wp2_with fail
              go_roundw
              case rel => exact ⟨x + 1, by omega, by go_num, by rw [HF.out], HW.out, by rw [HF.out]; exact HR.out⟩
              case measure => simp [intOf]; omega
          · obtain rfl : x = j := by omega
            have F9 : Hid (RetSl 3 1 (cosF (x : Nat) l z).length (intVals (cosF (x : Nat) l z)) w (.returned (.slice (some ⟨g, 0, none⟩) x c)) wr) := Lib.hid (by
              have h1 := HR.out
              rw [FN.out, numO_len, HFU.out]
              unfold intVals
              rw [List.map_map]
              exact ⟨_, _, rfl, owns_mono h1 HB3.out.size, Below.now HB3.out HW.out⟩)
            go_wp2_with fail
            go_ret
            exact F9.out
end Go.Proofs.Ytkkffaiacipibaa
