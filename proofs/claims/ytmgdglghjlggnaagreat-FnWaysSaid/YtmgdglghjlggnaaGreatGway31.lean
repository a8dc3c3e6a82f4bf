/-
  The walk of 'FnWays'.
-/
import Derived.Test.YtmgdglghjlggnaaGreatGway26
import Derived.Test.YtmgdglghjlggnaaGreatGway27
import Derived.Test.YtmgdglghjlggnaaGreatGway29
import Derived.Test.YtmgdglghjlggnaaGreatGway30
import Derived.Test.YtmgdglghjlggnaaGreatGway10
import Derived.Test.YtmgdglghjlggnaaGreatGway03
namespace Go.Proofs.YtmgdglghjlggnaaGreat.fnWays
open Go.RowKit
set_option linter.unusedVariables false
theorem maxNat {m : Nat} {ln zn : List Nat} {S : List ByteArray} {M : Nat} (h : ShortP m ln zn S) (hz4 : zn.length ≤ 4) (hm1 : 1 ≤ m) (hm : m ≤ 40) (hM : Lib.maxOf (dL m S) = (M : Int)) : M ≤ 40 ∧ (∀ x ∈ dL m S, x ≤ (M : Int)) ∧ (M : Int) ∈ dL m S := by
  obtain ⟨M2, h1, h2, h3, h4⟩ := max_dL h hz4 hm1 hm
  have e : M2 = M := by omega
  subst e
  exact ⟨h1, h3, h4⟩
theorem sphN_get {d : List Int} {n k : Nat} (h : k < n) : (sphN d n).getD k 0 = cntK d k := by
  rw [List.getD_eq_getElem?_getD, List.getElem?_eq_getElem (by rw [sphN_len]; exact h)]
  simp [sphN]
theorem sphN_sum {d : List Int} {n : Nat} (h : ∀ x ∈ d, x < (n : Int)) : (sphN d n).sum = d.countP fun x => decide (0 ≤ x) := by
  have h1 := sum_ofNat (sphN d n)
  rw [sphN_int, sph_all h] at h1
  omega
theorem far_len {m : Nat} {l : List Int} {S : List ByteArray} {M : Nat} (hT : TabG m l) (hM : Lib.maxOf (dL m S) = (M : Int)) : (thoseL (m : Nat) l (farB m S)).length = cntK (dL m S) M := by
  unfold thoseL
  rw [hT.tab, if_pos rfl, List.length_map]
  unfold cntK
  rw [dL_cnt]
  congr 1
  refine List.filter_congr fun i _ => ?_
  unfold farB
  rw [hM]
theorem img_ok {m : Nat} {ln E : List Nat} (hT : TabOk m ln) (h1 : 1 ≤ E.length) (h2 : E.length ≤ 2) (hE : ∀ x ∈ E, x < m) : ImgsOk m ln E := ⟨hT, hE, h1, by omega⟩
set_option maxRecDepth 100000 in
set_option maxHeartbeats 8000000 in
theorem walkSmall (a : Option Addr) (l : List UInt8) (cap : Nat) (w : World) (hl : BytesIn w a l) (hlen : l.length ≤ 1048576) :
    Calls Tryz.prog 3 #[.slice a l.length cap] w fun e w' => e = .returned (.bool true) ∧ Below w.heap.size w w' := by
  have hq0 : ¬ (1048576 : Int) < (l.length : Int) := by omega
  have hl40 : l.length ≤ 2 ^ 40 := by omega
  have HBY : Hid (∀ W, Below w.heap.size w W → BytesIn W a l) := Lib.hid (fun W h => hl.later h)
  have HM := Lib.hid (makeTable_any a l cap 0 w hl (by omega) (by omega))
  clear hl
  go_enter Tryz.func3, Tryz.ntmps3
  go_wp2_with fail
  refine HM.out.mono ?_
  rintro e w1 ⟨m, z, az, cz, hT, rfl, hz, hcap, hb1⟩
  have HTG := Lib.hid hT
  obtain ⟨ln, hle, hTab⟩ := hT
  have hm1 := hTab.lo
  have hm2 := hTab.hi
  have HTB := Lib.hid hTab
  have HLE := Lib.hid hle
  have HB1 := Lib.hid hb1
  have HZ1 := Lib.hid hz
  clear hb1 HM hz hle hTab hcap
  go_upto_region 4 with fail
  have HB2 := Lib.hid (Below.now HB1.out (alloc_belowT w1 (.cells #[.int .i64 (m : Nat), .slice az z.length cz] 25)))
  have HZ2 := Lib.hid (HZ1.out.later (alloc_belowT w1 (.cells #[.int .i64 (m : Nat), .slice az z.length cz] 25)))
  have HX : Hid (∀ W, Below (w1.alloc (.cells #[.int .i64 (m : Nat), .slice az z.length cz] 25)).heap.size (w1.alloc (.cells #[.int .i64 (m : Nat), .slice az z.length cz] 25)) W → W.cell? ⟨w1.heap.size, 0, none⟩ = some (.int .i64 (m : Nat)) ∧ W.cell? ⟨w1.heap.size, 1, none⟩ = some (.slice az z.length cz)) := Lib.hid (fun W hW => ⟨by rw [hW.cell (by simp)]; simp, by rw [hW.cell (by simp)]; simp⟩)
  generalize w1.alloc (.cells #[.int .i64 (m : Nat), .slice az z.length cz] 25) = w2 at *
  generalize w1.heap.size = bt at *
  have kr := Below.refl w2.heap.size w2
  obtain ⟨z0, z1⟩ := HX.out _ kr
  go_wp2_with fail
  refine (makeImages_any a l cap 20 m az z.length cz w2 (HBY.out _ HB2.out) hl40 (by omega) hm1 hm2).mono ?_
  rintro e w3 ⟨E, aE, cE, ⟨hE1, hE2⟩, hEm, rfl, hEi, hb3⟩
  have HIO := Lib.hid (img_ok HTB.out hE1 hE2 hEm)
  have HEM := Lib.hid hEm
  have HEI : Hid (IntsIn w3 aE (E.map Int.ofNat)) := Lib.hid hEi
  have HB3 := Lib.hid hb3
  clear hEm hEi hb3 z0 z1 kr HZ1
  have HZ3 := Lib.hid (HZ2.out.later HB3.out)
  have HXX : Hid (∀ W, Below w3.heap.size w3 W → (W.cell? ⟨bt, 0, none⟩ = some (.int .i64 (m : Nat)) ∧ W.cell? ⟨bt, 1, none⟩ = some (.slice az z.length cz)) ∧ IntsIn W az z ∧ IntsIn W aE (E.map Int.ofNat) ∧ BytesIn W a l) := Lib.hid (fun W hW => ⟨HX.out W (Below.now HB3.out hW), HZ3.out.later hW, HEI.out.later hW, HBY.out W (Below.now HB2.out (Below.now HB3.out hW))⟩)
  have HBW := Lib.hid (Below.now HB2.out HB3.out)
  clear HX HZ2 HZ3 HEI HBY HB1 HB2 HB3
  have HDI : Hid (∀ W, IntsIn W az z → IntsIn W aE (E.map Int.ofNat) → Calls Tryz.prog 6 #[.agg #[.int .i64 (m : Nat), .slice az z.length cz], .slice aE E.length cE] W (RetDi m ln E W)) := Lib.hid (fun W h1 h2 => by
    have := implDistancesIn_any m ln E z (E.map Int.ofNat) az cz aE cE W HLE.out rfl HIO.out h1 h2
    rw [List.length_map] at this; exact this)
  have HSPH : Hid (∀ W, IntsIn W az z → IntsIn W aE (E.map Int.ofNat) → Calls Tryz.prog 7 #[.agg #[.int .i64 (m : Nat), .slice az z.length cz], .slice aE E.length cE] W (RetSp m ln E W)) := Lib.hid (fun W h1 h2 => by
    have := implSpheresOf_any m ln E z (E.map Int.ofNat) az cz aE cE W HLE.out rfl HIO.out h1 h2
    rw [List.length_map] at this; exact this)
  have HCV : Hid (∀ n W, n ≤ 12 → IntsIn W az z → IntsIn W aE (E.map Int.ofNat) → Calls Tryz.prog 9 #[.agg #[.int .i64 (m : Nat), .slice az z.length cz], .slice aE E.length cE, .int .i64 (n : Nat)] W (RetCt m (valsN m ln E n) W)) := Lib.hid (fun n W hn h1 h2 => by
    have := implCountValues_any m ln E z (E.map Int.ofNat) az cz aE cE n W HLE.out rfl HIO.out hn h1 h2
    rw [List.length_map] at this; exact this)
  obtain ⟨⟨z0, z1⟩, i1, i2, i3⟩ := HXX.out w3 (Below.refl _ _)
  have I1 := Lib.hid i1
  have I2 := Lib.hid i2
  clear i1 i2 i3
  go_wp2_with fail
  refine (HDI.out _ I1.out I2.out).mono ?_
  rintro e w4 ⟨S, hsh, a5, c5, rfl, ho5, hb4⟩
  have HSP := Lib.hid hsh
  have HUQ : Hid (∀ S', ShortP m ln E S' → S' = S) := Lib.hid (fun S' h => (h.uniq HIO.out.few HSP.out))
  have hdl := dL_len m S
  obtain ⟨b5, o5, rfl, _, _⟩ := (owns_ints ho5).cell (i := 0) (by omega)
  have HD5 := Lib.hid (owns_ints ho5)
  have HK4 := Lib.hid hb4
  rw [hdl]
  clear hsh ho5 hb4 z0 z1 hdl I1 I2
  obtain ⟨⟨z0, z1⟩, i1, i2, i3⟩ := HXX.out w4 HK4.out
  have I1 := Lib.hid i1
  have I2 := Lib.hid i2
  clear i1 i2 i3
  go_wp2_with fail
  refine (HSPH.out _ I1.out I2.out).mono ?_
  rintro e w5 ⟨S6, M, hs6, hME, g6, rfl, hr6, hb5⟩
  have eS := HUQ.out S6 hs6
  rw [eS] at hME hr6
  obtain ⟨hM40, hMall, hMmem⟩ := maxNat HSP.out HIO.out.few hm1 hm2 hME
  have HME := Lib.hid hME
  have HMA := Lib.hid hMall
  have HK5 := Lib.hid (Below.now HK4.out hb5)
  have HD6 := Lib.hid (HD5.out.later hb5)
  have HR6 := Lib.hid hr6
  clear eS hs6 hME hMall hMmem hr6 hb5 HD5 z0 z1 I1 I2 HSPH HDI HK4
  obtain ⟨⟨z0, z1⟩, i1, i2, i3⟩ := HXX.out w5 HK5.out
  have I1 := Lib.hid i1
  have I2 := Lib.hid i2
  have HMN := Lib.hid (makeNum_any a l cap 40 w5 i3 hl40 (by omega))
  clear i1 i2 i3
  obtain ⟨ns, hns⟩ : ∃ ns, M + 1 = ns := ⟨_, rfl⟩
  have HNS := Lib.hid hns
  rw [hns] at HR6
  have hsub : ((ns : Nat) : Int) - 1 = (M : Int) := by omega
  have hns0 : (((ns : Nat) : Int) == 0) = false := by rw [beq_eq_false_iff_ne]; omega
  have hns41 : ns ≤ 41 := by omega
  have hnsp : (0 : Int) < (ns : Int) := by omega
  rw [hns]
  clear hns
  go_wp2_with fail
  refine HMN.out.mono ?_
  rintro e w6 ⟨x, hx, rfl, hb6⟩
  have HK6 := Lib.hid (Below.now HK5.out hb6)
  have HD7 := Lib.hid (HD6.out.later hb6)
  have HR7 := Lib.hid (HR6.out.later hb6)
  clear hb6 HD6 HR6 HK5 HMN z0 z1 I1 I2
  go_upto_region 8 with fail
  have hx8 : (x : Int) % 8 = ((x % 8 : Nat) : Int) := by omega
  rw [hx8]
  obtain ⟨n, hn⟩ : ∃ n, x % 8 = n := ⟨_, rfl⟩
  rw [hn]
  have hn7 : n ≤ 7 := by omega
  clear hx8 hn hx
  obtain ⟨⟨z0, z1⟩, i1, i2, i3⟩ := HXX.out w6 HK6.out
  have I1 := Lib.hid i1
  have I2 := Lib.hid i2
  clear i1 i2 i3
  go_wp2_with fail
  refine (HCV.out n w6 (by omega) I1.out I2.out).mono ?_
  rintro e w7 ⟨g8, rfl, hr8, hb7⟩
  have HK7 := Lib.hid (Below.now HK6.out hb7)
  have HD8 := Lib.hid (HD7.out.later hb7)
  have HR68 := Lib.hid (HR7.out.later hb7)
  have HR8 := Lib.hid hr8
  clear hr8 hb7 HD7 HR7 HK6 z0 z1 I1 I2 HCV
  go_wp2_with fail
  go_loopw [9, 10] (fun v i wr => ∃ j : Nat, j ≤ n ∧ i = .int .i64 (j : Nat) ∧ v = .int .i64 ((E.length ^ j : Nat) : Int) ∧ wr = w7) (fun _ i _ => n - (intOf i).toNat)
  case atStart => exact ⟨0, Nat.zero_le _, rfl, rfl, rfl⟩
  case round =>
    obtain ⟨j, hj, rfl, rfl, hwr⟩ := hrel
    rw [hwr]
    clear hwr
    have hpw := pow_top2 (n := 7) hE2 (by omega) j (by omega)
    have hp7 : E.length ^ j ≤ 128 := by
      have h1 : E.length ^ j ≤ 2 ^ j := Nat.pow_le_pow_left hE2 j
      have h2 : 2 ^ j ≤ 2 ^ 7 := Nat.pow_le_pow_right (by decide) (by omega)
      omega
    have hps : E.length ^ (j + 1) = E.length ^ j * E.length := Nat.pow_succ ..
    by_cases hlt : j < n
    · obtain ⟨p, hp⟩ : ∃ p, E.length ^ j = p := ⟨_, rfl⟩
      obtain ⟨q, hq⟩ : ∃ q, p * E.length = q := ⟨_, rfl⟩
      rw [hp] at hps hp7
      rw [hp]
      rw [hq] at hps
      have hq256 : q ≤ 256 := by rw [← hq]; exact Nat.le_trans (Nat.mul_le_mul hp7 hE2) (by decide)
      have hml : ((p : Nat) : Int) * (E.length : Int) = (q : Int) := by rw [← hq]; exact (Int.natCast_mul _ _).symm
      have hwr : IntKind.i64.wrap (q : Int) = (q : Int) := IntWalk.i64_in _ ⟨by omega, by omega⟩
      have HPS := Lib.hid hps
      clear hps hq hpw hp7
      go_wp2_with fail
      go_roundw
      case rel => exact ⟨j + 1, by omega, by go_num, by rw [HPS.out], trivial⟩
      case measure => simp [intOf]; omega
    · obtain rfl : j = n := by omega
      clear hps hpw
      obtain ⟨al, hal⟩ : ∃ al, E.length ^ j = al := ⟨_, rfl⟩
      have HAL := Lib.hid hal
      rw [hal]
      clear hal hj hlt
      go_upto_region 14 with fail
      have HNXT : Hid (∀ i y, i < m → y < E.length → nxT m ln E i y < m) := Lib.hid (fun i y hi hy => HTB.out.toTb.tm_lt hi (by
        have := HEM.out _ (List.getElem_mem hy)
        rw [List.getD_eq_getElem?_getD, List.getElem?_eq_getElem hy]
        exact this))
      obtain ⟨R, hR⟩ : ∃ R, ((dL m S).countP fun x => decide (0 ≤ x)) = R := ⟨_, rfl⟩
      have HRE := Lib.hid hR
      have hR40 : R ≤ 40 := by
        rw [← hR]
        have h1 := List.countP_le_length (l := dL m S) (p := fun x => decide (0 ≤ x))
        have h2 := dL_len m S
        omega
      clear hR
      have HSQ : Hid ((sphN (dL m S) ns).sum = R) := Lib.hid (by
        rw [sphN_sum (fun x hx => by have := HMA.out x hx; have := HNS.out; omega)]
        exact HRE.out)
      have HVQ : Hid ((valsN m ln E j).sum = al) := Lib.hid (by
        rw [← HAL.out]
        exact valsN_sum hm1 HNXT.out j)
      have hal128 : al ≤ 128 := by
        rw [← HAL.out]
        have h1 : E.length ^ j ≤ 2 ^ j := Nat.pow_le_pow_left hE2 j
        have h2 : 2 ^ j ≤ 2 ^ 7 := Nat.pow_le_pow_right (by decide) (by omega)
        omega
      have HC0 : Hid (∀ W, Below w7.heap.size w7 W → W.cell? ⟨b5, o5, none⟩ = some (.int .i64 0)) := Lib.hid (fun W hW => by
        obtain ⟨_, _, hbo, _, hc⟩ := (HD8.out.later hW).cell (i := 0) (by have := dL_len m S; omega)
        simp only [Option.some.injEq, Addr.mk.injEq, and_true] at hbo
        obtain ⟨rfl, rfl⟩ := hbo
        have h1 := hc 0 (by have := dL_len m S; omega)
        rw [dL_at (by omega), dF_zero HSP.out HIO.out.few hm1, Nat.add_zero] at h1
        exact h1)
      have HC6 : Hid (∀ W, Below w7.heap.size w7 W → W.cell? ⟨g6, 0, none⟩ = some (.int .i64 1)) := Lib.hid (fun W hW => by
        have h1 := (HR68.out.later hW).cell (v := 0) (by omega)
        rw [sphN_get (by omega), sph_one HSP.out HIO.out.few hm1] at h1
        exact h1)
      have HSU6 : Hid (∀ W, Below w7.heap.size w7 W → Calls Tryz.prog 10 #[.slice (some ⟨g6, 0, none⟩) ns ns] W fun e w' => e = .returned (.int .i64 ((R : Nat) : Int)) ∧ W = w') := Lib.hid (fun W hW => by
        have := ct_sum (HR68.out.later hW).ints (sphN_len _ _) (by omega : ns ≤ 1000) (by rw [HSQ.out]; omega)
        rw [HSQ.out] at this
        exact this)
      have HSU8 : Hid (∀ W, Below w7.heap.size w7 W → Calls Tryz.prog 10 #[.slice (some ⟨g8, 0, none⟩) m m] W fun e w' => e = .returned (.int .i64 ((al : Nat) : Int)) ∧ W = w') := Lib.hid (fun W hW => by
        have := ct_sum (HR8.out.later hW).ints (valsN_len _) (by omega : m ≤ 1000) (by rw [HVQ.out]; omega)
        rw [HVQ.out] at this
        exact this)
      have HRB : Hid (∀ W, Below w7.heap.size w7 W → Calls Tryz.prog 11 #[.agg #[.int .i64 (m : Nat), .slice az z.length cz], .slice aE E.length cE] W fun e w' => ∃ a2 c2, e = .returned (.slice a2 R c2) ∧ Below W.heap.size W w') := Lib.hid (fun W hW => by
        obtain ⟨_, h1, h2, _⟩ := HXX.out W (Below.now HK7.out hW)
        have := implReachedBy_any m ln E z (E.map Int.ofNat) az cz aE cE W HLE.out rfl HIO.out h1 h2
        rw [List.length_map] at this
        refine this.mono ?_
        rintro e w9 ⟨S9, hs9, a9, c9, rfl, _, hb9⟩
        rw [HUQ.out S9 hs9, reach_cnt, HRE.out]
        exact ⟨a9, c9, rfl, hb9⟩)
      have HDM : Hid (∀ W, Below w7.heap.size w7 W → Calls Tryz.prog 12 #[.agg #[.int .i64 (m : Nat), .slice az z.length cz], .slice aE E.length cE] W fun e w' => e = .returned (.int .i64 (M : Int)) ∧ Below W.heap.size W w') := Lib.hid (fun W hW => by
        obtain ⟨_, h1, h2, _⟩ := HXX.out W (Below.now HK7.out hW)
        have := implDiameterOf_any m ln E z (E.map Int.ofNat) az cz aE cE W HLE.out rfl HIO.out h1 h2
        rw [List.length_map] at this
        refine this.mono ?_
        rintro e w9 ⟨S9, hs9, rfl, hb9⟩
        rw [HUQ.out S9 hs9, HME.out]
        exact ⟨rfl, hb9⟩)
      have hmpos : (0 : Int) < (m : Int) := by omega
      have hmn : 0 < m := hm1
      have hwM : IntKind.i64.wrap (M : Int) = (M : Int) := IntWalk.i64_in _ ⟨by omega, by omega⟩
      have hnsn : 0 < ns := by omega
      refine region_each (fun W => Below w7.heap.size w7 W) (fun W W2 => Below W.heap.size W W2) (fun u => by simp only [fPut, Act.put, List.setIfInBounds_toArray, List.set_cons_succ, List.set_cons_zero, Nat.zero_add, Nat.reduceAdd]; rfl) (by kernel_rfl) (by kernel_rfl) (by kernel_rfl) (Below.drew (Below.refl _ _)) ?_
      apply each_read (fun _ => Below.refl _ _) rfl
      · intro u wv hC hf
        have z0 := (HXX.out _ (Below.now HK7.out hC)).1.1
        have z1 := (HXX.out _ (Below.now HK7.out hC)).1.2
        have y0 := HC0.out _ hC
        have y6 := HC6.out _ hC
        clear hf
        go_simp
        try rfl
      apply each_read (fun _ => Below.refl _ _) rfl
      · intro u wv hC hf
        have z0 := (HXX.out _ (Below.now HK7.out hC)).1.1
        have z1 := (HXX.out _ (Below.now HK7.out hC)).1.2
        have y0 := HC0.out _ hC
        have y6 := HC6.out _ hC
        obtain ⟨d0_0, -⟩ := hf
        have e0 : u 0 = _ := d0_0 rfl
        clear d0_0
        go_simp
        try rfl
      conv => arg 8; simp only [List.cons_append, List.nil_append]
      apply each_read (fun _ => Below.refl _ _) rfl
      · intro u wv hC hf
        have z0 := (HXX.out _ (Below.now HK7.out hC)).1.1
        have z1 := (HXX.out _ (Below.now HK7.out hC)).1.2
        have y0 := HC0.out _ hC
        have y6 := HC6.out _ hC
        clear hf
        go_simp
        try rfl
      conv => arg 8; simp only [List.cons_append, List.nil_append]
      apply each_read (fun _ => Below.refl _ _) rfl
      · intro u wv hC hf
        have z0 := (HXX.out _ (Below.now HK7.out hC)).1.1
        have z1 := (HXX.out _ (Below.now HK7.out hC)).1.2
        have y0 := HC0.out _ hC
        have y6 := HC6.out _ hC
        obtain ⟨d2_0, -⟩ := hf
        have e2 : u 2 = _ := d2_0 rfl
        clear d2_0
        go_simp
        try rfl
      conv => arg 8; simp only [List.cons_append, List.nil_append]
      apply each_read (fun _ => Below.refl _ _) rfl
      · intro u wv hC hf
        have z0 := (HXX.out _ (Below.now HK7.out hC)).1.1
        have z1 := (HXX.out _ (Below.now HK7.out hC)).1.2
        have y0 := HC0.out _ hC
        have y6 := HC6.out _ hC
        obtain ⟨d1_0, d3_1, -⟩ := hf
        have e1 : u 1 = _ := d1_0 rfl
        clear d1_0
        have e3 : u 3 = _ := d3_1 rfl
        clear d3_1
        go_simp
        try rfl
      conv => arg 8; simp only [List.cons_append, List.nil_append]
      apply each_read (fun _ => Below.refl _ _) rfl
      · intro u wv hC hf
        have z0 := (HXX.out _ (Below.now HK7.out hC)).1.1
        have z1 := (HXX.out _ (Below.now HK7.out hC)).1.2
        have y0 := HC0.out _ hC
        have y6 := HC6.out _ hC
        obtain ⟨d4_0, -⟩ := hf
        have e4 : u 4 = _ := d4_0 rfl
        clear d4_0
        go_simp
        try rfl
      conv => arg 8; simp only [List.cons_append, List.nil_append]
      apply each_readG (fun _ => Below.refl _ _)
      · intro u wv hC hf
        have z0 := (HXX.out _ (Below.now HK7.out hC)).1.1
        have z1 := (HXX.out _ (Below.now HK7.out hC)).1.2
        have y0 := HC0.out _ hC
        have y6 := HC6.out _ hC
        obtain ⟨d5_0, -⟩ := hf
        have e5 : u 5 = _ := d5_0 rfl
        clear d5_0
        refine ⟨wanted_at rfl rfl rfl e5 rfl, ?_⟩
        go_simp
        try rfl
      conv => arg 8; simp only [List.cons_append, List.nil_append]
      apply each_readG (fun _ => Below.refl _ _)
      · intro u wv hC hf
        have z0 := (HXX.out _ (Below.now HK7.out hC)).1.1
        have z1 := (HXX.out _ (Below.now HK7.out hC)).1.2
        have y0 := HC0.out _ hC
        have y6 := HC6.out _ hC
        obtain ⟨d6_0, d5_1, -⟩ := hf
        have e6 : u 6 = _ := d6_0 rfl
        clear d6_0
        have e5 : u 5 = _ := d5_1 rfl
        clear d5_1
        refine ⟨wanted_at rfl rfl rfl e5 rfl, ?_⟩
        go_simp
        try rfl
      conv => arg 8; simp only [List.cons_append, List.nil_append]
      apply each_readG (fun _ => Below.refl _ _)
      · intro u wv hC hf
        have z0 := (HXX.out _ (Below.now HK7.out hC)).1.1
        have z1 := (HXX.out _ (Below.now HK7.out hC)).1.2
        have y0 := HC0.out _ hC
        have y6 := HC6.out _ hC
        obtain ⟨d7_0, d5_1, -⟩ := hf
        have e7 : u 7 = _ := d7_0 rfl
        clear d7_0
        have e5 : u 5 = _ := d5_1 rfl
        clear d5_1
        refine ⟨wanted_at rfl rfl rfl e5 rfl, ?_⟩
        go_simp
        try rfl
      conv => arg 8; simp only [List.cons_append, List.nil_append]
      apply each_readG (fun _ => Below.refl _ _)
      · intro u wv hC hf
        have z0 := (HXX.out _ (Below.now HK7.out hC)).1.1
        have z1 := (HXX.out _ (Below.now HK7.out hC)).1.2
        have y0 := HC0.out _ hC
        have y6 := HC6.out _ hC
        obtain ⟨d8_0, d5_1, -⟩ := hf
        have e8 : u 8 = _ := d8_0 rfl
        clear d8_0
        have e5 : u 5 = _ := d5_1 rfl
        clear d5_1
        refine ⟨wanted_at rfl rfl rfl e5 rfl, ?_⟩
        go_simp
        try rfl
      conv => arg 8; simp only [List.cons_append, List.nil_append]
      apply each_read (fun _ => Below.refl _ _) rfl
      · intro u wv hC hf
        have z0 := (HXX.out _ (Below.now HK7.out hC)).1.1
        have z1 := (HXX.out _ (Below.now HK7.out hC)).1.2
        have y0 := HC0.out _ hC
        have y6 := HC6.out _ hC
        obtain ⟨d5_0, d9_1, -⟩ := hf
        have e5 : u 5 = _ := d5_0 rfl
        clear d5_0
        have e9 : u 9 = _ := d9_1 rfl
        clear d9_1
        go_simp
        try rfl
      conv => arg 8; simp only [List.cons_append, List.nil_append]
      apply each_read (fun _ => Below.refl _ _) rfl
      · intro u wv hC hf
        have z0 := (HXX.out _ (Below.now HK7.out hC)).1.1
        have z1 := (HXX.out _ (Below.now HK7.out hC)).1.2
        have y0 := HC0.out _ hC
        have y6 := HC6.out _ hC
        obtain ⟨d10_0, d5_1, -⟩ := hf
        have e10 : u 10 = _ := d10_0 rfl
        clear d10_0
        have e5 : u 5 = _ := d5_1 rfl
        clear d5_1
        go_simp
        try rfl
      conv => arg 8; simp only [List.cons_append, List.nil_append]
      apply each_readG (fun _ => Below.refl _ _)
      · intro u wv hC hf
        have z0 := (HXX.out _ (Below.now HK7.out hC)).1.1
        have z1 := (HXX.out _ (Below.now HK7.out hC)).1.2
        have y0 := HC0.out _ hC
        have y6 := HC6.out _ hC
        obtain ⟨d11_0, -⟩ := hf
        have e11 : u 11 = _ := d11_0 rfl
        clear d11_0
        refine ⟨wanted_at rfl rfl rfl e11 rfl, ?_⟩
        go_simp
        try rfl
      conv => arg 8; simp only [List.cons_append, List.nil_append]
      apply each_readG (fun _ => Below.refl _ _)
      · intro u wv hC hf
        have z0 := (HXX.out _ (Below.now HK7.out hC)).1.1
        have z1 := (HXX.out _ (Below.now HK7.out hC)).1.2
        have y0 := HC0.out _ hC
        have y6 := HC6.out _ hC
        obtain ⟨d12_0, d11_1, -⟩ := hf
        have e12 : u 12 = _ := d12_0 rfl
        clear d12_0
        have e11 : u 11 = _ := d11_1 rfl
        clear d11_1
        refine ⟨wanted_at rfl rfl rfl e11 rfl, ?_⟩
        go_simp
        try rfl
      conv => arg 8; simp only [List.cons_append, List.nil_append]
      apply each_readG (fun _ => Below.refl _ _)
      · intro u wv hC hf
        have z0 := (HXX.out _ (Below.now HK7.out hC)).1.1
        have z1 := (HXX.out _ (Below.now HK7.out hC)).1.2
        have y0 := HC0.out _ hC
        have y6 := HC6.out _ hC
        obtain ⟨d13_0, d11_1, -⟩ := hf
        have e13 : u 13 = _ := d13_0 rfl
        clear d13_0
        have e11 : u 11 = _ := d11_1 rfl
        clear d11_1
        refine ⟨wanted_at rfl rfl rfl e11 rfl, ?_⟩
        go_simp
        try rfl
      conv => arg 8; simp only [List.cons_append, List.nil_append]
      apply each_read (fun _ => Below.refl _ _) rfl
      · intro u wv hC hf
        have z0 := (HXX.out _ (Below.now HK7.out hC)).1.1
        have z1 := (HXX.out _ (Below.now HK7.out hC)).1.2
        have y0 := HC0.out _ hC
        have y6 := HC6.out _ hC
        obtain ⟨d11_0, d14_1, -⟩ := hf
        have e11 : u 11 = _ := d11_0 rfl
        clear d11_0
        have e14 : u 14 = _ := d14_1 rfl
        clear d14_1
        go_simp
        try rfl
      conv => arg 8; simp only [List.cons_append, List.nil_append]
      apply each_read (fun _ => Below.refl _ _) rfl
      · intro u wv hC hf
        have z0 := (HXX.out _ (Below.now HK7.out hC)).1.1
        have z1 := (HXX.out _ (Below.now HK7.out hC)).1.2
        have y0 := HC0.out _ hC
        have y6 := HC6.out _ hC
        obtain ⟨d15_0, d11_1, -⟩ := hf
        have e15 : u 15 = _ := d15_0 rfl
        clear d15_0
        have e11 : u 11 = _ := d11_1 rfl
        clear d11_1
        go_simp
        try rfl
      conv => arg 8; simp only [List.cons_append, List.nil_append]
      apply each_readG (fun _ => Below.refl _ _)
      · intro u wv hC hf
        have z0 := (HXX.out _ (Below.now HK7.out hC)).1.1
        have z1 := (HXX.out _ (Below.now HK7.out hC)).1.2
        have y0 := HC0.out _ hC
        have y6 := HC6.out _ hC
        obtain ⟨d16_0, -⟩ := hf
        have e16 : u 16 = _ := d16_0 rfl
        clear d16_0
        refine ⟨wanted_at rfl rfl rfl e16 rfl, ?_⟩
        go_simp
        try rfl
      conv => arg 8; simp only [List.cons_append, List.nil_append]
      apply each_readG (fun _ => Below.refl _ _)
      · intro u wv hC hf
        have z0 := (HXX.out _ (Below.now HK7.out hC)).1.1
        have z1 := (HXX.out _ (Below.now HK7.out hC)).1.2
        have y0 := HC0.out _ hC
        have y6 := HC6.out _ hC
        obtain ⟨d17_0, d16_1, -⟩ := hf
        have e17 : u 17 = _ := d17_0 rfl
        clear d17_0
        have e16 : u 16 = _ := d16_1 rfl
        clear d16_1
        refine ⟨wanted_at rfl rfl rfl e16 rfl, ?_⟩
        go_simp
        try rfl
      conv => arg 8; simp only [List.cons_append, List.nil_append]
      apply each_readG (fun _ => Below.refl _ _)
      · intro u wv hC hf
        have z0 := (HXX.out _ (Below.now HK7.out hC)).1.1
        have z1 := (HXX.out _ (Below.now HK7.out hC)).1.2
        have y0 := HC0.out _ hC
        have y6 := HC6.out _ hC
        obtain ⟨d18_0, d16_1, -⟩ := hf
        have e18 : u 18 = _ := d18_0 rfl
        clear d18_0
        have e16 : u 16 = _ := d16_1 rfl
        clear d16_1
        refine ⟨wanted_at rfl rfl rfl e16 rfl, ?_⟩
        go_simp
        try rfl
      conv => arg 8; simp only [List.cons_append, List.nil_append]
      apply each_readG (fun _ => Below.refl _ _)
      · intro u wv hC hf
        have z0 := (HXX.out _ (Below.now HK7.out hC)).1.1
        have z1 := (HXX.out _ (Below.now HK7.out hC)).1.2
        have y0 := HC0.out _ hC
        have y6 := HC6.out _ hC
        obtain ⟨d19_0, d16_1, -⟩ := hf
        have e19 : u 19 = _ := d19_0 rfl
        clear d19_0
        have e16 : u 16 = _ := d16_1 rfl
        clear d16_1
        refine ⟨wanted_at rfl rfl rfl e16 rfl, ?_⟩
        go_simp
        try rfl
      conv => arg 8; simp only [List.cons_append, List.nil_append]
      apply each_read (fun _ => Below.refl _ _) rfl
      · intro u wv hC hf
        have z0 := (HXX.out _ (Below.now HK7.out hC)).1.1
        have z1 := (HXX.out _ (Below.now HK7.out hC)).1.2
        have y0 := HC0.out _ hC
        have y6 := HC6.out _ hC
        obtain ⟨d16_0, d20_1, -⟩ := hf
        have e16 : u 16 = _ := d16_0 rfl
        clear d16_0
        have e20 : u 20 = _ := d20_1 rfl
        clear d20_1
        go_simp
        try rfl
      conv => arg 8; simp only [List.cons_append, List.nil_append]
      apply each_read (fun _ => Below.refl _ _) rfl
      · intro u wv hC hf
        have z0 := (HXX.out _ (Below.now HK7.out hC)).1.1
        have z1 := (HXX.out _ (Below.now HK7.out hC)).1.2
        have y0 := HC0.out _ hC
        have y6 := HC6.out _ hC
        obtain ⟨d21_0, d16_1, -⟩ := hf
        have e21 : u 21 = _ := d21_0 rfl
        clear d21_0
        have e16 : u 16 = _ := d16_1 rfl
        clear d16_1
        go_simp
        try rfl
      conv => arg 8; simp only [List.cons_append, List.nil_append]
      apply each_readG (fun _ => Below.refl _ _)
      · intro u wv hC hf
        have z0 := (HXX.out _ (Below.now HK7.out hC)).1.1
        have z1 := (HXX.out _ (Below.now HK7.out hC)).1.2
        have y0 := HC0.out _ hC
        have y6 := HC6.out _ hC
        obtain ⟨d22_0, -⟩ := hf
        have e22 : u 22 = _ := d22_0 rfl
        clear d22_0
        refine ⟨wanted_at rfl rfl rfl e22 rfl, ?_⟩
        go_simp
        try rfl
      conv => arg 8; simp only [List.cons_append, List.nil_append]
      apply each_callRG
      · intro u wv hC hf
        have z0 := (HXX.out _ (Below.now HK7.out hC)).1.1
        have z1 := (HXX.out _ (Below.now HK7.out hC)).1.2
        have y0 := HC0.out _ hC
        have y6 := HC6.out _ hC
        obtain ⟨d23_0, d22_1, d22_2, -⟩ := hf
        have e23 : u 23 = _ := d23_0 rfl
        clear d23_0
        have e22 : u 22 = _ := d22_1 rfl
        clear d22_1
        clear d22_2
        refine ⟨wanted_at rfl rfl rfl e22 rfl, ?_⟩
        apply Exists.intro; apply Exists.intro; apply And.intro
        · go_simp; exact ⟨rfl, rfl⟩
        · refine (HSU6.out _ hC).mono ?_
          rintro e w3 ⟨rfl, hw⟩
          subst hw
          exact ⟨rfl, hC, Below.refl _ _⟩
      conv => arg 8; simp only [List.cons_append, List.nil_append]
      apply each_readG (fun _ => Below.refl _ _)
      · intro u wv hC hf
        have z0 := (HXX.out _ (Below.now HK7.out hC)).1.1
        have z1 := (HXX.out _ (Below.now HK7.out hC)).1.2
        have y0 := HC0.out _ hC
        have y6 := HC6.out _ hC
        obtain ⟨d22_0, -⟩ := hf
        have e22 : u 22 = _ := d22_0 rfl
        clear d22_0
        refine ⟨wanted_at rfl rfl rfl e22 rfl, ?_⟩
        go_simp
        try rfl
      conv => arg 8; simp only [List.cons_append, List.nil_append]
      apply each_readG (fun _ => Below.refl _ _)
      · intro u wv hC hf
        have z0 := (HXX.out _ (Below.now HK7.out hC)).1.1
        have z1 := (HXX.out _ (Below.now HK7.out hC)).1.2
        have y0 := HC0.out _ hC
        have y6 := HC6.out _ hC
        obtain ⟨d22_0, -⟩ := hf
        have e22 : u 22 = _ := d22_0 rfl
        clear d22_0
        refine ⟨wanted_at rfl rfl rfl e22 rfl, ?_⟩
        go_simp
        try rfl
      conv => arg 8; simp only [List.cons_append, List.nil_append]
      refine each_callG (fun v wv => ∃ a c, v = .slice a R c) (fun v w w2 _ hR h => h) ?_ ?_
      · intro u wv hC hf
        have z0 := (HXX.out _ (Below.now HK7.out hC)).1.1
        have z1 := (HXX.out _ (Below.now HK7.out hC)).1.2
        have y0 := HC0.out _ hC
        have y6 := HC6.out _ hC
        obtain ⟨d25_0, d26_1, d24_2, d22_3, -⟩ := hf
        have e25 : u 25 = _ := d25_0 rfl
        clear d25_0
        have e26 : u 26 = _ := d26_1 rfl
        clear d26_1
        have e24 : u 24 = _ := d24_2 rfl
        clear d24_2
        have e22 : u 22 = _ := d22_3 rfl
        clear d22_3
        refine ⟨wanted_at rfl rfl rfl e22 rfl, ?_⟩
        apply Exists.intro; apply Exists.intro; apply And.intro
        · go_simp; exact ⟨rfl, rfl⟩
        · refine (HRB.out _ hC).mono ?_
          rintro e w3 ⟨a9, c9, rfl, hb⟩
          exact ⟨_, rfl, Below.now hC hb, hb, a9, c9, rfl⟩
      conv => arg 8; simp only [List.cons_append, List.nil_append]
      apply each_readG (fun _ => Below.refl _ _)
      · intro u wv hC hf
        have z0 := (HXX.out _ (Below.now HK7.out hC)).1.1
        have z1 := (HXX.out _ (Below.now HK7.out hC)).1.2
        have y0 := HC0.out _ hC
        have y6 := HC6.out _ hC
        obtain ⟨d27_0, d22_1, -⟩ := hf
        obtain ⟨a27, c27, e27⟩ := d27_0 rfl
        have e22 : u 22 = _ := d22_1 rfl
        clear d22_1
        refine ⟨wanted_at rfl rfl rfl e22 rfl, ?_⟩
        go_simp
        try rfl
      conv => arg 8; simp only [List.cons_append, List.nil_append]
      apply each_readG (fun _ => Below.refl _ _)
      · intro u wv hC hf
        have z0 := (HXX.out _ (Below.now HK7.out hC)).1.1
        have z1 := (HXX.out _ (Below.now HK7.out hC)).1.2
        have y0 := HC0.out _ hC
        have y6 := HC6.out _ hC
        obtain ⟨d24_0, d28_1, d22_2, -⟩ := hf
        have e24 : u 24 = _ := d24_0 rfl
        clear d24_0
        have e28 : u 28 = _ := d28_1 rfl
        clear d28_1
        have e22 : u 22 = _ := d22_2 rfl
        clear d22_2
        refine ⟨wanted_at rfl rfl rfl e22 rfl, ?_⟩
        go_simp
        try rfl
      conv => arg 8; simp only [List.cons_append, List.nil_append]
      apply each_read (fun _ => Below.refl _ _) rfl
      · intro u wv hC hf
        have z0 := (HXX.out _ (Below.now HK7.out hC)).1.1
        have z1 := (HXX.out _ (Below.now HK7.out hC)).1.2
        have y0 := HC0.out _ hC
        have y6 := HC6.out _ hC
        obtain ⟨d22_0, d29_1, -⟩ := hf
        have e22 : u 22 = _ := d22_0 rfl
        clear d22_0
        have e29 : u 29 = _ := d29_1 rfl
        clear d29_1
        go_simp
        try rfl
      conv => arg 8; simp only [List.cons_append, List.nil_append]
      apply each_read (fun _ => Below.refl _ _) rfl
      · intro u wv hC hf
        have z0 := (HXX.out _ (Below.now HK7.out hC)).1.1
        have z1 := (HXX.out _ (Below.now HK7.out hC)).1.2
        have y0 := HC0.out _ hC
        have y6 := HC6.out _ hC
        obtain ⟨d30_0, d27_1, -⟩ := hf
        have e30 : u 30 = _ := d30_0 rfl
        clear d30_0
        obtain ⟨a27, c27, e27⟩ := d27_1 rfl
        go_simp
        try rfl
      conv => arg 8; simp only [List.cons_append, List.nil_append]
      apply each_readG (fun _ => Below.refl _ _)
      · intro u wv hC hf
        have z0 := (HXX.out _ (Below.now HK7.out hC)).1.1
        have z1 := (HXX.out _ (Below.now HK7.out hC)).1.2
        have y0 := HC0.out _ hC
        have y6 := HC6.out _ hC
        obtain ⟨d31_0, -⟩ := hf
        have e31 : u 31 = _ := d31_0 rfl
        clear d31_0
        refine ⟨wanted_at rfl rfl rfl e31 rfl, ?_⟩
        go_simp
        try rfl
      conv => arg 8; simp only [List.cons_append, List.nil_append]
      apply each_readG (fun _ => Below.refl _ _)
      · intro u wv hC hf
        have z0 := (HXX.out _ (Below.now HK7.out hC)).1.1
        have z1 := (HXX.out _ (Below.now HK7.out hC)).1.2
        have y0 := HC0.out _ hC
        have y6 := HC6.out _ hC
        obtain ⟨d32_0, d31_1, -⟩ := hf
        have e32 : u 32 = _ := d32_0 rfl
        clear d32_0
        have e31 : u 31 = _ := d31_1 rfl
        clear d31_1
        refine ⟨wanted_at rfl rfl rfl e31 rfl, ?_⟩
        go_simp
        try rfl
      conv => arg 8; simp only [List.cons_append, List.nil_append]
      apply each_readG (fun _ => Below.refl _ _)
      · intro u wv hC hf
        have z0 := (HXX.out _ (Below.now HK7.out hC)).1.1
        have z1 := (HXX.out _ (Below.now HK7.out hC)).1.2
        have y0 := HC0.out _ hC
        have y6 := HC6.out _ hC
        obtain ⟨d33_0, d31_1, -⟩ := hf
        have e33 : u 33 = _ := d33_0 rfl
        clear d33_0
        have e31 : u 31 = _ := d31_1 rfl
        clear d31_1
        refine ⟨wanted_at rfl rfl rfl e31 rfl, ?_⟩
        go_simp
        try rfl
      conv => arg 8; simp only [List.cons_append, List.nil_append]
      apply each_readG (fun _ => Below.refl _ _)
      · intro u wv hC hf
        have z0 := (HXX.out _ (Below.now HK7.out hC)).1.1
        have z1 := (HXX.out _ (Below.now HK7.out hC)).1.2
        have y0 := HC0.out _ hC
        have y6 := HC6.out _ hC
        obtain ⟨d31_0, -⟩ := hf
        have e31 : u 31 = _ := d31_0 rfl
        clear d31_0
        refine ⟨wanted_at rfl rfl rfl e31 rfl, ?_⟩
        go_simp
        try rfl
      conv => arg 8; simp only [List.cons_append, List.nil_append]
      apply each_readG (fun _ => Below.refl _ _)
      · intro u wv hC hf
        have z0 := (HXX.out _ (Below.now HK7.out hC)).1.1
        have z1 := (HXX.out _ (Below.now HK7.out hC)).1.2
        have y0 := HC0.out _ hC
        have y6 := HC6.out _ hC
        obtain ⟨d31_0, -⟩ := hf
        have e31 : u 31 = _ := d31_0 rfl
        clear d31_0
        refine ⟨wanted_at rfl rfl rfl e31 rfl, ?_⟩
        go_simp
        try rfl
      conv => arg 8; simp only [List.cons_append, List.nil_append]
      apply each_callRG
      · intro u wv hC hf
        have z0 := (HXX.out _ (Below.now HK7.out hC)).1.1
        have z1 := (HXX.out _ (Below.now HK7.out hC)).1.2
        have y0 := HC0.out _ hC
        have y6 := HC6.out _ hC
        obtain ⟨d35_0, d36_1, d31_2, d31_3, -⟩ := hf
        have e35 : u 35 = _ := d35_0 rfl
        clear d35_0
        have e36 : u 36 = _ := d36_1 rfl
        clear d36_1
        have e31 : u 31 = _ := d31_2 rfl
        clear d31_2
        clear d31_3
        refine ⟨wanted_at rfl rfl rfl e31 rfl, ?_⟩
        apply Exists.intro; apply Exists.intro; apply And.intro
        · go_simp; exact ⟨rfl, rfl⟩
        · refine (HDM.out _ hC).mono ?_
          rintro e w3 ⟨rfl, hb⟩
          exact ⟨rfl, Below.now hC hb, hb⟩
      conv => arg 8; simp only [List.cons_append, List.nil_append]
      apply each_readG (fun _ => Below.refl _ _)
      · intro u wv hC hf
        have z0 := (HXX.out _ (Below.now HK7.out hC)).1.1
        have z1 := (HXX.out _ (Below.now HK7.out hC)).1.2
        have y0 := HC0.out _ hC
        have y6 := HC6.out _ hC
        obtain ⟨d34_0, d37_1, d31_2, -⟩ := hf
        have e34 : u 34 = _ := d34_0 rfl
        clear d34_0
        have e37 : u 37 = _ := d37_1 rfl
        clear d37_1
        have e31 : u 31 = _ := d31_2 rfl
        clear d31_2
        refine ⟨wanted_at rfl rfl rfl e31 rfl, ?_⟩
        go_simp
        try rfl
      conv => arg 8; simp only [List.cons_append, List.nil_append]
      apply each_read (fun _ => Below.refl _ _) rfl
      · intro u wv hC hf
        have z0 := (HXX.out _ (Below.now HK7.out hC)).1.1
        have z1 := (HXX.out _ (Below.now HK7.out hC)).1.2
        have y0 := HC0.out _ hC
        have y6 := HC6.out _ hC
        obtain ⟨d31_0, d38_1, -⟩ := hf
        have e31 : u 31 = _ := d31_0 rfl
        clear d31_0
        have e38 : u 38 = _ := d38_1 rfl
        clear d38_1
        go_simp
        try rfl
      conv => arg 8; simp only [List.cons_append, List.nil_append]
      apply each_read (fun _ => Below.refl _ _) rfl
      · intro u wv hC hf
        have z0 := (HXX.out _ (Below.now HK7.out hC)).1.1
        have z1 := (HXX.out _ (Below.now HK7.out hC)).1.2
        have y0 := HC0.out _ hC
        have y6 := HC6.out _ hC
        obtain ⟨d39_0, d37_1, -⟩ := hf
        have e39 : u 39 = _ := d39_0 rfl
        clear d39_0
        have e37 : u 37 = _ := d37_1 rfl
        clear d37_1
        go_simp
        try rfl
      conv => arg 8; simp only [List.cons_append, List.nil_append]
      apply each_readG (fun _ => Below.refl _ _)
      · intro u wv hC hf
        have z0 := (HXX.out _ (Below.now HK7.out hC)).1.1
        have z1 := (HXX.out _ (Below.now HK7.out hC)).1.2
        have y0 := HC0.out _ hC
        have y6 := HC6.out _ hC
        obtain ⟨d40_0, -⟩ := hf
        have e40 : u 40 = _ := d40_0 rfl
        clear d40_0
        refine ⟨wanted_at rfl rfl rfl e40 rfl, ?_⟩
        go_simp
        try rfl
      conv => arg 8; simp only [List.cons_append, List.nil_append]
      apply each_readG (fun _ => Below.refl _ _)
      · intro u wv hC hf
        have z0 := (HXX.out _ (Below.now HK7.out hC)).1.1
        have z1 := (HXX.out _ (Below.now HK7.out hC)).1.2
        have y0 := HC0.out _ hC
        have y6 := HC6.out _ hC
        obtain ⟨d41_0, d40_1, -⟩ := hf
        have e41 : u 41 = _ := d41_0 rfl
        clear d41_0
        have e40 : u 40 = _ := d40_1 rfl
        clear d40_1
        refine ⟨wanted_at rfl rfl rfl e40 rfl, ?_⟩
        go_simp
        try rfl
      conv => arg 8; simp only [List.cons_append, List.nil_append]
      apply each_readG (fun _ => Below.refl _ _)
      · intro u wv hC hf
        have z0 := (HXX.out _ (Below.now HK7.out hC)).1.1
        have z1 := (HXX.out _ (Below.now HK7.out hC)).1.2
        have y0 := HC0.out _ hC
        have y6 := HC6.out _ hC
        obtain ⟨d40_0, -⟩ := hf
        have e40 : u 40 = _ := d40_0 rfl
        clear d40_0
        refine ⟨wanted_at rfl rfl rfl e40 rfl, ?_⟩
        go_simp
        try rfl
      conv => arg 8; simp only [List.cons_append, List.nil_append]
      apply each_readG (fun _ => Below.refl _ _)
      · intro u wv hC hf
        have z0 := (HXX.out _ (Below.now HK7.out hC)).1.1
        have z1 := (HXX.out _ (Below.now HK7.out hC)).1.2
        have y0 := HC0.out _ hC
        have y6 := HC6.out _ hC
        obtain ⟨d43_0, d40_1, -⟩ := hf
        have e43 : u 43 = _ := d43_0 rfl
        clear d43_0
        have e40 : u 40 = _ := d40_1 rfl
        clear d40_1
        refine ⟨wanted_at rfl rfl rfl e40 rfl, ?_⟩
        go_simp
        try rfl
      conv => arg 8; simp only [List.cons_append, List.nil_append]
      apply each_readG (fun _ => Below.refl _ _)
      · intro u wv hC hf
        have z0 := (HXX.out _ (Below.now HK7.out hC)).1.1
        have z1 := (HXX.out _ (Below.now HK7.out hC)).1.2
        have y0 := HC0.out _ hC
        have y6 := HC6.out _ hC
        obtain ⟨d42_0, d44_1, d40_2, -⟩ := hf
        have e42 : u 42 = _ := d42_0 rfl
        clear d42_0
        have e44 : u 44 = _ := d44_1 rfl
        clear d44_1
        have e40 : u 40 = _ := d40_2 rfl
        clear d40_2
        refine ⟨wanted_at rfl rfl rfl e40 rfl, ?_⟩
        go_simp
        try rfl
      conv => arg 8; simp only [List.cons_append, List.nil_append]
      apply each_read (fun _ => Below.refl _ _) rfl
      · intro u wv hC hf
        have z0 := (HXX.out _ (Below.now HK7.out hC)).1.1
        have z1 := (HXX.out _ (Below.now HK7.out hC)).1.2
        have y0 := HC0.out _ hC
        have y6 := HC6.out _ hC
        obtain ⟨d40_0, d45_1, -⟩ := hf
        have e40 : u 40 = _ := d40_0 rfl
        clear d40_0
        have e45 : u 45 = _ := d45_1 rfl
        clear d45_1
        go_simp
        try rfl
      conv => arg 8; simp only [List.cons_append, List.nil_append]
      apply each_read (fun _ => Below.refl _ _) rfl
      · intro u wv hC hf
        have z0 := (HXX.out _ (Below.now HK7.out hC)).1.1
        have z1 := (HXX.out _ (Below.now HK7.out hC)).1.2
        have y0 := HC0.out _ hC
        have y6 := HC6.out _ hC
        obtain ⟨d46_0, d40_1, -⟩ := hf
        have e46 : u 46 = _ := d46_0 rfl
        clear d46_0
        have e40 : u 40 = _ := d40_1 rfl
        clear d40_1
        go_simp
        try rfl
      conv => arg 8; simp only [List.cons_append, List.nil_append]
      apply each_readG (fun _ => Below.refl _ _)
      · intro u wv hC hf
        have z0 := (HXX.out _ (Below.now HK7.out hC)).1.1
        have z1 := (HXX.out _ (Below.now HK7.out hC)).1.2
        have y0 := HC0.out _ hC
        have y6 := HC6.out _ hC
        obtain ⟨d47_0, -⟩ := hf
        have e47 : u 47 = _ := d47_0 rfl
        clear d47_0
        refine ⟨wanted_at rfl rfl rfl e47 rfl, ?_⟩
        go_simp
        try rfl
      conv => arg 8; simp only [List.cons_append, List.nil_append]
      apply each_callRG
      · intro u wv hC hf
        have z0 := (HXX.out _ (Below.now HK7.out hC)).1.1
        have z1 := (HXX.out _ (Below.now HK7.out hC)).1.2
        have y0 := HC0.out _ hC
        have y6 := HC6.out _ hC
        obtain ⟨d48_0, d47_1, d47_2, -⟩ := hf
        have e48 : u 48 = _ := d48_0 rfl
        clear d48_0
        have e47 : u 47 = _ := d47_1 rfl
        clear d47_1
        clear d47_2
        refine ⟨wanted_at rfl rfl rfl e47 rfl, ?_⟩
        apply Exists.intro; apply Exists.intro; apply And.intro
        · go_simp; exact ⟨rfl, rfl⟩
        · refine (HSU8.out _ hC).mono ?_
          rintro e w3 ⟨rfl, hw⟩
          subst hw
          exact ⟨rfl, hC, Below.refl _ _⟩
      conv => arg 8; simp only [List.cons_append, List.nil_append]
      apply each_readG (fun _ => Below.refl _ _)
      · intro u wv hC hf
        have z0 := (HXX.out _ (Below.now HK7.out hC)).1.1
        have z1 := (HXX.out _ (Below.now HK7.out hC)).1.2
        have y0 := HC0.out _ hC
        have y6 := HC6.out _ hC
        obtain ⟨d47_0, -⟩ := hf
        have e47 : u 47 = _ := d47_0 rfl
        clear d47_0
        refine ⟨wanted_at rfl rfl rfl e47 rfl, ?_⟩
        go_simp
        try rfl
      conv => arg 8; simp only [List.cons_append, List.nil_append]
      apply each_readG (fun _ => Below.refl _ _)
      · intro u wv hC hf
        have z0 := (HXX.out _ (Below.now HK7.out hC)).1.1
        have z1 := (HXX.out _ (Below.now HK7.out hC)).1.2
        have y0 := HC0.out _ hC
        have y6 := HC6.out _ hC
        obtain ⟨d49_0, d50_1, d47_2, -⟩ := hf
        have e49 : u 49 = _ := d49_0 rfl
        clear d49_0
        have e50 : u 50 = _ := d50_1 rfl
        clear d50_1
        have e47 : u 47 = _ := d47_2 rfl
        clear d47_2
        refine ⟨wanted_at rfl rfl rfl e47 rfl, ?_⟩
        go_simp
        try rfl
      conv => arg 8; simp only [List.cons_append, List.nil_append]
      apply each_read (fun _ => Below.refl _ _) rfl
      · intro u wv hC hf
        have z0 := (HXX.out _ (Below.now HK7.out hC)).1.1
        have z1 := (HXX.out _ (Below.now HK7.out hC)).1.2
        have y0 := HC0.out _ hC
        have y6 := HC6.out _ hC
        obtain ⟨d47_0, d51_1, -⟩ := hf
        have e47 : u 47 = _ := d47_0 rfl
        clear d47_0
        have e51 : u 51 = _ := d51_1 rfl
        clear d51_1
        go_simp
        try rfl
      intro u wv hC hall
      obtain ⟨a0, a1, a2, a3, a4, a5, a6, a7, a8, a9, a10, a11, a12, a13, a14, a15, a16, a17, a18, a19, a20, a21, a22, a23, a24, a25, a26, a27, a28, a29, a30, a31, a32, a33, a34, a35, a36, a37, a38, a39, a40, a41, a42, a43, a44, a45, a46, a47, a48, a49, a50, a51, a52, -⟩ := hall
      have e0 : u 0 = _ := a0
      clear a0
      have e1 : u 1 = _ := a1
      clear a1
      have e2 : u 2 = _ := a2
      clear a2
      have e3 : u 3 = _ := a3
      clear a3
      have e4 : u 4 = _ := a4
      clear a4
      have e5 : u 5 = _ := a5
      clear a5
      have e6 : u 6 = _ := a6
      clear a6
      have e7 : u 7 = _ := a7
      clear a7
      have e8 : u 8 = _ := a8
      clear a8
      have e9 : u 9 = _ := a9
      clear a9
      have e10 : u 10 = _ := a10
      clear a10
      have e11 : u 11 = _ := a11
      clear a11
      have e12 : u 12 = _ := a12
      clear a12
      have e13 : u 13 = _ := a13
      clear a13
      have e14 : u 14 = _ := a14
      clear a14
      have e15 : u 15 = _ := a15
      clear a15
      have e16 : u 16 = _ := a16
      clear a16
      have e17 : u 17 = _ := a17
      clear a17
      have e18 : u 18 = _ := a18
      clear a18
      have e19 : u 19 = _ := a19
      clear a19
      have e20 : u 20 = _ := a20
      clear a20
      have e21 : u 21 = _ := a21
      clear a21
      have e22 : u 22 = _ := a22
      clear a22
      have e23 : u 23 = _ := a23
      clear a23
      have e24 : u 24 = _ := a24
      clear a24
      have e25 : u 25 = _ := a25
      clear a25
      have e26 : u 26 = _ := a26
      clear a26
      obtain ⟨a27, c27, e27⟩ := a27
      replace e27 : u 27 = _ := e27
      have e28 : u 28 = _ := a28
      clear a28
      have e29 : u 29 = _ := a29
      clear a29
      have e30 : u 30 = _ := a30
      clear a30
      have e31 : u 31 = _ := a31
      clear a31
      have e32 : u 32 = _ := a32
      clear a32
      have e33 : u 33 = _ := a33
      clear a33
      have e34 : u 34 = _ := a34
      clear a34
      have e35 : u 35 = _ := a35
      clear a35
      have e36 : u 36 = _ := a36
      clear a36
      have e37 : u 37 = _ := a37
      clear a37
      have e38 : u 38 = _ := a38
      clear a38
      have e39 : u 39 = _ := a39
      clear a39
      have e40 : u 40 = _ := a40
      clear a40
      have e41 : u 41 = _ := a41
      clear a41
      have e42 : u 42 = _ := a42
      clear a42
      have e43 : u 43 = _ := a43
      clear a43
      have e44 : u 44 = _ := a44
      clear a44
      have e45 : u 45 = _ := a45
      clear a45
      have e46 : u 46 = _ := a46
      clear a46
      have e47 : u 47 = _ := a47
      clear a47
      have e48 : u 48 = _ := a48
      clear a48
      have e49 : u 49 = _ := a49
      clear a49
      have e50 : u 50 = _ := a50
      clear a50
      have e51 : u 51 = _ := a51
      clear a51
      have e52 : u 52 = _ := a52
      clear a52
      simp only [e0, e1, e2, e3, e4, e5, e6, e7, e8, e9, e10, e11, e12, e13, e14, e15, e16, e17, e18, e19, e20, e21, e22, e23, e24, e25, e26, e27, e28, e29, e30, e31, e32, e33, e34, e35, e36, e37, e38, e39, e40, e41, e42, e43, e44, e45, e46, e47, e48, e49, e50, e51, e52]
      clear e0 e1 e2 e3 e4 e5 e6 e7 e8 e9 e10 e11 e12 e13 e14 e15 e16 e17 e18 e19 e20 e21 e22 e23 e24 e25 e26 e27 e28 e29 e30 e31 e32 e33 e34 e35 e36 e37 e38 e39 e40 e41 e42 e43 e44 e45 e46 e47 e48 e49 e50 e51 e52
      have HK9 := Lib.hid hC
      have HVS : Hid (∀ i q, i < m → 0 ≤ dF S i → (dF S i).toNat = q → 0 < (valsN m ln E q).getD i 0) := Lib.hid (fun i q hi hd hq => by
        have := vals_near HSP.out hm1 HNXT.out hi hd
        rw [hq] at this; exact this)
      have HVF : Hid (∀ i, i < m → (j : Int) < dF S i → (valsN m ln E j).getD i 0 = 0) := Lib.hid (fun i hi hd => vals_far HSP.out HIO.out.few hm1 HNXT.out hi hd)
      have HSW : Hid (∀ t W, t < m → Below w7.heap.size w7 W → Calls Tryz.prog 13 #[.agg #[.int .i64 (m : Nat), .slice az z.length cz], .slice aE E.length cE, .int .i64 (t : Nat)] W fun e w' => ((isHy (nthS S t) = false ∧ (nthS S t).size ≤ 16 ∧ e = .returned (.tuple #[.string (nthS S t), .bool true])) ∨ (¬ (isHy (nthS S t) = false ∧ (nthS S t).size ≤ 16) ∧ e = .returned (.tuple #[.string ⟨#[]⟩, .bool false]))) ∧ Below W.heap.size W w') := Lib.hid (fun t W ht hW => by
        obtain ⟨_, h1, h2, _⟩ := HXX.out W (Below.now HK7.out hW)
        have := implShortestWord_any m ln E z (E.map Int.ofNat) az cz aE cE t W HLE.out rfl HIO.out h1 h2 ht
        rw [List.length_map] at this
        refine this.mono ?_
        rintro e w9 ⟨S9, hs9, hb9, he⟩
        rw [HUQ.out S9 hs9] at he
        exact ⟨he, hb9⟩)
      have HCS : Hid (∀ t W, t < m → Below w7.heap.size w7 W → Calls Tryz.prog 14 #[.agg #[.int .i64 (m : Nat), .slice az z.length cz], .slice aE E.length cE, .int .i64 (t : Nat)] W fun e w' => e = .returned (.int .i64 ((csF m ln E S t : Nat) : Int)) ∧ Below W.heap.size W w') := Lib.hid (fun t W ht hW => by
        obtain ⟨_, h1, h2, _⟩ := HXX.out W (Below.now HK7.out hW)
        have := implCountShortest_any m ln E z (E.map Int.ofNat) az cz aE cE t W HLE.out rfl HIO.out ht hE2 h1 h2
        rw [List.length_map] at this
        refine this.mono ?_
        rintro e w9 ⟨S9, hs9, rfl, hb9⟩
        rw [HUQ.out S9 hs9]
        exact ⟨rfl, hb9⟩)
      clear hC hwM hmn hnsn HC0 HC6 HSU8 HRB HDM
      go_wp2_with fail
      go_loopw [109] (fun i wr => ∃ t : Nat, t ≤ m ∧ i = .int .i64 (t : Nat) ∧ Hid (Below w7.heap.size w7 wr)) (fun i _ => m - (intOf i).toNat)
      case atStart => exact ⟨0, Nat.zero_le _, rfl, HK9⟩
      case round =>
        clear HK9
        obtain ⟨t, ht, rfl, HW⟩ := hrel
        by_cases hlt : t < m
        · obtain ⟨_, _, hbo, _, hcd⟩ := (HD8.out.later HW.out).cell (i := t) (by have := dL_len m S; omega)
          simp only [Option.some.injEq, Addr.mk.injEq, and_true] at hbo
          obtain ⟨rfl, rfl⟩ := hbo
          have hct := hcd t (by have := dL_len m S; omega)
          rw [dL_at hlt] at hct
          clear hcd
          obtain ⟨x, hx⟩ : ∃ x, dF S t = x := ⟨_, rfl⟩
          have HXE := Lib.hid hx
          rw [hx] at hct
          obtain ⟨⟨z0, z1⟩, _⟩ := HXX.out wr (Below.now HK7.out HW.out)
          have HSWt := Lib.hid (HSW.out t wr hlt HW.out)
          have HCSt := Lib.hid (fun W => HCS.out t W hlt)
          have hcs : csF m ln E S t = if dF S t < 0 then 0 else (valsN m ln E (dF S t).toNat).getD t 0 := rfl
          rw [hx] at hcs
          have HNEG := Lib.hid (dF_neg (S := S) (i := t))
          rw [hx] at HNEG
          have HSZ : Hid (0 ≤ x → (((nthS S t).size : Nat) : Int) = x) := Lib.hid (fun h0 => by
            have h1 : nthS S t ≠ hyB := fun e => by have := HNEG.out.2 e; omega
            rw [← hx]; unfold dF; rw [if_neg h1])
          have hva := HVS.out t
          have hvf := HVF.out t hlt
          rw [hx] at hva hvf
          obtain ⟨vt, hvt⟩ : ∃ vt, (valsN m ln E j).getD t 0 = vt := ⟨_, rfl⟩
          have HVT := Lib.hid hvt
          rw [hvt] at hvf
          have HVC : Hid (∀ W, Below w7.heap.size w7 W → W.cell? ⟨g8, t, none⟩ = some (.int .i64 ((vt : Nat) : Int))) := Lib.hid (fun W hW => by
            have h1 := (HR8.out.later hW).cell hlt
            rw [hvt] at h1
            exact h1)
          clear hx hvt
          go_wp2_with fail
          refine HSWt.out.mono ?_
          rintro e wa ⟨he, hba⟩
          have HWA := Lib.hid (Below.now HW.out hba)
          clear hba z0 z1 hct HSWt
          obtain ⟨⟨z0, z1⟩, _⟩ := HXX.out wa (Below.now HK7.out HWA.out)
          by_cases h0 : x < 0
          · have hh : nthS S t = hyB := HNEG.out.1 h0
            rcases he with ⟨he, _⟩ | ⟨_, rfl⟩
            · rw [isHy_iff.2 hh] at he; cases he
            rw [if_pos h0] at hcs
            rw [hcs] at HCSt
            have hxj : (x == (j : Int)) = false := by rw [beq_eq_false_iff_ne]; omega
            have hxj2 : ¬ (j : Int) < x := by omega
            clear hva hvf hh hcs HSZ HNEG
            go_wp2_with fail
            refine (HCSt.out wa HWA.out).mono ?_
            rintro e wb ⟨rfl, hbb⟩
            have HWB := Lib.hid (Below.now HWA.out hbb)
            clear hbb z0 z1 HCSt
            go_wp2_with fail
            go_roundw
            case rel => exact ⟨t + 1, by omega, by go_num, HWB⟩
            case measure => simp [intOf]; omega
          · obtain ⟨q, rfl⟩ : ∃ q : Nat, x = (q : Int) := ⟨x.toNat, by omega⟩
            have hh : nthS S t ≠ hyB := fun e => by have := HNEG.out.2 e; omega
            have hny : isHy (nthS S t) = false := by
              cases hq : isHy (nthS S t)
              · rfl
              · exact absurd (isHy_iff.1 hq) hh
            have hsz : (nthS S t).size = q := by have := HSZ.out (by omega); omega
            rw [if_neg h0, Int.toNat_natCast] at hcs
            have hkp := hva q hlt (by omega) (by rw [Int.toNat_natCast])
            obtain ⟨kk, hkk⟩ : ∃ kk, (valsN m ln E q).getD t 0 = kk := ⟨_, rfl⟩
            have HKK := Lib.hid hkk
            rw [hkk] at hcs hkp
            rw [hcs] at HCSt
            have hkp2 : (0 : Int) < (kk : Int) := by omega
            have hq0' : (0 : Int) ≤ (q : Int) := by omega
            have HFIN : Hid (∀ wb, Hid (Below w7.heap.size w7 wb) → (∃ t_1 : Nat, t_1 ≤ m ∧ Value.int .i64 ((t : Int) + 1) = .int .i64 (t_1 : Nat) ∧ Hid (Below w7.heap.size w7 wb))) := Lib.hid (fun wb h => ⟨t + 1, by omega, by go_num, h⟩)
            clear hva hh hcs hkk h0 HNEG HSZ
            by_cases h16 : q ≤ 16
            · rcases he with ⟨_, _, rfl⟩ | ⟨hn, _⟩
              case inr => exact absurd ⟨hny, by omega⟩ hn
              have h16b : (q : Int) ≤ 16 := by omega
              generalize nthS S t = s at *
              have hsq : ((s.size : Nat) : Int) = (q : Int) := by omega
              have hsqb : (((s.size : Nat) : Int) != (q : Int)) = false := by rw [hsq]; simp
              clear hny hsq
              rcases Nat.lt_trichotomy q j with hqj | hqj | hqj
              · have hqj1 : ((q : Int) == (j : Int)) = false := by rw [beq_eq_false_iff_ne]; omega
                have hqj2 : ¬ (j : Int) < (q : Int) := by omega
                have hqj3 : ¬ q = j := by omega
                clear hvf
                go_wp2_with fail
                refine (HCSt.out wa HWA.out).mono ?_
                rintro e wb ⟨rfl, hbb⟩
                have HWB := Lib.hid (Below.now HWA.out hbb)
                clear hbb z0 z1 HCSt
                go_wp2_with fail
                go_roundw
                case rel => exact HFIN.out _ HWB
                case measure => simp [intOf]; omega
              · have hqj1 : ((q : Int) == (j : Int)) = true := by rw [beq_iff_eq]; omega
                have hqj2 : ¬ (j : Int) < (q : Int) := by omega
                have hqj4 : decide (q = j) = true := decide_eq_true hqj
                obtain rfl : kk = vt := by rw [← HKK.out, ← HVT.out, hqj]
                clear hvf
                go_wp2_with fail
                refine (HCSt.out wa HWA.out).mono ?_
                rintro e wb ⟨rfl, hbb⟩
                have HWB := Lib.hid (Below.now HWA.out hbb)
                clear hbb z0 z1 HCSt
                have y8 := HVC.out _ HWB.out
                go_wp2_with fail
                go_roundw
                case rel => exact HFIN.out _ HWB
                case measure => simp [intOf]; omega
              · have hqj1 : ((q : Int) == (j : Int)) = false := by rw [beq_eq_false_iff_ne]; omega
                have hqj2 : (j : Int) < (q : Int) := by omega
                have hqj3 : ¬ q = j := by omega
                obtain rfl : vt = 0 := hvf hqj2
                clear hvf
                go_wp2_with fail
                refine (HCSt.out wa HWA.out).mono ?_
                rintro e wb ⟨rfl, hbb⟩
                have HWB := Lib.hid (Below.now HWA.out hbb)
                clear hbb z0 z1 HCSt
                have y8 := HVC.out _ HWB.out
                go_wp2_with fail
                go_roundw
                case rel => exact HFIN.out _ HWB
                case measure => simp [intOf]; omega
            · rcases he with ⟨_, h16c, _⟩ | ⟨_, rfl⟩
              case inl => omega
              have h16b : ¬ (q : Int) ≤ 16 := by omega
              have hqj1 : ((q : Int) == (j : Int)) = false := by rw [beq_eq_false_iff_ne]; omega
              have hqj2 : (j : Int) < (q : Int) := by omega
              have hqj3 : ¬ q = j := by omega
              obtain rfl : vt = 0 := hvf hqj2
              clear hvf hny hsz
              go_wp2_with fail
              refine (HCSt.out wa HWA.out).mono ?_
              rintro e wb ⟨rfl, hbb⟩
              have HWB := Lib.hid (Below.now HWA.out hbb)
              clear hbb z0 z1 HCSt
              have y8 := HVC.out _ HWB.out
              go_wp2_with fail
              go_roundw
              case rel => exact HFIN.out _ HWB
              case measure => simp [intOf]; omega
        · obtain rfl : t = m := by omega
          have HREL : Hid (∀ W, Below w7.heap.size w7 W → Calls Tryz.prog 15 #[.agg #[.int .i64 (t : Nat), .slice az z.length cz], .slice aE E.length cE] W fun e w' => ∃ (u v : ByteArray), (lessS u v = true ∧ letIn E u ∧ letIn E v ∧ u.size ≤ v.size ∧ v.size ≤ 41 ∧ valF t ln E u = valF t ln E v) ∧ e = .returned (.tuple #[.string u, .string v, .bool true]) ∧ Below W.heap.size W w') := Lib.hid (fun W hW => by
            obtain ⟨_, h1, h2, _⟩ := HXX.out W (Below.now HK7.out hW)
            have := implShortestRelation_any t ln E z (E.map Int.ofNat) az cz aE cE W HLE.out rfl HIO.out h1 h2
            rw [List.length_map] at this
            refine this.mono ?_
            rintro e w9 ⟨S9, i, y, hs9, hi, hn, hy, hne, rfl, hb9⟩
            obtain ⟨us, zs, ⟨a1, a2⟩, a3, a4, a5, a6, a7⟩ := rel_less hs9 HIO.out.few HNXT.out hi hn hy hne
            obtain ⟨b1, b2, b3⟩ := hs9.val HIO.out.few hm2 hi hn hy
            have h4 : ∀ y ∈ us, y < 4 := fun y h => by have := a1 y h; omega
            have h5 : ∀ y ∈ zs, y < 4 := fun y h => by have := a2 y h; omega
            have hln := rkN_len (ys := us) h5 (Nat.le_of_lt a5)
            refine ⟨_, _, ⟨less_rk a3 a4 h4 h5 a5, ?_, b2, ?_, b3, ?_⟩, rfl, hb9⟩
            · rw [a3]
              intro c hc
              rw [wdN_list] at hc
              obtain ⟨y, hy, rfl⟩ := List.mem_map.1 hc
              have h6 := a1 y hy
              have h7 := lt97_num (h4 y hy)
              omega
            · rw [a3, a4, wdN_size, wdN_size]; exact hln
            · rw [a3, val_wdN t ln E h4, a6, b1])
          have HVO : Hid (∀ v W, Below w7.heap.size w7 W → letIn E v → v.size ≤ 41 → Calls Tryz.prog 16 #[.agg #[.int .i64 (t : Nat), .slice az z.length cz], .slice aE E.length cE, .string v] W fun e w' => ∃ (p : Int) (b : Bool), e = .returned (.tuple #[.int .i64 p, .bool b]) ∧ (v.size ≤ 16 → p = (valF t ln E v : Nat) ∧ b = true) ∧ Below W.heap.size W w') := Lib.hid (fun v W hW hv hs => by
            obtain ⟨_, h1, h2, _⟩ := HXX.out W (Below.now HK7.out hW)
            have := implValueOf_all t ln E z (E.map Int.ofNat) az cz aE cE v W HLE.out rfl HIO.out h1 h2 hv (by omega)
            rw [List.length_map] at this
            exact this)
          have HAN : Hid (∀ W, Below w7.heap.size w7 W → Calls Tryz.prog 17 #[.agg #[.int .i64 (t : Nat), .slice az z.length cz], .slice aE E.length cE] W fun e w' => ∃ a2 c2, e = .returned (.slice a2 (cntK (dL t S) M) c2) ∧ Below W.heap.size W w') := Lib.hid (fun W hW => by
            obtain ⟨_, h1, h2, _⟩ := HXX.out W (Below.now HK7.out hW)
            have := implAntipodesOf_any t ln E z (E.map Int.ofNat) az cz aE cE W HLE.out rfl HIO.out h1 h2
            rw [List.length_map] at this
            refine this.mono ?_
            rintro e w9 ⟨S9, hs9, a9, c9, rfl, _, hb9⟩
            rw [HUQ.out S9 hs9, far_len HTG.out HME.out]
            exact ⟨a9, c9, rfl, hb9⟩)
          have HSYM : Hid (∀ W, Below w7.heap.size w7 W → Calls Tryz.prog 19 #[.agg #[.int .i64 (t : Nat), .slice az z.length cz], .slice aE E.length cE] W fun e w' => ∃ b, e = .returned (.bool b) ∧ (b = true → R ≤ (listTo (isUnit t ln) t).length) ∧ Below W.heap.size W w') := Lib.hid (fun W hW => by
            obtain ⟨_, h1, h2, _⟩ := HXX.out W (Below.now HK7.out hW)
            have := implIsSymmetric_any t ln E z (E.map Int.ofNat) az cz aE cE W HLE.out rfl HIO.out h1 h2
            rw [List.length_map] at this
            refine this.mono ?_
            rintro e w9 ⟨b, rfl, hsy, hb9⟩
            refine ⟨b, rfl, fun h => ?_, hb9⟩
            rw [← HRE.out]
            exact unit_cnt HTB.out HEM.out (hsy h) HSP.out)
          have HUN : Hid (∀ W, Below w7.heap.size w7 W → Calls Tryz.prog 20 #[.agg #[.int .i64 (t : Nat), .slice az z.length cz]] W fun e w' => ∃ a2 c2, e = .returned (.slice a2 (listTo (isUnit t ln) t).length c2) ∧ Below W.heap.size W w') := Lib.hid (fun W hW => by
            obtain ⟨_, h1, h2, _⟩ := HXX.out W (Below.now HK7.out hW)
            have hzl : z.length ≤ 1600 := by rw [HLE.out, List.length_map, HTB.out.len]; exact sq_le hm2
            have := implUnitsOf_any (t : Nat) z az cz W h1 (by omega)
            rw [unitsF_tab HTG.out, show z.map Int.toNat = ln by rw [HLE.out, map_toNat]] at this
            refine this.mono ?_
            rintro e w9 ⟨a9, c9, rfl, _, hb9⟩
            exact ⟨a9, c9, rfl, hb9⟩)
          have HLS := Lib.hid implIsLess_any
          generalize (listTo (isUnit t ln) t).length = un at *
          have HC6M : Hid (∀ W, Below w7.heap.size w7 W → W.cell? ⟨g6, M, none⟩ = some (.int .i64 ((cntK (dL t S) M : Nat) : Int))) := Lib.hid (fun W hW => by
            have h1 := (HR68.out.later hW).cell (v := M) (by omega)
            rw [sphN_get (by omega)] at h1
            exact h1)
          generalize cntK (dL t S) M = cM at *
          obtain ⟨⟨z0, z1⟩, _⟩ := HXX.out wr (Below.now HK7.out HW.out)
          go_wp2_with fail
          refine (HREL.out wr HW.out).mono ?_
          rintro e wa ⟨u, v, ⟨r1, r2, r3, r4, r5, r6⟩, rfl, hba⟩
          have HWA := Lib.hid (Below.now HW.out hba)
          have HVU := Lib.hid (fun W hW => HVO.out u W hW r2 (by omega))
          have HVV := Lib.hid (fun W hW => HVO.out v W hW r3 r5)
          have HLU := Lib.hid (fun W => HLS.out u v W)
          rw [r1] at HLU
          have HR6 := Lib.hid r6
          clear hba z0 z1 HREL HVO r1 r2 r3 r6
          obtain ⟨⟨z0, z1⟩, _⟩ := HXX.out wa (Below.now HK7.out HWA.out)
          go_wp2_with fail
          refine (HVU.out wa HWA.out).mono ?_
          rintro e wb ⟨p1, b1, rfl, hp1, hbb⟩
          have HWB := Lib.hid (Below.now HWA.out hbb)
          have HP1 := Lib.hid hp1
          clear hbb z0 z1 HVU hp1
          obtain ⟨⟨z0, z1⟩, _⟩ := HXX.out wb (Below.now HK7.out HWB.out)
          go_wp2_with fail
          refine (HVV.out wb HWB.out).mono ?_
          rintro e wc ⟨p2, b2, rfl, hp2, hbc⟩
          have HWC := Lib.hid (Below.now HWB.out hbc)
          have HP2 := Lib.hid hp2
          clear hbc z0 z1 HVV hp2
          obtain ⟨⟨z0, z1⟩, _⟩ := HXX.out wc (Below.now HK7.out HWC.out)
          go_wp2_with fail
          refine (HAN.out wc HWC.out).mono ?_
          rintro e wd ⟨a9, c9, rfl, hbd⟩
          have HWD := Lib.hid (Below.now HWC.out hbd)
          clear hbd z0 z1 HAN
          have y6 := HC6M.out wd HWD.out
          have hwM : IntKind.i64.wrap (M : Int) = (M : Int) := IntWalk.i64_in _ ⟨by omega, by omega⟩
          have hMns : (M : Int) < (ns : Int) := by omega
          have hM0 : (0 : Int) ≤ (M : Int) := by omega
          have hMns2 : M < ns := by omega
          clear y6
          have HFIN : Hid (∀ W, Below w7.heap.size w7 W → Below w.heap.size w W) := Lib.hid (fun W hW => Below.now HBW.out (Below.now HK7.out hW))
          have key : ∀ W, Below w7.heap.size w7 W → ((W.cell? ⟨bt, 0, none⟩ = some (.int .i64 (t : Nat)) ∧ W.cell? ⟨bt, 1, none⟩ = some (.slice az z.length cz)) ∧ W.cell? ⟨g6, M, none⟩ = some (.int .i64 ((cM : Nat) : Int))) := fun W hW => ⟨(HXX.out W (Below.now HK7.out hW)).1, HC6M.out W hW⟩
          have KEY := Lib.hid key
          clear key
          by_cases hv16 : v.size ≤ 16
          · obtain ⟨e1, e2⟩ := HP1.out (by omega)
            obtain ⟨e3, e4⟩ := HP2.out hv16
            have e5 : p1 = p2 := by rw [e1, e3, HR6.out]
            subst e5
            subst e2
            subst e4
            have hv16b : ¬ (16 : Int) < (v.size : Int) := by omega
            clear e1 e3 HP1 HP2 HR6
            go_wp2_with fail
            refine (HLU.out wd).mono ?_
            rintro e we ⟨rfl, hbe⟩
            have HWE := Lib.hid (Below.now HWD.out hbe)
            clear hbe HLU
            obtain ⟨⟨z0, z1⟩, y6⟩ := KEY.out we HWE.out
            go_wp2_with fail
            refine (HSYM.out we HWE.out).mono ?_
            rintro e wf ⟨bs, rfl, hsy, hbf⟩
            have HWF := Lib.hid (Below.now HWE.out hbf)
            have HSY := Lib.hid hsy
            clear hbf hsy z0 z1 y6 HSYM
            cases bs
            · have F := Lib.hid (HFIN.out wf HWF.out)
              go_wp2_with fail
              go_ret
              exact ⟨rfl, F.out⟩
            · have hun := HSY.out rfl
              obtain ⟨⟨z0, z1⟩, y6⟩ := KEY.out wf HWF.out
              clear y6
              go_wp2_with fail
              refine (HUN.out wf HWF.out).mono ?_
              rintro e wg ⟨a10, c10, rfl, hbg⟩
              have HWG := Lib.hid (Below.now HWF.out hbg)
              clear hbg z0 z1 HUN
              have hun2 : (R : Int) ≤ (un : Int) := by omega
              go_wp2_with fail
              refine (HSU6.out wg HWG.out).mono ?_
              rintro e wh ⟨rfl, hwh⟩
              subst hwh
              have F := Lib.hid (HFIN.out wg HWG.out)
              go_wp2_with fail
              go_ret
              exact ⟨rfl, F.out⟩
          · have hv16b : (16 : Int) < (v.size : Int) := by omega
            clear HP1 HP2 HR6
            go_wp2_with fail
            refine (HLU.out wd).mono ?_
            rintro e we ⟨rfl, hbe⟩
            have HWE := Lib.hid (Below.now HWD.out hbe)
            clear hbe HLU
            obtain ⟨⟨z0, z1⟩, y6⟩ := KEY.out we HWE.out
            go_wp2_with fail
            refine (HSYM.out we HWE.out).mono ?_
            rintro e wf ⟨bs, rfl, hsy, hbf⟩
            have HWF := Lib.hid (Below.now HWE.out hbf)
            have HSY := Lib.hid hsy
            clear hbf hsy z0 z1 y6 HSYM
            cases bs
            · have F := Lib.hid (HFIN.out wf HWF.out)
              go_wp2_with fail
              go_ret
              exact ⟨rfl, F.out⟩
            · have hun := HSY.out rfl
              obtain ⟨⟨z0, z1⟩, y6⟩ := KEY.out wf HWF.out
              clear y6
              go_wp2_with fail
              refine (HUN.out wf HWF.out).mono ?_
              rintro e wg ⟨a10, c10, rfl, hbg⟩
              have HWG := Lib.hid (Below.now HWF.out hbg)
              clear hbg z0 z1 HUN
              have hun2 : (R : Int) ≤ (un : Int) := by omega
              go_wp2_with fail
              refine (HSU6.out wg HWG.out).mono ?_
              rintro e wh ⟨rfl, hwh⟩
              subst hwh
              have F := Lib.hid (HFIN.out wg HWG.out)
              go_wp2_with fail
              go_ret
              exact ⟨rfl, F.out⟩
set_option maxRecDepth 100000 in
theorem walkBig (a : Option Addr) (n cap : Nat) (w : World) (hn : n ≤ 9223372036854775807) (hlen : 1048576 < n) :
    Calls Tryz.prog 3 #[.slice a n cap] w fun e w' => e = .returned (.bool true) ∧ Below w.heap.size w w' := by
  have hq0 : (1048576 : Int) < (n : Int) := by omega
  go_enter Tryz.func3, Tryz.ntmps3
  go_wp2_with fail
  go_ret
  exact ⟨rfl, Below.refl _ _⟩
end Go.Proofs.YtmgdglghjlggnaaGreat.fnWays
