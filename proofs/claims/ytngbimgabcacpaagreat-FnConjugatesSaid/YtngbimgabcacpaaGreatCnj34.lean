/-
  'FnConjugates' holds: for every argument the law answers true and leaves its argument as it was. No condition.
-/
import Derived.Test.YtngbimgabcacpaaGreatCnj33
import Derived.Test.YtngbimgabcacpaaGreatCnj26
import Derived.Test.YtngbimgabcacpaaGreatCnj32
import Derived.Test.YtngbimgabcacpaaGreatCnj04
import Derived.Test.YtngbimgabcacpaaGreatCnj01
namespace Go.Proofs.YtngbimgabcacpaaGreat.fnConjugates
open Go.RowKit
set_option linter.unusedVariables false
theorem szl_le {m : Nat} {l Z S : List Int} (h : ConG m l Z S) (hm : m ≤ 40) : S.length ≤ 40 := by
  have h1 : ∀ l : List Int, (∀ x ∈ l, 1 ≤ x) → (l.length : Int) ≤ l.sum := by
    intro l
    induction l with
    | nil => intro _; simp
    | cons a l ih =>
      intro h
      have e1 := h a List.mem_cons_self
      have e2 := ih fun x hx => h x (List.mem_cons_of_mem _ hx)
      simp only [List.length_cons, List.sum_cons]; omega
  have h2 := h1 S fun x hx => by obtain ⟨n, rfl, h3, _⟩ := h.each x hx; omega
  have h3 := h.total
  omega
theorem nth_mem {G : List Int} {c : Nat} (hc : c < G.length) : nthZ G c ∈ G := by
  rw [nthZ_lt hc]; exact List.getElem_mem hc
set_option maxRecDepth 100000 in
set_option maxHeartbeats 16000000 in
theorem walkSmall (a : Option Addr) (l : List UInt8) (cap : Nat) (w : World) (hl : BytesIn w a l) (hlen : l.length ≤ 1048576) :
    Calls Tryz.prog 5 #[.slice a l.length cap] w fun e w' => e = .returned (.bool true) ∧ Below w.heap.size w w' := by
  have hq0 : ¬ (1048576 : Int) < (l.length : Int) := by omega
  have HM := Lib.hid (makeGroup_any a l cap 0 w hl (by omega) (by omega))
  have HNUM := Lib.hid (fun W (h : BytesIn W a l) => makeNum_any a l cap 20 W h (by omega) (by omega))
  have HL0 := Lib.hid hl
  clear hl
  go_enter Tryz.func5, Tryz.ntmps5
  go_wp2_with fail
  refine HM.out.mono ?_
  rintro e w1 ⟨m, z, az, cz, hT, rfl, hz, hcap, hb1⟩
  obtain ⟨hzl, _, hm1, hm2⟩ := hT.tab.few2
  have HCE := Lib.hid (fun W (h : IntsIn W az z) => implCenterOf_any (m : Nat) z az cz W h (by omega))
  have HCS := Lib.hid (fun W (h : IntsIn W az z) => implClassSizes_any (m : Nat) z az cz W h (by omega) hcap)
  have HCJ := Lib.hid (fun (i : Nat) W (h : IntsIn W az z) => implConjugatesOf_any (m : Nat) z az cz (i : Nat) W h (by omega) hcap)
  have HOR := Lib.hid (fun (i : Nat) W (h : IntsIn W az z) => implOrderOf_any (m : Nat) z az cz (i : Nat) W h (by omega))
  have HCG := Lib.hid hT.con
  have hZl := centerOfF_len (m : Nat) z
  have HNO := Lib.hid (fun aZ cZ W (h : IntsIn W az z) (h2 : IntsIn W aZ (centerOfF (m : Nat) z)) => implIsNormal_any (m : Nat) z az cz (centerOfF (m : Nat) z) aZ cZ W h (by omega) hcap h2 (by omega))
  rw [HCG.out.normal] at HNO
  have hSl := szl_le HCG.out hm2
  have HEACH := Lib.hid HCG.out.each
  have HSORT := Lib.hid HCG.out.sorted
  have HTOT := Lib.hid HCG.out.total
  have HONE := Lib.hid HCG.out.ones
  have HCL := Lib.hid (fun (i : Nat) => conjF_len (m : Nat) z (i : Nat))
  have HSELF : Hid (∀ i : Nat, i < m → ((i : Nat) : Int) ∈ conjF (m : Nat) z (i : Nat)) := Lib.hid (fun i hi => (hT.conE hi).self)
  have HEL : Hid (∀ i : Nat, i < m → ∀ x ∈ conjF (m : Nat) z (i : Nat), ∃ j : Nat, x = (j : Int) ∧ j < m ∧ ordV (m : Nat) z (j : Nat) = ordV (m : Nat) z (i : Nat) ∧ conjF (m : Nat) z (j : Nat) = conjF (m : Nat) z (i : Nat)) := Lib.hid (fun i hi => (hT.conE hi).el)
  have HOE : Hid (∀ i : Nat, i < m → decide ((conjF (m : Nat) z (i : Nat)).length = 1) = decide (((i : Nat) : Int) ∈ centerOfF (m : Nat) z)) := Lib.hid (fun i hi => (hT.conE hi).one)
  have HZI : Hid (∀ W, Below w1.heap.size w1 W → IntsIn W az z) := Lib.hid (fun W h => hz.later h)
  have HB1 := Lib.hid hb1
  clear HCG
  generalize conjF (m : Nat) z = cjx at *
  generalize ordV (m : Nat) z = orx at *
  generalize centerOfF (m : Nat) z = Z at *
  generalize clsF (m : Nat) z = S at *
  clear hb1 HM hT hz
  go_upto_region 4 with fail
  have HW2 := Lib.hid (alloc_belowT w1 (.cells #[.int .i64 (m : Nat), .slice az z.length cz] 25))
  have HX : Hid (∀ W, Below (w1.alloc (.cells #[.int .i64 (m : Nat), .slice az z.length cz] 25)).heap.size (w1.alloc (.cells #[.int .i64 (m : Nat), .slice az z.length cz] 25)) W → W.cell? ⟨w1.heap.size, 0, none⟩ = some (.int .i64 (m : Nat)) ∧ W.cell? ⟨w1.heap.size, 1, none⟩ = some (.slice az z.length cz)) := Lib.hid (fun W hW => ⟨by rw [hW.cell (by simp)]; simp, by rw [hW.cell (by simp)]; simp⟩)
  generalize w1.alloc (.cells #[.int .i64 (m : Nat), .slice az z.length cz] 25) = w2 at *
  have HZW : Hid (∀ W, Below w2.heap.size w2 W → IntsIn W az z) := Lib.hid (fun W h => HZI.out W (Below.now HW2.out h))
  have HBY : Hid (∀ W, Below w2.heap.size w2 W → BytesIn W a l) := Lib.hid (fun W h => HL0.out.later (Below.now HB1.out (Below.now HW2.out h)))
  clear HZI HL0
  have hmz : ((m : Int) == 0) = false := by rw [beq_eq_false_iff_ne]; omega
  have hmz2 : ¬ (m : Int) = 0 := by omega
  have hmz3 : ¬ m = 0 := by omega
  have kr := Below.refl w2.heap.size w2
  obtain ⟨z0, z1⟩ := HX.out _ kr
  go_wp2_with fail
  refine (HCE.out _ (HZW.out _ kr)).mono ?_
  rintro e w3 ⟨aZ, cZ, rfl, hoZ, hb3⟩
  have HK3 := Lib.hid hb3
  have HZ3 := Lib.hid (owns_ints (l := Z) hoZ)
  clear z0 z1 hoZ hb3 kr HCE
  obtain ⟨z0, z1⟩ := HX.out _ HK3.out
  go_wp2_with fail
  refine (HCS.out _ (HZW.out _ HK3.out)).mono ?_
  rintro e w4 ⟨aS, cS, rfl, hoS, hb4⟩
  have HK4 := Lib.hid (Below.now HK3.out hb4)
  have HZ4 := Lib.hid (HZ3.out.later hb4)
  have HS4 := Lib.hid (owns_ints (l := S) hoS)
  clear z0 z1 hoS hb4 HK3 HZ3 HCS
  go_wp2_with fail
  have HNN : Hid (∀ x ∈ S, 0 ≤ x) := Lib.hid (fun x hx => by obtain ⟨n, rfl, _⟩ := HEACH.out x hx; omega)
  go_loopw [6, 7, 25] (fun o t i wr => ∃ j : Nat, j ≤ S.length ∧ i = .int .i64 (j : Nat) ∧ o = .int .i64 ((cntZTo S 1 j : Nat) : Int) ∧ t = .int .i64 (sumZ S j) ∧ Below w4.heap.size w4 wr) (fun _ _ i _ => S.length - (intOf i).toNat)
  case atStart => exact ⟨0, Nat.zero_le _, rfl, rfl, rfl, Below.refl _ _⟩
  case round =>
    obtain ⟨j, hj, rfl, rfl, rfl, hbr⟩ := hrel
    have HBR := Lib.hid hbr
    have HB9 := Lib.hid (Below.now HK4.out hbr)
    obtain ⟨z0, z1⟩ := HX.out _ HB9.out
    clear hbr
    by_cases hlt : j < S.length
    · obtain ⟨b, off, rfl, hb, hcell⟩ := (HS4.out.later HBR.out).cell hlt
      have h1 := hcell j hlt
      obtain ⟨n, hn, hn1, hn40, hdv⟩ := HEACH.out _ (nth_mem hlt)
      have hc1 := Lib.hid (cntZTo_succ (x := 1) hlt)
      have hs1 := Lib.hid (sumZ_succ hlt)
      have hcl := cntZTo_le S 1 j
      have hsb := sumZ_le HNN.out j
      have htt := HTOT.out
      have hsb2 : sumZ S j ≤ 40 := by omega
      have hsb3 : 0 ≤ sumZ S j := hsb.1
      have HN := Lib.hid hn
      rw [hn] at h1
      have t1 : ¬ ((n : Nat) : Int) < 1 := by omega
      have t2 : ((n : Int) == 0) = false := by rw [beq_eq_false_iff_ne]; omega
      have t2b : ¬ (n : Int) = 0 := by omega
      have t2c : ¬ n = 0 := by omega
      have t3 : ((m : Int).tmod (n : Int)) = 0 := by rw [← Int.ofNat_tmod, hdv]; rfl
      have hback : Hid (∀ k, j = k + 1 → nthZ S k ≤ (n : Int) ∧ (Value.int .i64 (nthZ S k)) = (Value.int .i64 (nthZ S k))) := Lib.hid (fun k hk => ⟨by subst hk; rw [← HN.out]; exact HSORT.out k hlt, rfl⟩)
      clear hsb htt hn hdv
      generalize cntZTo S 1 j = o at *
      generalize sumZ S j = t at *
      have F1 : Hid (n = 1 → (o + 1 : Nat) = cntZTo S 1 (j + 1)) := Lib.hid (fun e => by rw [hc1.out, HN.out, if_pos (by omega)])
      have F0 : Hid (n ≠ 1 → o = cntZTo S 1 (j + 1)) := Lib.hid (fun e => by rw [hc1.out, HN.out, if_neg (by omega)])
      have FS : Hid (t + (n : Int) = sumZ S (j + 1)) := Lib.hid (by rw [hs1.out, HN.out])
      rcases j with _ | k
      · clear hcell
        rw [Nat.add_zero] at h1
        by_cases h11 : n = 1
        · subst h11
          go_wp2_with fail
          go_roundw
          case rel => exact ⟨1, by omega, by go_num, by rw [← F1.out rfl]; try go_num, by rw [← FS.out]; try go_num, HBR.out⟩
          case measure => simp [intOf]; omega
        · have t4 : (((n : Nat) : Int) == 1) = false := by rw [beq_eq_false_iff_ne]; omega
          go_wp2_with fail
          go_roundw
          case rel => exact ⟨1, by omega, by go_num, by rw [← F0.out h11], by rw [← FS.out]; try go_num, HBR.out⟩
          case measure => simp [intOf]; omega
      · have h2 := hcell k (by omega)
        have hle := (hback.out k rfl).1
        have t5 : ¬ ((n : Nat) : Int) < nthZ S k := by omega
        have t6 : (0 : Int) < ((k : Int) + 1) := by omega
        have t7 : ((k : Int) + 1) - 1 = (k : Int) := by omega
        clear hcell hle
        generalize nthZ S k = v at *
        by_cases h11 : n = 1
        · subst h11
          go_wp2_with fail
          go_roundw
          case rel => exact ⟨k + 1 + 1, by omega, by go_num, by rw [← F1.out rfl]; try go_num, by rw [← FS.out]; try go_num, HBR.out⟩
          case measure => simp [intOf]; omega
        · have t4 : (((n : Nat) : Int) == 1) = false := by rw [beq_eq_false_iff_ne]; omega
          go_wp2_with fail
          go_roundw
          case rel => exact ⟨k + 1 + 1, by omega, by go_num, by rw [← F0.out h11], by rw [← FS.out]; try go_num, HBR.out⟩
          case measure => simp [intOf]; omega
    · have ho : cntZTo S 1 j = Z.length := by rw [cntZTo_all hlt, HONE.out]
      have ht : sumZ S j = ((m : Nat) : Int) := by rw [sumZ_all hlt, HTOT.out]
      rw [ho, ht]
      clear ho ht z0 z1
      go_upto_region 17 with fail
      refine region_each (fun W => Below wr.heap.size wr W) (fun W W2 => Below W.heap.size W W2) (fun u => by simp only [fPut, Act.put, List.setIfInBounds_toArray, List.set_cons_succ, List.set_cons_zero, Nat.zero_add, Nat.reduceAdd]; rfl) (by kernel_rfl) (by kernel_rfl) (by kernel_rfl) (Below.drew (Below.refl _ _)) ?_
      apply each_read (fun _ => Below.refl _ _) rfl
      · intro u wv hC hf
        have z0 := (HX.out _ (Below.now HB9.out hC)).1
        have z1 := (HX.out _ (Below.now HB9.out hC)).2
        clear hf
        go_simp
        try rfl
      refine each_call (fun v wv => ∃ x : Nat, v = .int .i64 ((x : Nat) : Int)) (fun v w w2 _ hR h => h) rfl ?_ ?_
      · intro u wv hC hf
        have z0 := (HX.out _ (Below.now HB9.out hC)).1
        have z1 := (HX.out _ (Below.now HB9.out hC)).2
        obtain ⟨d0_0, -⟩ := hf
        have e0 : u 0 = _ := d0_0 rfl
        clear d0_0
        apply Exists.intro; apply Exists.intro; apply And.intro
        · go_simp; exact ⟨rfl, rfl⟩
        · refine (HNUM.out _ (HBY.out _ (Below.now HB9.out hC))).mono ?_
          rintro e w3 ⟨x, hx, rfl, hb⟩
          exact ⟨_, rfl, Below.now hC hb, hb, x, rfl⟩
      apply each_read (fun _ => Below.refl _ _) rfl
      · intro u wv hC hf
        have z0 := (HX.out _ (Below.now HB9.out hC)).1
        have z1 := (HX.out _ (Below.now HB9.out hC)).2
        clear hf
        go_simp
        try rfl
      apply each_read (fun _ => Below.refl _ _) rfl
      · intro u wv hC hf
        have z0 := (HX.out _ (Below.now HB9.out hC)).1
        have z1 := (HX.out _ (Below.now HB9.out hC)).2
        obtain ⟨d2_0, -⟩ := hf
        have e2 : u 2 = _ := d2_0 rfl
        clear d2_0
        go_simp
        try rfl
      refine each_do (fun v wv => ∃ i : Nat, i < m ∧ v = .int .i64 ((i : Nat) : Int)) (fun v w w2 _ hR h => h) rfl ?_ ?_
      · intro u wv hC hf
        have z0 := (HX.out _ (Below.now HB9.out hC)).1
        have z1 := (HX.out _ (Below.now HB9.out hC)).2
        obtain ⟨d1_0, d3_1, -⟩ := hf
        obtain ⟨x1, e1⟩ := d1_0 rfl
        have e3 : u 3 = _ := d3_1 rfl
        clear d3_1
        refine ⟨.int .i64 (((x1 % m : Nat)) : Int), wv, ?_, hC, Below.refl _ _, x1 % m, Nat.mod_lt _ (by omega), rfl⟩
        rw [Int.ofNat_tmod]
        go_simp
        try rfl
      refine each_do (fun v wv => ∃ i : Nat, i < m ∧ v = .int .i64 ((i : Nat) : Int)) (fun v w w2 _ hR h => h) rfl ?_ ?_
      · intro u wv hC hf
        have z0 := (HX.out _ (Below.now HB9.out hC)).1
        have z1 := (HX.out _ (Below.now HB9.out hC)).2
        obtain ⟨d4_0, d1_1, d0_2, d1_3, d2_4, d3_5, d4_6, -⟩ := hf
        obtain ⟨i4, hi4, e4⟩ := d4_0 rfl
        obtain ⟨x1, e1⟩ := d1_1 rfl
        have e0 : u 0 = _ := d0_2 rfl
        clear d0_2
        clear d1_3
        have e2 : u 2 = _ := d2_4 rfl
        clear d2_4
        have e3 : u 3 = _ := d3_5 rfl
        clear d3_5
        clear d4_6
        refine ⟨.int .i64 ((i4 : Nat) : Int), wv, ?_, hC, Below.refl _ _, i4, hi4, rfl⟩
        go_simp
        try rfl
      intro u w10 hb10 hall
      obtain ⟨a0, a1, a2, a3, a4, a5, -⟩ := hall
      have e0 : u 0 = _ := a0
      clear a0
      obtain ⟨x1, e1⟩ := a1
      replace e1 : u 1 = _ := e1
      have e2 : u 2 = _ := a2
      clear a2
      have e3 : u 3 = _ := a3
      clear a3
      obtain ⟨i4, hi4, e4⟩ := a4
      replace e4 : u 4 = _ := e4
      obtain ⟨i5, hi5, e5⟩ := a5
      replace e5 : u 5 = _ := e5
      simp only [e0, e1, e2, e3, e4, e5]
      clear e0 e1 e2 e3 e4 e5
      have HB10 := Lib.hid (Below.now HB9.out hb10)
      have HBZ := Lib.hid (Below.now HBR.out hb10)
      clear hb10
      have hci := HCL.out i5
      have HCJI := Lib.hid (fun W (h : IntsIn W az z) => HCJ.out i5 W h)
      have HORI := Lib.hid (fun W (h : IntsIn W az z) => HOR.out i5 W h)
      have hself := HSELF.out i5 hi5
      have hone := HOE.out i5 hi5
      have HE5 := Lib.hid (HEL.out i5 hi5)
      obtain ⟨z0, z1⟩ := HX.out _ HB10.out
      clear HSELF HOE HEL
      go_wp2_with fail
      refine (HCJI.out _ (HZW.out _ HB10.out)).mono ?_
      rintro e w11 ⟨ac, cc, rfl, hoc, hb11⟩
      have HC11 := Lib.hid (owns_ints (l := cjx ((i5 : Nat) : Int)) hoc)
      have HB12a := Lib.hid (Below.now HB10.out hb11)
      have HBW := Lib.hid (Below.now HBZ.out hb11)
      clear hoc hb11 z0 z1 HCJI
      generalize hC : cjx ((i5 : Nat) : Int) = C at *
      have HCe := Lib.hid hC
      clear hC
      go_wp2_with fail
      generalize hWR : wr = wr0 at *
      clear hWR
      go_loopw [70] (fun i wr => ∃ j : Nat, j ≤ C.length ∧ i = .int .i64 (j : Nat) ∧ Below w11.heap.size w11 wr) (fun i _ => C.length - (intOf i).toNat)
      case atStart => exact ⟨0, Nat.zero_le _, rfl, Below.refl _ _⟩
      case round =>
        obtain ⟨q, hq, rfl, hbr⟩ := hrel
        have HBQ := Lib.hid hbr
        have HB12 := Lib.hid (Below.now HB12a.out hbr)
        have HCI := Lib.hid (HC11.out.later hbr)
        clear hbr
        by_cases hlq : q < C.length
        · obtain ⟨b, off, rfl, hb, hcell⟩ := HCI.out.cell hlq
          have h1 := hcell q hlq
          obtain ⟨y, hy, hym, hyo, hyc⟩ := HE5.out _ (nth_mem hlq)
          rw [hy] at h1
          have HCJX := Lib.hid (fun W (h : IntsIn W az z) => HCJ.out y W h)
          rw [hyc] at HCJX
          have HORX := Lib.hid (fun W (h : IntsIn W az z) => HOR.out y W h)
          rw [hyo] at HORX
          have HSM : Hid (∀ ax ay cx cy W, IntsIn W ax C → IntsIn W ay C → Calls Tryz.prog 30 #[.slice ax C.length cx, .slice ay C.length cy] W fun e w' => e = .returned (.bool true) ∧ w' = W) := Lib.hid (fun ax ay cx cy W h1 h2 => by
            have h := lawSame_any C C ax ay cx cy W h1 h2 (by omega) (by omega)
            rw [decide_eq_true rfl] at h
            exact h)
          generalize orx ((i5 : Nat) : Int) = oi at *
          clear hcell hb hy hyc hyo
          go_upto_region 22 with fail
          refine region_each (fun W => Below wr.heap.size wr W) (fun W W2 => Below W.heap.size W W2) (fun u => by simp only [fPut, Act.put, List.setIfInBounds_toArray, List.set_cons_succ, List.set_cons_zero, Nat.zero_add, Nat.reduceAdd]; rfl) (by kernel_rfl) (by kernel_rfl) (by kernel_rfl) (Below.drew (Below.refl _ _)) ?_
          apply each_read (fun _ => Below.refl _ _) rfl
          · intro u wv hC hf
            have z0 := (HX.out _ (Below.now HB12.out hC)).1
            have z1 := (HX.out _ (Below.now HB12.out hC)).2
            clear hf
            go_simp
            try rfl
          apply each_read (fun _ => Below.refl _ _) rfl
          · intro u wv hC hf
            have z0 := (HX.out _ (Below.now HB12.out hC)).1
            have z1 := (HX.out _ (Below.now HB12.out hC)).2
            clear hf
            go_simp
            try rfl
          conv => arg 8; simp only [List.cons_append, List.nil_append]
          apply each_callR rfl
          · intro u wv hC hf
            have z0 := (HX.out _ (Below.now HB12.out hC)).1
            have z1 := (HX.out _ (Below.now HB12.out hC)).2
            obtain ⟨d0_0, d1_1, -⟩ := hf
            have e0 : u 0 = _ := d0_0 rfl
            clear d0_0
            have e1 : u 1 = _ := d1_1 rfl
            clear d1_1
            apply Exists.intro; apply Exists.intro; apply And.intro
            · go_simp; exact ⟨rfl, rfl⟩
            · refine (HORX.out _ (HZW.out _ (Below.now HB12.out hC))).mono ?_
              rintro e w3 ⟨rfl, hb⟩
              exact ⟨rfl, Below.now hC hb, hb⟩
          conv => arg 8; simp only [List.cons_append, List.nil_append]
          apply each_read (fun _ => Below.refl _ _) rfl
          · intro u wv hC hf
            have z0 := (HX.out _ (Below.now HB12.out hC)).1
            have z1 := (HX.out _ (Below.now HB12.out hC)).2
            clear hf
            go_simp
            try rfl
          conv => arg 8; simp only [List.cons_append, List.nil_append]
          apply each_read (fun _ => Below.refl _ _) rfl
          · intro u wv hC hf
            have z0 := (HX.out _ (Below.now HB12.out hC)).1
            have z1 := (HX.out _ (Below.now HB12.out hC)).2
            clear hf
            go_simp
            try rfl
          conv => arg 8; simp only [List.cons_append, List.nil_append]
          apply each_callR rfl
          · intro u wv hC hf
            have z0 := (HX.out _ (Below.now HB12.out hC)).1
            have z1 := (HX.out _ (Below.now HB12.out hC)).2
            obtain ⟨d3_0, d4_1, d2_2, -⟩ := hf
            have e3 : u 3 = _ := d3_0 rfl
            clear d3_0
            have e4 : u 4 = _ := d4_1 rfl
            clear d4_1
            have e2 : u 2 = _ := d2_2 rfl
            clear d2_2
            apply Exists.intro; apply Exists.intro; apply And.intro
            · go_simp; exact ⟨rfl, rfl⟩
            · refine (HORI.out _ (HZW.out _ (Below.now HB12.out hC))).mono ?_
              rintro e w3 ⟨rfl, hb⟩
              exact ⟨rfl, Below.now hC hb, hb⟩
          conv => arg 8; simp only [List.cons_append, List.nil_append]
          apply each_read (fun _ => Below.refl _ _) rfl
          · intro u wv hC hf
            have z0 := (HX.out _ (Below.now HB12.out hC)).1
            have z1 := (HX.out _ (Below.now HB12.out hC)).2
            obtain ⟨d2_0, d5_1, -⟩ := hf
            have e2 : u 2 = _ := d2_0 rfl
            clear d2_0
            have e5 : u 5 = _ := d5_1 rfl
            clear d5_1
            go_simp
            try rfl
          conv => arg 8; simp only [List.cons_append, List.nil_append]
          apply each_read (fun _ => Below.refl _ _) rfl
          · intro u wv hC hf
            have z0 := (HX.out _ (Below.now HB12.out hC)).1
            have z1 := (HX.out _ (Below.now HB12.out hC)).2
            obtain ⟨d6_0, d5_1, -⟩ := hf
            have e6 : u 6 = _ := d6_0 rfl
            clear d6_0
            have e5 : u 5 = _ := d5_1 rfl
            clear d5_1
            go_simp
            try rfl
          conv => arg 8; simp only [List.cons_append, List.nil_append]
          apply each_readG (fun _ => Below.refl _ _)
          · intro u wv hC hf
            have z0 := (HX.out _ (Below.now HB12.out hC)).1
            have z1 := (HX.out _ (Below.now HB12.out hC)).2
            obtain ⟨d7_0, -⟩ := hf
            have e7 : u 7 = _ := d7_0 rfl
            clear d7_0
            refine ⟨wanted_at rfl rfl rfl e7 rfl, ?_⟩
            go_simp
            try rfl
          conv => arg 8; simp only [List.cons_append, List.nil_append]
          apply each_readG (fun _ => Below.refl _ _)
          · intro u wv hC hf
            have z0 := (HX.out _ (Below.now HB12.out hC)).1
            have z1 := (HX.out _ (Below.now HB12.out hC)).2
            obtain ⟨d7_0, -⟩ := hf
            have e7 : u 7 = _ := d7_0 rfl
            clear d7_0
            refine ⟨wanted_at rfl rfl rfl e7 rfl, ?_⟩
            go_simp
            try rfl
          conv => arg 8; simp only [List.cons_append, List.nil_append]
          refine each_callG (fun v wv => ∃ a c, v = .slice a C.length c ∧ IntsIn wv a C) (fun v w w2 _ hR ⟨a, c, h1, h2⟩ => ⟨a, c, h1, h2.later hR⟩) ?_ ?_
          · intro u wv hC hf
            have z0 := (HX.out _ (Below.now HB12.out hC)).1
            have z1 := (HX.out _ (Below.now HB12.out hC)).2
            obtain ⟨d8_0, d9_1, d7_2, d7_3, -⟩ := hf
            have e8 : u 8 = _ := d8_0 rfl
            clear d8_0
            have e9 : u 9 = _ := d9_1 rfl
            clear d9_1
            have e7 : u 7 = _ := d7_2 rfl
            clear d7_2
            clear d7_3
            refine ⟨wanted_at rfl rfl rfl e7 rfl, ?_⟩
            apply Exists.intro; apply Exists.intro; apply And.intro
            · go_simp; exact ⟨rfl, rfl⟩
            · refine (HCJX.out _ (HZW.out _ (Below.now HB12.out hC))).mono ?_
              rintro e w3 ⟨ap, cp, rfl, ho, hb⟩
              exact ⟨_, rfl, Below.now hC hb, hb, ap, cp, rfl, owns_ints (l := C) ho⟩
          conv => arg 8; simp only [List.cons_append, List.nil_append]
          apply each_readG (fun _ => Below.refl _ _)
          · intro u wv hC hf
            have z0 := (HX.out _ (Below.now HB12.out hC)).1
            have z1 := (HX.out _ (Below.now HB12.out hC)).2
            obtain ⟨d7_0, -⟩ := hf
            have e7 : u 7 = _ := d7_0 rfl
            clear d7_0
            refine ⟨wanted_at rfl rfl rfl e7 rfl, ?_⟩
            go_simp
            try rfl
          conv => arg 8; simp only [List.cons_append, List.nil_append]
          apply each_callRG
          · intro u wv hC hf
            have z0 := (HX.out _ (Below.now HB12.out hC)).1
            have z1 := (HX.out _ (Below.now HB12.out hC)).2
            obtain ⟨d10_0, d11_1, d10_2, d7_3, -⟩ := hf
            obtain ⟨ap10, cp10, e10, r10⟩ := d10_0 rfl
            have e11 : u 11 = _ := d11_1 rfl
            clear d11_1
            clear d10_2
            have e7 : u 7 = _ := d7_3 rfl
            clear d7_3
            refine ⟨wanted_at rfl rfl rfl e7 rfl, ?_⟩
            apply Exists.intro; apply Exists.intro; apply And.intro
            · go_simp; exact ⟨rfl, rfl⟩
            · refine (HSM.out ap10 _ cp10 cc _ r10 (HCI.out.later hC)).mono ?_
              rintro e w3 ⟨rfl, rfl⟩
              exact ⟨rfl, hC, Below.refl _ _⟩
          conv => arg 8; simp only [List.cons_append, List.nil_append]
          apply each_readG (fun _ => Below.refl _ _)
          · intro u wv hC hf
            have z0 := (HX.out _ (Below.now HB12.out hC)).1
            have z1 := (HX.out _ (Below.now HB12.out hC)).2
            obtain ⟨d12_0, d7_1, -⟩ := hf
            have e12 : u 12 = _ := d12_0 rfl
            clear d12_0
            have e7 : u 7 = _ := d7_1 rfl
            clear d7_1
            refine ⟨wanted_at rfl rfl rfl e7 rfl, ?_⟩
            go_simp
            try rfl
          conv => arg 8; simp only [List.cons_append, List.nil_append]
          apply each_read (fun _ => Below.refl _ _) rfl
          · intro u wv hC hf
            have z0 := (HX.out _ (Below.now HB12.out hC)).1
            have z1 := (HX.out _ (Below.now HB12.out hC)).2
            obtain ⟨d7_0, d13_1, -⟩ := hf
            have e7 : u 7 = _ := d7_0 rfl
            clear d7_0
            have e13 : u 13 = _ := d13_1 rfl
            clear d13_1
            go_simp
            try rfl
          intro u w14 d14 hall
          obtain ⟨a0, a1, a2, a3, a4, a5, a6, a7, a8, a9, a10, a11, a12, a13, a14, -⟩ := hall
          have e0 : u 0 = _ := a0
          clear a0
          have e1 : u 1 = _ := a1
          clear a1
          have e2 : u 2 = _ := a2
          clear a2
          have e3 : u 3 = _ := a3
          clear a3
          have e4 : u 4 = _ := a4
          clear a4
          have e5 : u 5 = _ := a5
          clear a5
          have e6 : u 6 = _ := a6
          clear a6
          have e7 : u 7 = _ := a7
          clear a7
          have e8 : u 8 = _ := a8
          clear a8
          have e9 : u 9 = _ := a9
          clear a9
          obtain ⟨ap10, cp10, e10, r10⟩ := a10
          replace e10 : u 10 = _ := e10
          have e11 : u 11 = _ := a11
          clear a11
          have e12 : u 12 = _ := a12
          clear a12
          have e13 : u 13 = _ := a13
          clear a13
          have e14 : u 14 = _ := a14
          clear a14
          simp only [e0, e1, e2, e3, e4, e5, e6, e7, e8, e9, e10, e11, e12, e13, e14]
          clear e0 e1 e2 e3 e4 e5 e6 e7 e8 e9 e10 e11 e12 e13 e14
          go_wp2_with fail
          go_roundw
          case rel => exact ⟨q + 1, by omega, by go_num, Below.now HBQ.out d14⟩
          case measure => simp [intOf]; omega
        · have HHC := Lib.hid (fun W h => lawHas_any C ac cc ((i5 : Nat) : Int) W h (by omega))
          have HHZ := Lib.hid (fun W h => lawHas_any Z aZ cZ ((i5 : Nat) : Int) W h (by omega))
          rw [decide_eq_true hself] at HHC
          rw [← hone] at HHZ
          obtain ⟨z0, z1⟩ := HX.out _ HB12.out
          have HZE := Lib.hid (HZ4.out.later (Below.now HBW.out HBQ.out))
          have hb1 : (((C.length : Nat) : Int) == 1) = decide (C.length = 1) := by rw [Bool.eq_iff_iff]; simp; omega
          generalize decide (C.length = 1) = bo at *
          clear hself hone HE5 HEACH HSORT HTOT HONE HCL hSl HNN HNUM HBY
          go_wp2_with fail
          refine (HHC.out _ HCI.out).mono ?_
          rintro e w20 ⟨rfl, rfl⟩
          go_wp2_with fail
          refine (HHZ.out _ HZE.out).mono ?_
          rintro e w21 ⟨rfl, rfl⟩
          clear HHC HHZ
          go_wp2_with fail
          refine (HNO.out _ _ _ (HZW.out _ HB12.out) HZE.out).mono ?_
          rintro e w22 ⟨rfl, hb22⟩
          have HBE := Lib.hid (Below.now HB1.out (Below.now HW2.out (Below.now HB12.out hb22)))
          clear hb22 HNO z0 z1
          go_wp2_with fail
          go_ret
          exact ⟨rfl, HBE.out⟩
theorem walkBig (a : Option Addr) (n cap : Nat) (w : World) (hn : n ≤ 9223372036854775807) (hlen : 1048576 < n) :
    Calls Tryz.prog 5 #[.slice a n cap] w fun e w' => e = .returned (.bool true) ∧ Below w.heap.size w w' := by
  have hq0 : (1048576 : Int) < (n : Int) := by omega
  go_enter Tryz.func5, Tryz.ntmps5
  go_wp2_with fail
  go_ret
  exact ⟨rfl, Below.refl _ _⟩
end Go.Proofs.YtngbimgabcacpaaGreat.fnConjugates
namespace Go.Proofs.YtngbimgabcacpaaGreat
open Go.ChangeShapes Go.WideShapes Go.ChangeAt Go.RowKit Go.Joins Go.Deep
set_option linter.unusedVariables false
theorem open_bytesIn {H : Type} {enc : TypeId × Value → H} {P : Program} {w : World} {r : Go.Reach} {b0 : Nat} {t e : TypeId} {v : Value} {d : DataW H} {p : List MemPlace} (ht : P.underlying t = some (.slice e)) (he : P.underlying e = some (.int .u8)) (hc : P.cellsOf e = 1)
    (hv : Value.okWide P w r b0 t v) (h : DataW.Trod enc P w 0 (fun _ => true) true t v d p) : ∃ a l cap, v = .slice a (List.length (α := UInt8) l) cap ∧ BytesIn w a l ∧ l.length ≤ 9223372036854775807 := by
  obtain ⟨a0, len0, cap0, rfl⟩ := okWide_slice ht hv
  obtain ⟨fuel, hf⟩ := h
  rcases open_ints ht he hc hf with ⟨hcs, _⟩ | ⟨a, len, cap, zs, hcs, _, hl, hm, hz, _, hcell, hwz⟩
  · have e : (Value.slice a0 len0 cap0) = .slice none 0 0 := by simpa [Value.cells] using hcs
    rw [e]
    exact ⟨none, [], 0, rfl, .inl rfl, by simp⟩
  · have e : (Value.slice a0 len0 cap0) = .slice (some a) len cap := by simpa [Value.cells] using hcs
    rw [e]
    simp only [if_true] at hz
    have hlen : ((zs.take len).map fun n => UInt8.ofNat n.toNat).length = len := by rw [List.length_map, List.length_take]; omega
    refine ⟨some a, (zs.take len).map fun n => UInt8.ofNat n.toNat, cap, by rw [hlen], ?_, by rw [hlen]; unfold maxLen at hm; omega⟩
    by_cases h0 : len = 0
    · left; subst h0; simp
    · obtain ⟨b, off, rfl, hc'⟩ := ints_at hcell (by omega)
      right
      refine ⟨b, off, rfl, fun i hi => ?_⟩
      rw [List.length_map, hlen] at hi
      rw [hc' i (by omega)]
      have hb := range_u8 hwz i
      rw [List.getElem?_eq_getElem (show i < zs.length by omega), Option.getD_some] at hb
      have e : zs.getD i 0 = zs[i]'(by omega) := by simp [List.getD, List.getElem?_eq_getElem (show i < zs.length by omega)]
      simp only [List.getElem_map, List.getElem_take]
      rw [e]
      congr 2
      simp only [UInt8.toNat_ofNat']
      omega
end Go.Proofs.YtngbimgabcacpaaGreat
namespace Go.Proofs.YtngbimgabcacpaaGreat.fnConjugates
open Go.ChangeShapes Go.WideShapes Go.ChangeAt Go.RowKit Go.Joins
set_option linter.unusedVariables false
theorem own : ownKnob Tryz.prog.godebug = none := by kernel_rfl
theorem laidOut : laidOutB Tryz.prog = true := by kernel_rfl
theorem cellsB : Tryz.prog.cellsOf 5 = 1 := by kernel_rfl
theorem rdB : Tryz.prog.readableRec 22 = true ∧ 22 < Tryz.prog.types.size := ⟨by kernel_rfl, of_decide_eq_true (by kernel_rfl)⟩
theorem rd : ∀ t ∈ Tryz.f5.params.toList, Tryz.prog.readableRec t = true ∧ t < Tryz.prog.types.size := by
  rw [Tryz.params5]
  intro t ht
  simp at ht
  subst ht
  exact rdB
theorem walk (a : Option Addr) (l : List UInt8) (cap : Nat) (w : World) (hl : BytesIn w a l) (hn : l.length ≤ 9223372036854775807) :
    Calls Tryz.prog 5 #[.slice a l.length cap] w fun e w' => e = .returned (.bool true) ∧ Below w.heap.size w w' := by
  by_cases h : l.length ≤ 1048576
  · exact walkSmall a l cap w hl h
  · exact walkBig a l.length cap w hn (by omega)
set_option maxRecDepth 100000 in
theorem lifted (os : Os) (started : os.Started) (H : Type) (enc : TypeId × Value → H) :
    ReturnsInHanded {} Tryz.checked os 5 .any (Rows.fnConjugatesSpec.pre6 enc Tryz.prog Tryz.f5 Rows.fnConjugatesRow.domain false) (Rows.fnConjugatesSpec.post enc Tryz.prog Tryz.f5 false true false false) := by
  refine returnsInHanded_of_change (C := Tryz.checked) own started (by kernel_rfl) Tryz.func5
    (ChangeSpec.witness6 (enc := enc) (C := Tryz.checked) false ⟨#[], #[.slice none 0 0], []⟩ 8 (by kernel_rfl) (by kernel_rfl) (by kernel_rfl) (by kernel_rfl)) ?_
  intro W base args ds gs before hval0 hW hcnd _
  have hval : ∀ (j : Nat) t v, Tryz.f5.params[j]? = some t → args[j]? = some v → Value.okWide Tryz.prog W .any base t v := hval0
  have hW' := hW
  obtain ⟨p, q, hA0, hV, rfl, hfz, hnd⟩ := hW
  have hA : DataW.TrodAll enc Tryz.prog W 0 (fun _ => true) true Tryz.f5.params.toList args.toList ds p := hA0
  rw [Tryz.params5] at hA hval
  obtain ⟨v0, vs0, d0, ds0, p0, q0, hargs, rfl, rfl, h0, r0⟩ := trodAll_cons hA
  obtain ⟨rfl, rfl, rfl⟩ := trodAll_nil r0
  obtain rfl : args = #[v0] := by cases args; simp_all
  obtain ⟨rfl, rfl⟩ := trodVars_none hV
  obtain ⟨a0, l0, c0, rfl, hl0, hn0⟩ := open_bytesIn Tryz.underlying22 Tryz.underlying5 cellsB (hval 0 22 v0 rfl rfl) h0
  clear hA0 hval0
  refine (walk a0 l0 c0 W hl0 hn0).mono fun e W' ⟨he, hg⟩ => ?_
  subst he
  exact ⟨_, rfl, law_post laidOut rd rfl hW' rfl Tryz.underlying4 rfl hg⟩
theorem over : Rows.fnConjugatesRow.holds Tryz.pinned (OpenSpec.ofChange Rows.fnConjugatesSpec) :=
  OpenClaim.holds_of_wide 5 Tryz.f5 rfl rfl rfl rfl rfl rfl rfl ⟨rfl, rfl, rfl, rfl, rfl⟩ rfl rfl rfl rfl rfl (by kernel_rfl) Tryz.func5 (by kernel_rfl)
    (of_decide_eq_true (by kernel_rfl)) (by unfold Func.isWrapper; first | (rw [if_pos (by decide +kernel)]; kernel_rfl) | (rw [if_neg (by decide +kernel)]; exact ⟨rfl, rfl⟩))
    (fun os started H enc _ => lifted os started H enc)
theorem proved : Rows.FnConjugatesSaid :=
  over
#print axioms proved
end Go.Proofs.YtngbimgabcacpaaGreat.fnConjugates
