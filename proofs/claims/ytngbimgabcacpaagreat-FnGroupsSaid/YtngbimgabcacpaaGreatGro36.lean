/-
  'FnGroups' holds: for every argument the law answers true and leaves its argument as it was. No condition.
-/
import Derived.Test.YtngbimgabcacpaaGreatGro33
import Derived.Test.YtngbimgabcacpaaGreatGro35
import Derived.Test.YtngbimgabcacpaaGreatGro34
import Derived.Test.YtngbimgabcacpaaGreatGro26
import Derived.Test.YtngbimgabcacpaaGreatGro32
import Derived.Test.YtngbimgabcacpaaGreatGro04
import Derived.Test.YtngbimgabcacpaaGreatGro01
namespace Go.Proofs.YtngbimgabcacpaaGreat.fnGroups
open Go.RowKit
set_option linter.unusedVariables false
theorem lit_two (w : World) (i k : Nat) : IntsIn (w.alloc (.cells #[.int .i64 ((i : Nat) : Int), .int .i64 ((k : Nat) : Int)] 3)) (some ⟨w.heap.size, 0, none⟩) [((i : Nat) : Int), ((k : Nat) : Int)] := by
  have hO : (w.alloc (.cells #[.int .i64 ((i : Nat) : Int), .int .i64 ((k : Nat) : Int)] 3)).ownsRow w.heap.size 3 1 (.slice (some ⟨w.heap.size, 0, none⟩) 2 2) 2 (intVals [((i : Nat) : Int), ((k : Nat) : Int)]) := World.ownsRow_lit (base := w.heap.size) (size := 1) w #[.int .i64 ((i : Nat) : Int), .int .i64 ((k : Nat) : Int)] 2 (Nat.le_refl _) (by unfold maxLen; omega) rfl
  exact owns_ints (l := [((i : Nat) : Int), ((k : Nat) : Int)]) hO
theorem lit_one (w : World) (i : Nat) : IntsIn (w.alloc (.cells #[.int .i64 ((i : Nat) : Int)] 3)) (some ⟨w.heap.size, 0, none⟩) [((i : Nat) : Int)] := by
  have hO : (w.alloc (.cells #[.int .i64 ((i : Nat) : Int)] 3)).ownsRow w.heap.size 3 1 (.slice (some ⟨w.heap.size, 0, none⟩) 1 1) 1 (intVals [((i : Nat) : Int)]) := World.ownsRow_lit (base := w.heap.size) (size := 1) w #[.int .i64 ((i : Nat) : Int)] 1 (Nat.le_refl _) (by unfold maxLen; omega) rfl
  exact owns_ints (l := [((i : Nat) : Int)]) hO
set_option maxRecDepth 100000 in
set_option maxHeartbeats 16000000 in
theorem walkSmall (a : Option Addr) (l : List UInt8) (cap : Nat) (w : World) (hl : BytesIn w a l) (hlen : l.length ≤ 1048576) :
    Calls Tryz.prog 3 #[.slice a l.length cap] w fun e w' => e = .returned (.bool true) ∧ Below w.heap.size w w' := by
  have hq0 : ¬ (1048576 : Int) < (l.length : Int) := by omega
  have HM := Lib.hid (makeGroup_any a l cap 0 w hl (by omega) (by omega))
  have HNUM20 := Lib.hid (fun W (h : BytesIn W a l) => makeNum_any a l cap 20 W h (by omega) (by omega))
  have HNUM22 := Lib.hid (fun W (h : BytesIn W a l) => makeNum_any a l cap 22 W h (by omega) (by omega))
  have HL0 := Lib.hid hl
  clear hl
  go_enter Tryz.func3, Tryz.ntmps3
  go_wp2_with fail
  refine HM.out.mono ?_
  rintro e w1 ⟨m, z, az, cz, hT, rfl, hz, hcap, hb1⟩
  obtain ⟨hzl, _, hm1, hm2⟩ := hT.tab.few2
  have HT := Lib.hid hT
  have HZI : Hid (∀ W, Below w1.heap.size w1 W → IntsIn W az z) := Lib.hid (fun W h => hz.later h)
  have HB1 := Lib.hid hb1
  clear hb1 HM hT hz
  go_upto_region 4 with fail
  have HW2 := Lib.hid (alloc_belowT w1 (.cells #[.int .i64 (m : Nat), .slice az z.length cz] 25))
  have HX : Hid (∀ W, Below (w1.alloc (.cells #[.int .i64 (m : Nat), .slice az z.length cz] 25)).heap.size (w1.alloc (.cells #[.int .i64 (m : Nat), .slice az z.length cz] 25)) W → W.cell? ⟨w1.heap.size, 0, none⟩ = some (.int .i64 (m : Nat)) ∧ W.cell? ⟨w1.heap.size, 1, none⟩ = some (.slice az z.length cz)) := Lib.hid (fun W hW => ⟨by rw [hW.cell (by simp)]; simp, by rw [hW.cell (by simp)]; simp⟩)
  generalize w1.alloc (.cells #[.int .i64 (m : Nat), .slice az z.length cz] 25) = w2 at *
  have HZW : Hid (∀ W, Below w2.heap.size w2 W → IntsIn W az z) := Lib.hid (fun W h => HZI.out W (Below.now HW2.out h))
  have HBY : Hid (∀ W, Below w2.heap.size w2 W → BytesIn W a l) := Lib.hid (fun W h => HL0.out.later (Below.now HB1.out (Below.now HW2.out h)))
  clear HZI HL0
  have hmz : ((m : Int) == 0) = false := by rw [beq_eq_false_iff_ne]; omega
  have hmz2 : ¬ (m : Int) = 0 := by omega
  have hmz3 : ¬ m = 0 := by omega
  refine region_each (fun W => Below w2.heap.size w2 W) (fun W W2 => Below W.heap.size W W2) (fun u => by simp only [fPut, Act.put, List.setIfInBounds_toArray, List.set_cons_succ, List.set_cons_zero, Nat.zero_add, Nat.reduceAdd]; rfl) (by kernel_rfl) (by kernel_rfl) (by kernel_rfl) (Below.drew (Below.refl _ _)) ?_
  apply each_read (fun _ => Below.refl _ _) rfl
  · intro u wv hC hf
    have z0 := (HX.out _ hC).1
    have z1 := (HX.out _ hC).2
    clear hf
    go_simp
    try rfl
  refine each_call (fun v wv => ∃ x : Nat, v = .int .i64 ((x : Nat) : Int)) (fun v w w2 _ hR h => h) rfl ?_ ?_
  · intro u wv hC hf
    have z0 := (HX.out _ hC).1
    have z1 := (HX.out _ hC).2
    obtain ⟨d0_0, -⟩ := hf
    have e0 : u 0 = _ := d0_0 rfl
    clear d0_0
    apply Exists.intro; apply Exists.intro; apply And.intro
    · go_simp; exact ⟨rfl, rfl⟩
    · refine (HNUM20.out _ (HBY.out _ hC)).mono ?_
      rintro e w3 ⟨x, hx, rfl, hb⟩
      exact ⟨_, rfl, Below.now hC hb, hb, x, rfl⟩
  apply each_read (fun _ => Below.refl _ _) rfl
  · intro u wv hC hf
    have z0 := (HX.out _ hC).1
    have z1 := (HX.out _ hC).2
    clear hf
    go_simp
    try rfl
  apply each_read (fun _ => Below.refl _ _) rfl
  · intro u wv hC hf
    have z0 := (HX.out _ hC).1
    have z1 := (HX.out _ hC).2
    obtain ⟨d2_0, -⟩ := hf
    have e2 : u 2 = _ := d2_0 rfl
    clear d2_0
    go_simp
    try rfl
  refine each_do (fun v wv => ∃ i : Nat, i < m ∧ v = .int .i64 ((i : Nat) : Int)) (fun v w w2 _ hR h => h) rfl ?_ ?_
  · intro u wv hC hf
    have z0 := (HX.out _ hC).1
    have z1 := (HX.out _ hC).2
    obtain ⟨d1_0, d3_1, -⟩ := hf
    obtain ⟨x1, e1⟩ := d1_0 rfl
    have e3 : u 3 = _ := d3_1 rfl
    clear d3_1
    refine ⟨.int .i64 (((x1 % m : Nat)) : Int), wv, ?_, hC, Below.refl _ _, x1 % m, Nat.mod_lt _ (by omega), rfl⟩
    rw [Int.ofNat_tmod]
    go_simp
    try rfl
  refine each_do (fun v wv => ∃ i : Nat, i < m ∧ v = .int .i64 ((i : Nat) : Int)) (fun v w w2 _ hR h => h) rfl ?_ ?_
  · intro u wv hC hf
    have z0 := (HX.out _ hC).1
    have z1 := (HX.out _ hC).2
    obtain ⟨d4_0, d1_1, d0_2, d1_3, d2_4, d3_5, d4_6, -⟩ := hf
    obtain ⟨i4, hi4, e4⟩ := d4_0 rfl
    obtain ⟨x1, e1⟩ := d1_1 rfl
    have e0 : u 0 = _ := d0_2 rfl
    clear d0_2
    clear d1_3
    have e2 : u 2 = _ := d2_4 rfl
    clear d2_4
    have e3 : u 3 = _ := d3_5 rfl
    clear d3_5
    clear d4_6
    refine ⟨.int .i64 ((i4 : Nat) : Int), wv, ?_, hC, Below.refl _ _, i4, hi4, rfl⟩
    go_simp
    try rfl
  intro u w3 hb3 hall
  obtain ⟨a0, a1, a2, a3, a4, a5, -⟩ := hall
  have e0 : u 0 = _ := a0
  clear a0
  obtain ⟨x1, e1⟩ := a1
  replace e1 : u 1 = _ := e1
  have e2 : u 2 = _ := a2
  clear a2
  have e3 : u 3 = _ := a3
  clear a3
  obtain ⟨i4, hi4, e4⟩ := a4
  replace e4 : u 4 = _ := e4
  obtain ⟨i, hi, e5⟩ := a5
  replace e5 : u 5 = _ := e5
  simp only [e0, e1, e2, e3, e4, e5]
  clear e0 e1 e2 e3 e4 e5
  have HB3 := Lib.hid hb3
  clear hb3
  go_upto_region 5 with fail
  refine region_each (fun W => Below w3.heap.size w3 W) (fun W W2 => Below W.heap.size W W2) (fun u => by simp only [fPut, Act.put, List.setIfInBounds_toArray, List.set_cons_succ, List.set_cons_zero, Nat.zero_add, Nat.reduceAdd]; rfl) (by kernel_rfl) (by kernel_rfl) (by kernel_rfl) (Below.drew (Below.refl _ _)) ?_
  apply each_read (fun _ => Below.refl _ _) rfl
  · intro u wv hC hf
    have z0 := (HX.out _ (Below.now HB3.out hC)).1
    have z1 := (HX.out _ (Below.now HB3.out hC)).2
    clear hf
    go_simp
    try rfl
  refine each_call (fun v wv => ∃ x : Nat, v = .int .i64 ((x : Nat) : Int)) (fun v w w2 _ hR h => h) rfl ?_ ?_
  · intro u wv hC hf
    have z0 := (HX.out _ (Below.now HB3.out hC)).1
    have z1 := (HX.out _ (Below.now HB3.out hC)).2
    obtain ⟨d0_0, -⟩ := hf
    have e0 : u 0 = _ := d0_0 rfl
    clear d0_0
    apply Exists.intro; apply Exists.intro; apply And.intro
    · go_simp; exact ⟨rfl, rfl⟩
    · refine (HNUM22.out _ (HBY.out _ (Below.now HB3.out hC))).mono ?_
      rintro e w3 ⟨x, hx, rfl, hb⟩
      exact ⟨_, rfl, Below.now hC hb, hb, x, rfl⟩
  apply each_read (fun _ => Below.refl _ _) rfl
  · intro u wv hC hf
    have z0 := (HX.out _ (Below.now HB3.out hC)).1
    have z1 := (HX.out _ (Below.now HB3.out hC)).2
    clear hf
    go_simp
    try rfl
  apply each_read (fun _ => Below.refl _ _) rfl
  · intro u wv hC hf
    have z0 := (HX.out _ (Below.now HB3.out hC)).1
    have z1 := (HX.out _ (Below.now HB3.out hC)).2
    obtain ⟨d2_0, -⟩ := hf
    have e2 : u 2 = _ := d2_0 rfl
    clear d2_0
    go_simp
    try rfl
  refine each_do (fun v wv => ∃ i : Nat, i < m ∧ v = .int .i64 ((i : Nat) : Int)) (fun v w w2 _ hR h => h) rfl ?_ ?_
  · intro u wv hC hf
    have z0 := (HX.out _ (Below.now HB3.out hC)).1
    have z1 := (HX.out _ (Below.now HB3.out hC)).2
    obtain ⟨d1_0, d3_1, -⟩ := hf
    obtain ⟨x1, e1⟩ := d1_0 rfl
    have e3 : u 3 = _ := d3_1 rfl
    clear d3_1
    refine ⟨.int .i64 (((x1 % m : Nat)) : Int), wv, ?_, hC, Below.refl _ _, x1 % m, Nat.mod_lt _ (by omega), rfl⟩
    rw [Int.ofNat_tmod]
    go_simp
    try rfl
  refine each_do (fun v wv => ∃ i : Nat, i < m ∧ v = .int .i64 ((i : Nat) : Int)) (fun v w w2 _ hR h => h) rfl ?_ ?_
  · intro u wv hC hf
    have z0 := (HX.out _ (Below.now HB3.out hC)).1
    have z1 := (HX.out _ (Below.now HB3.out hC)).2
    obtain ⟨d4_0, d1_1, d0_2, d1_3, d2_4, d3_5, d4_6, -⟩ := hf
    obtain ⟨k4, hk4, e4⟩ := d4_0 rfl
    obtain ⟨x1, e1⟩ := d1_1 rfl
    have e0 : u 0 = _ := d0_2 rfl
    clear d0_2
    clear d1_3
    have e2 : u 2 = _ := d2_4 rfl
    clear d2_4
    have e3 : u 3 = _ := d3_5 rfl
    clear d3_5
    clear d4_6
    refine ⟨.int .i64 ((k4 : Nat) : Int), wv, ?_, hC, Below.refl _ _, k4, hk4, rfl⟩
    go_simp
    try rfl
  intro u w4 hb4 hall
  obtain ⟨a0, a1, a2, a3, a4, a5, -⟩ := hall
  have e0 : u 0 = _ := a0
  clear a0
  obtain ⟨x1, e1⟩ := a1
  replace e1 : u 1 = _ := e1
  have e2 : u 2 = _ := a2
  clear a2
  have e3 : u 3 = _ := a3
  clear a3
  obtain ⟨k4, hk4, e4⟩ := a4
  replace e4 : u 4 = _ := e4
  obtain ⟨k, hk, e5⟩ := a5
  replace e5 : u 5 = _ := e5
  simp only [e0, e1, e2, e3, e4, e5]
  clear e0 e1 e2 e3 e4 e5
  have HB4 := Lib.hid (Below.now HB3.out hb4)
  clear hb4 HB3
  -- what is known of the group
  have HG := HT.out
  obtain ⟨o, hge⟩ := HG.el hi hk
  have hord := hge.ord
  obtain ⟨ho1, ho2⟩ := hge.lo
  have hdiv := hge.div
  have hhdiv := hge.hdiv
  have hhpos := hge.hpos
  have hhi := hge.hi
  have hhk := hge.hk
  have hclen := hge.clen
  have hone := hge.one
  have HCNT := Lib.hid hge.cnt
  obtain ⟨x, hxv, hxm, hx0⟩ := HG.invP hi
  obtain ⟨hcn, hcm⟩ := HG.com
  have hcls := HG.cls
  have HOR := Lib.hid (fun W (h : IntsIn W az z) => implOrderOf_any (m : Nat) z az cz (i : Nat) W h (by omega))
  rw [hord] at HOR
  have HSU2 : Hid (∀ W g, IntsIn W az z → IntsIn W (some ⟨g, 0, none⟩) [((i : Nat) : Int), ((k : Nat) : Int)] → Calls Tryz.prog 9 #[.agg #[.int .i64 (m : Nat), .slice az z.length cz], .slice (some ⟨g, 0, none⟩) 2 2] W (RetSl 3 1 (subF (m : Nat) z [((i : Nat) : Int), ((k : Nat) : Int)]).length (intVals (subF (m : Nat) z [((i : Nat) : Int), ((k : Nat) : Int)])) W)) := Lib.hid (fun W g h h2 => implSubgroupOf_any (m : Nat) z az cz [((i : Nat) : Int), ((k : Nat) : Int)] (some ⟨g, 0, none⟩) 2 W h (by omega) h2 (by simp))
  have HSU1 : Hid (∀ W g, IntsIn W az z → IntsIn W (some ⟨g, 0, none⟩) [((i : Nat) : Int)] → Calls Tryz.prog 9 #[.agg #[.int .i64 (m : Nat), .slice az z.length cz], .slice (some ⟨g, 0, none⟩) 1 1] W (RetSl 3 1 (subF (m : Nat) z [((i : Nat) : Int)]).length (intVals (subF (m : Nat) z [((i : Nat) : Int)])) W)) := Lib.hid (fun W g h h2 => implSubgroupOf_any (m : Nat) z az cz [((i : Nat) : Int)] (some ⟨g, 0, none⟩) 1 W h (by omega) h2 (by simp))
  have HCO : Hid (∀ W g, IntsIn W az z → IntsIn W (some ⟨g, 0, none⟩) [((i : Nat) : Int)] → Calls Tryz.prog 10 #[.agg #[.int .i64 (m : Nat), .slice az z.length cz], .slice (some ⟨g, 0, none⟩) 1 1] W (RetSl 3 1 (cosF (m : Nat) z [((i : Nat) : Int)]).length (intVals (cosF (m : Nat) z [((i : Nat) : Int)])) W)) := Lib.hid (fun W g h h2 => implCosetsOf_any (m : Nat) z az cz [((i : Nat) : Int)] (some ⟨g, 0, none⟩) 1 W h (by omega) hcap h2 (by simp))
  have HIV := Lib.hid (fun W (h : IntsIn W az z) => implInverseOf_any (m : Nat) z az cz (i : Nat) W h (by omega) hcap)
  rw [HG.inv hi, hxv] at HIV
  have HPR := Lib.hid (fun W (h : IntsIn W az z) => implProductOf_ok m z az cz i x W h HG.tab hi hxm)
  rw [hx0] at HPR
  have HIG := Lib.hid (fun W (h : IntsIn W az z) => implIsGroup_any (m : Nat) z az cz W h (by omega))
  rw [HG.grp] at HIG
  have HCM := Lib.hid (fun W (h : IntsIn W az z) => implCommutatorsOf_any (m : Nat) z az cz W h (by omega) hcap)
  have hMl := commF_len (m : Nat) z
  have HNO := Lib.hid (fun aM cM W (h : IntsIn W az z) (h2 : IntsIn W aM (commF (m : Nat) z)) => implIsNormal_any (m : Nat) z az cz (commF (m : Nat) z) aM cM W h (by omega) hcap h2 (by omega))
  rw [hcn] at HNO
  have HIC := Lib.hid (fun W (h : IntsIn W az z) => implIsCommutative_ok m z az cz W h HG.tab)
  rw [← hcm] at HIC
  have HCC := Lib.hid (fun W (h : IntsIn W az z) => implCountClasses_ne (m : Nat) z az cz 3 W h (by omega) (by decide))
  rw [hcls] at HCC
  have hHl := subF_len (m : Nat) z [((i : Nat) : Int), ((k : Nat) : Int)]
  generalize commF (m : Nat) z = M at *
  generalize subF (m : Nat) z [((i : Nat) : Int), ((k : Nat) : Int)] = H at *
  generalize subF (m : Nat) z [((i : Nat) : Int)] = H1 at *
  generalize cosF (m : Nat) z [((i : Nat) : Int)] = C at *
  have HHI := Lib.hid (fun aH cH W (h : IntsIn W aH H) => lawHas_any H aH cH ((i : Nat) : Int) W h (by omega))
  rw [decide_eq_true hhi] at HHI
  have HHK := Lib.hid (fun aH cH W (h : IntsIn W aH H) => lawHas_any H aH cH ((k : Nat) : Int) W h (by omega))
  rw [decide_eq_true hhk] at HHK
  have HCT := Lib.hid (fun (n : Nat) aC cC W (h : IntsIn W aC C) => lawCount_any C aC cC ((n : Nat) : Int) W h (by omega))
  have t1 : ¬ ((o : Nat) : Int) < 1 := by omega
  have t2 : ¬ o = 0 := by omega
  have t3 : ((m : Int).tmod (o : Int)) = 0 := by rw [← Int.ofNat_tmod, hdiv]; rfl
  have t4 : (((H.length : Nat) : Int) == 0) = false := by rw [beq_eq_false_iff_ne]; omega
  have t5 : ¬ H.length = 0 := by omega
  have t6 : ((m : Int).tmod ((H.length : Nat) : Int)) = 0 := by rw [← Int.ofNat_tmod, hhdiv]; rfl
  have t7 : (((C.length : Nat) : Int) == ((m : Nat) : Int)) = true := by rw [beq_iff_eq]; omega
  have t8 : (((H1.length : Nat) : Int) == ((o : Nat) : Int)) = true := by rw [beq_iff_eq]; omega
  have t9 : (((M.length : Nat) : Int) == 1) = decide (M.length = 1) := by rw [Bool.eq_iff_iff]; simp; omega
  have t7b : (C.length == m) = true := by rw [beq_iff_eq]; omega
  have t7c : decide (C.length = m) = true := by rw [decide_eq_true_eq]; omega
  have t8b : (H1.length == o) = true := by rw [beq_iff_eq]; omega
  have t8c : decide (H1.length = o) = true := by rw [decide_eq_true_eq]; omega
  have t9b : (M.length == 1) = decide (M.length = 1) := by rw [Bool.eq_iff_iff]; simp
  have t1b : decide (((o : Nat) : Int) < 1) = false := decide_eq_false t1
  have t7d : (((C.length : Nat) : Int) != ((m : Nat) : Int)) = false := by rw [bne, t7]; rfl
  have t8d : (((H1.length : Nat) : Int) != ((o : Nat) : Int)) = false := by rw [bne, t8]; rfl
  have hCl : C.length ≤ 40 := by omega
  clear HG hge hord hdiv hhdiv hhi hhk hclen hone hxv hx0 hcn hcm hcls HT hhpos HNUM20 HNUM22 HBY
  generalize decide (M.length = 1) = bm at *
  obtain ⟨z0, z1⟩ := HX.out _ HB4.out
  go_upto_region 6 with fail
  go_wp2_with fail
  refine (HOR.out _ (HZW.out _ HB4.out)).mono ?_
  rintro e w5 ⟨rfl, hb5⟩
  have HB5 := Lib.hid (Below.now HB4.out hb5)
  clear z0 z1 hb5 HOR HB4
  obtain ⟨z0, z1⟩ := HX.out _ HB5.out
  go_wp2_with fail
  refine (HSU2.out _ _ (HZW.out _ (Below.now HB5.out (alloc_belowT _ _))) (lit_two _ i k)).mono ?_
  rintro e w6 ⟨aH, cH, rfl, hoH, hb6⟩
  have HB6 := Lib.hid (Below.now (Below.now HB5.out (alloc_belowT _ _)) hb6)
  have HH6 := Lib.hid (owns_ints (l := H) hoH)
  clear z0 z1 hoH hb6 HSU2 HB5
  obtain ⟨z0, z1⟩ := HX.out _ HB6.out
  go_wp2_with fail
  refine (HCO.out _ _ (HZW.out _ (Below.now HB6.out (alloc_belowT _ _))) (lit_one _ i)).mono ?_
  rintro e w7 ⟨aC, cC, rfl, hoC, hb7⟩
  have hb67 := Below.now (alloc_belowT _ _) hb7
  have HB7 := Lib.hid (Below.now HB6.out hb67)
  have HH7 := Lib.hid (HH6.out.later hb67)
  have HC7 := Lib.hid (owns_ints (l := C) hoC)
  clear z0 z1 hoC hb7 hb67 HCO HB6 HH6
  obtain ⟨z0, z1⟩ := HX.out _ HB7.out
  go_wp2_with fail
  refine (HIV.out _ (HZW.out _ HB7.out)).mono ?_
  rintro e w8 ⟨rfl, hb8⟩
  have HB8 := Lib.hid (Below.now HB7.out hb8)
  have HH8 := Lib.hid (HH7.out.later hb8)
  have HC8 := Lib.hid (HC7.out.later hb8)
  clear z0 z1 hb8 HIV HB7 HH7 HC7
  obtain ⟨z0, z1⟩ := HX.out _ HB8.out
  go_wp2_with fail
  refine (HPR.out _ (HZW.out _ HB8.out)).mono ?_
  rintro e w9 ⟨rfl, hb9⟩
  have HB9 := Lib.hid (Below.now HB8.out hb9)
  have HH9 := Lib.hid (HH8.out.later hb9)
  have HC9 := Lib.hid (HC8.out.later hb9)
  clear z0 z1 hb9 HPR HB8 HH8 HC8
  obtain ⟨z0, z1⟩ := HX.out _ HB9.out
  go_wp2_with fail
  refine (HIG.out _ (HZW.out _ HB9.out)).mono ?_
  rintro e w10 ⟨rfl, hb10⟩
  have HB10 := Lib.hid (Below.now HB9.out hb10)
  have HH10 := Lib.hid (HH9.out.later hb10)
  have HC10 := Lib.hid (HC9.out.later hb10)
  clear z0 z1 hb10 HIG HB9 HH9 HC9
  obtain ⟨z0, z1⟩ := HX.out _ HB10.out
  go_wp2_with fail
  refine (HHI.out _ _ _ HH10.out).mono ?_
  rintro e w11 ⟨rfl, rfl⟩
  go_wp2_with fail
  refine (HHK.out _ _ _ HH10.out).mono ?_
  rintro e w12 ⟨rfl, rfl⟩
  clear HHI HHK
  go_wp2_with fail
  refine (HSU1.out _ _ (HZW.out _ (Below.now HB10.out (alloc_belowT _ _))) (lit_one _ i)).mono ?_
  rintro e w13 ⟨aK, cK, rfl, hoK, hb13⟩
  have hb1013 := Below.now (alloc_belowT _ _) hb13
  have HB13 := Lib.hid (Below.now HB10.out hb1013)
  have HC13 := Lib.hid (HC10.out.later hb1013)
  clear z0 z1 hoK hb13 hb1013 HSU1 HB10 HH10 HC10
  go_wp2_with fail
  go_loopw [13] (fun i wr => ∃ n : Nat, i = .int .i64 (n : Nat) ∧ n ≤ m ∧ Below w13.heap.size w13 wr) (fun i _ => m - (intOf i).toNat)
  case atStart => exact ⟨0, rfl, Nat.zero_le _, Below.refl _ _⟩
  case round =>
    obtain ⟨n, rfl, hnm, hbr⟩ := hrel
    have HBR := Lib.hid (Below.now HB13.out hbr)
    have HBR0 := Lib.hid hbr
    obtain ⟨z0, z1⟩ := HX.out _ HBR.out
    clear hbr
    have hpp : n * o ≤ 1600 := Nat.le_trans (Nat.mul_le_mul (show n ≤ 40 by omega) ho2) (by decide)
    have hcast : (n : Int) * (o : Int) = ((n * o : Nat) : Int) := by rw [Int.natCast_mul]
    have s1 : IntKind.i64.wrap ((n : Int) * (o : Int)) = (n : Int) * (o : Int) := IntWalk.i64_in _ (by rw [hcast]; omega)
    by_cases hlt : n * o < m
    · have q1 : (n : Int) * (o : Int) < (m : Int) := by rw [hcast]; omega
      have hnlt : n < m := Nat.lt_of_le_of_lt (Nat.le_mul_of_pos_right n ho1) hlt
      have HCN := Lib.hid (HCT.out n aC cC wr (HC13.out.later HBR0.out))
      rw [HCNT.out n hlt] at HCN
      clear hcast hpp hlt
      go_wp2_with fail
      refine HCN.out.mono ?_
      rintro e w14 ⟨rfl, rfl⟩
      go_wp2_with fail
      go_roundw
      case rel => exact ⟨n + 1, by go_num, by omega, HBR0.out⟩
      case measure => simp [intOf]; omega
    · have q1 : ¬ (n : Int) * (o : Int) < (m : Int) := by rw [hcast]; omega
      clear hcast hpp hlt
      go_wp2_with fail
      refine (HCM.out _ (HZW.out _ HBR.out)).mono ?_
      rintro e w15 ⟨aM, cM, rfl, hoM, hb15⟩
      have HB15 := Lib.hid (Below.now HBR.out hb15)
      have HM15 := Lib.hid (owns_ints (l := M) hoM)
      clear z0 z1 hoM hb15 HCM HC13
      obtain ⟨z0, z1⟩ := HX.out _ HB15.out
      go_wp2_with fail
      refine (HNO.out _ _ _ (HZW.out _ HB15.out) HM15.out).mono ?_
      rintro e w16 ⟨rfl, hb16⟩
      have HB16 := Lib.hid (Below.now HB15.out hb16)
      clear z0 z1 hb16 HNO HM15
      obtain ⟨z0, z1⟩ := HX.out _ HB16.out
      go_wp2_with fail
      refine (HIC.out _ (HZW.out _ HB16.out)).mono ?_
      rintro e w17 ⟨rfl, hb17⟩
      have HB17 := Lib.hid (Below.now HB16.out hb17)
      clear z0 z1 hb17 HIC
      obtain ⟨z0, z1⟩ := HX.out _ HB17.out
      go_wp2_with fail
      refine (HCC.out _ (HZW.out _ HB17.out)).mono ?_
      rintro e w18 ⟨rfl, hb18⟩
      have HBE := Lib.hid (Below.now HB1.out (Below.now HW2.out (Below.now HB17.out hb18)))
      clear z0 z1 hb18 HCC
      go_wp2_with fail
      go_ret
      exact ⟨rfl, HBE.out⟩
theorem walkBig (a : Option Addr) (n cap : Nat) (w : World) (hn : n ≤ 9223372036854775807) (hlen : 1048576 < n) :
    Calls Tryz.prog 3 #[.slice a n cap] w fun e w' => e = .returned (.bool true) ∧ Below w.heap.size w w' := by
  have hq0 : (1048576 : Int) < (n : Int) := by omega
  go_enter Tryz.func3, Tryz.ntmps3
  go_wp2_with fail
  go_ret
  exact ⟨rfl, Below.refl _ _⟩
end Go.Proofs.YtngbimgabcacpaaGreat.fnGroups
namespace Go.Proofs.YtngbimgabcacpaaGreat
open Go.ChangeShapes Go.WideShapes Go.ChangeAt Go.RowKit Go.Joins Go.Deep
set_option linter.unusedVariables false
theorem open_bytesIn {H : Type} {enc : TypeId × Value → H} {P : Program} {w : World} {r : Go.Reach} {b0 : Nat} {t e : TypeId} {v : Value} {d : DataW H} {p : List MemPlace} (ht : P.underlying t = some (.slice e)) (he : P.underlying e = some (.int .u8)) (hc : P.cellsOf e = 1)
    (hv : Value.okWide P w r b0 t v) (h : DataW.Trod enc P w 0 (fun _ => true) true t v d p) : ∃ a l cap, v = .slice a (List.length (α := UInt8) l) cap ∧ BytesIn w a l ∧ l.length ≤ 9223372036854775807 := by
  obtain ⟨a0, len0, cap0, rfl⟩ := okWide_slice ht hv
  obtain ⟨fuel, hf⟩ := h
  rcases open_ints ht he hc hf with ⟨hcs, _⟩ | ⟨a, len, cap, zs, hcs, _, hl, hm, hz, _, hcell, hwz⟩
  · have e : (Value.slice a0 len0 cap0) = .slice none 0 0 := by simpa [Value.cells] using hcs
    rw [e]
    exact ⟨none, [], 0, rfl, .inl rfl, by simp⟩
  · have e : (Value.slice a0 len0 cap0) = .slice (some a) len cap := by simpa [Value.cells] using hcs
    rw [e]
    simp only [if_true] at hz
    have hlen : ((zs.take len).map fun n => UInt8.ofNat n.toNat).length = len := by rw [List.length_map, List.length_take]; omega
    refine ⟨some a, (zs.take len).map fun n => UInt8.ofNat n.toNat, cap, by rw [hlen], ?_, by rw [hlen]; unfold maxLen at hm; omega⟩
    by_cases h0 : len = 0
    · left; subst h0; simp
    · obtain ⟨b, off, rfl, hc'⟩ := ints_at hcell (by omega)
      right
      refine ⟨b, off, rfl, fun i hi => ?_⟩
      rw [List.length_map, hlen] at hi
      rw [hc' i (by omega)]
      have hb := range_u8 hwz i
      rw [List.getElem?_eq_getElem (show i < zs.length by omega), Option.getD_some] at hb
      have e : zs.getD i 0 = zs[i]'(by omega) := by simp [List.getD, List.getElem?_eq_getElem (show i < zs.length by omega)]
      simp only [List.getElem_map, List.getElem_take]
      rw [e]
      congr 2
      simp only [UInt8.toNat_ofNat']
      omega
end Go.Proofs.YtngbimgabcacpaaGreat
namespace Go.Proofs.YtngbimgabcacpaaGreat.fnGroups
open Go.ChangeShapes Go.WideShapes Go.ChangeAt Go.RowKit Go.Joins
set_option linter.unusedVariables false
theorem own : ownKnob Tryz.prog.godebug = none := by kernel_rfl
theorem laidOut : laidOutB Tryz.prog = true := by kernel_rfl
theorem cellsB : Tryz.prog.cellsOf 5 = 1 := by kernel_rfl
theorem rdB : Tryz.prog.readableRec 22 = true ∧ 22 < Tryz.prog.types.size := ⟨by kernel_rfl, of_decide_eq_true (by kernel_rfl)⟩
theorem rd : ∀ t ∈ Tryz.f3.params.toList, Tryz.prog.readableRec t = true ∧ t < Tryz.prog.types.size := by
  rw [Tryz.params3]
  intro t ht
  simp at ht
  subst ht
  exact rdB
theorem walk (a : Option Addr) (l : List UInt8) (cap : Nat) (w : World) (hl : BytesIn w a l) (hn : l.length ≤ 9223372036854775807) :
    Calls Tryz.prog 3 #[.slice a l.length cap] w fun e w' => e = .returned (.bool true) ∧ Below w.heap.size w w' := by
  by_cases h : l.length ≤ 1048576
  · exact walkSmall a l cap w hl h
  · exact walkBig a l.length cap w hn (by omega)
set_option maxRecDepth 100000 in
theorem lifted (os : Os) (started : os.Started) (H : Type) (enc : TypeId × Value → H) :
    ReturnsInHanded {} Tryz.checked os 3 .any (Rows.fnGroupsSpec.pre6 enc Tryz.prog Tryz.f3 Rows.fnGroupsRow.domain false) (Rows.fnGroupsSpec.post enc Tryz.prog Tryz.f3 false true false false) := by
  refine returnsInHanded_of_change (C := Tryz.checked) own started (by kernel_rfl) Tryz.func3
    (ChangeSpec.witness6 (enc := enc) (C := Tryz.checked) false ⟨#[], #[.slice none 0 0], []⟩ 8 (by kernel_rfl) (by kernel_rfl) (by kernel_rfl) (by kernel_rfl)) ?_
  intro W base args ds gs before hval0 hW hcnd _
  have hval : ∀ (j : Nat) t v, Tryz.f3.params[j]? = some t → args[j]? = some v → Value.okWide Tryz.prog W .any base t v := hval0
  have hW' := hW
  obtain ⟨p, q, hA0, hV, rfl, hfz, hnd⟩ := hW
  have hA : DataW.TrodAll enc Tryz.prog W 0 (fun _ => true) true Tryz.f3.params.toList args.toList ds p := hA0
  rw [Tryz.params3] at hA hval
  obtain ⟨v0, vs0, d0, ds0, p0, q0, hargs, rfl, rfl, h0, r0⟩ := trodAll_cons hA
  obtain ⟨rfl, rfl, rfl⟩ := trodAll_nil r0
  obtain rfl : args = #[v0] := by cases args; simp_all
  obtain ⟨rfl, rfl⟩ := trodVars_none hV
  obtain ⟨a0, l0, c0, rfl, hl0, hn0⟩ := open_bytesIn Tryz.underlying22 Tryz.underlying5 cellsB (hval 0 22 v0 rfl rfl) h0
  clear hA0 hval0
  refine (walk a0 l0 c0 W hl0 hn0).mono fun e W' ⟨he, hg⟩ => ?_
  subst he
  exact ⟨_, rfl, law_post laidOut rd rfl hW' rfl Tryz.underlying4 rfl hg⟩
theorem over : Rows.fnGroupsRow.holds Tryz.pinned (OpenSpec.ofChange Rows.fnGroupsSpec) :=
  OpenClaim.holds_of_wide 3 Tryz.f3 rfl rfl rfl rfl rfl rfl rfl ⟨rfl, rfl, rfl, rfl, rfl⟩ rfl rfl rfl rfl rfl (by kernel_rfl) Tryz.func3 (by kernel_rfl)
    (of_decide_eq_true (by kernel_rfl)) (by unfold Func.isWrapper; first | (rw [if_pos (by decide +kernel)]; kernel_rfl) | (rw [if_neg (by decide +kernel)]; exact ⟨rfl, rfl⟩))
    (fun os started H enc _ => lifted os started H enc)
theorem proved : Rows.FnGroupsSaid :=
  over
#print axioms proved
end Go.Proofs.YtngbimgabcacpaaGreat.fnGroups
