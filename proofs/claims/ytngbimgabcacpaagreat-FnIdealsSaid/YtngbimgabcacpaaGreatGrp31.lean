/-
  The walk of 'FnIdeals'.
-/
import Derived.Test.YtngbimgabcacpaaGreatGrp21
import Derived.Test.YtngbimgabcacpaaGreatGrp27
import Derived.Test.YtngbimgabcacpaaGreatGrp29
import Derived.Test.YtngbimgabcacpaaGreatGrp30
import Derived.Test.YtngbimgabcacpaaGreatGrp26
import Derived.Test.YtngbimgabcacpaaGreatGrp04
namespace Go.Proofs.YtngbimgabcacpaaGreat.fnIdeals
open Go.RowKit
set_option linter.unusedVariables false
theorem same4 (m : Nat) (zn : List Nat) (i k : Nat) : relK m zn 4 i k = (relK m zn 1 i k && relK m zn 2 i k) := relK_four m zn i k
set_option maxRecDepth 100000 in
set_option maxHeartbeats 16000000 in
theorem walkSmall (a : Option Addr) (l : List UInt8) (cap : Nat) (w : World) (hl : BytesIn w a l) (hlen : l.length ≤ 1048576) :
    Calls Tryz.prog 4 #[.slice a l.length cap] w fun e w' => e = .returned (.bool true) ∧ Below w.heap.size w w' := by
  have hq0 : ¬ (1048576 : Int) < (l.length : Int) := by omega
  have HM := Lib.hid (makeTable_any a l cap 0 w hl (by omega) (by omega))
  have HNUM20 := Lib.hid (fun W (h : BytesIn W a l) => makeNum_any a l cap 20 W h (by omega) (by omega))
  have HNUM22 := Lib.hid (fun W (h : BytesIn W a l) => makeNum_any a l cap 22 W h (by omega) (by omega))
  have HL0 := Lib.hid hl
  clear hl
  go_enter Tryz.func4, Tryz.ntmps4
  go_wp2_with fail
  refine HM.out.mono ?_
  rintro e w1 ⟨m, z, az, cz, hT, rfl, hz, hcap, hb1⟩
  obtain ⟨hzl, hm1, hm2⟩ := hT.few
  have HID1 := Lib.hid (fun i W (h : IntsIn W az z) hi => implIdealOf_ok m z az cz i 1 W h hT hi (by decide))
  have HID2 := Lib.hid (fun i W (h : IntsIn W az z) hi => implIdealOf_ok m z az cz i 2 W h hT hi (by decide))
  have HID3 := Lib.hid (fun i W (h : IntsIn W az z) hi => implIdealOf_ok m z az cz i 3 W h hT hi (by decide))
  have HBEL := Lib.hid (fun i k W (h : IntsIn W az z) hi hk => implIsBelow_ok m z az cz i k W h hT hi hk)
  have HLEA := Lib.hid (fun W (h : IntsIn W az z) => implLeastIdeal_ok m z az cz W h hT)
  have HREL := Lib.hid (fun i k (q : Nat) W (h : IntsIn W az z) hi hk (h1 : 1 ≤ q) (h2 : q ≤ 4) => implAreRelated_ok m z az cz i k (q : Nat) W h hT hi hk (by unfold inB; simp; omega))
  have HCLS := Lib.hid (fun (q : Nat) W (h : IntsIn W az z) => implClassesOf_any (m : Nat) z az cz (q : Nat) W h (by omega))
  have HCC := Lib.hid (fun (q : Nat) W (h : IntsIn W az z) => implCountClasses_any (m : Nat) z az cz (q : Nat) W h (by omega))
  have HC4 := Lib.hid (fun W (h : IntsIn W az z) => implCountClasses_any (m : Nat) z az cz 4 W h (by omega))
  have HC3 := Lib.hid (fun W (h : IntsIn W az z) => implCountClasses_any (m : Nat) z az cz 3 W h (by omega))
  have HZE := Lib.hid (fun W (h : IntsIn W az z) => implZeroOf_any (m : Nat) z az cz W h (by omega))
  have HTT := Lib.hid hT
  have hzr := zero_law hT
  have hmore := clz_more hT
  have HSELF : Hid (∀ i, i < m → ((i : Nat) : Int) ∈ idLs m (z.map Int.toNat) 1 i ∧ ((i : Nat) : Int) ∈ idLs m (z.map Int.toNat) 2 i) := Lib.hid (fun i hi => ⟨self1 hT.nats.1 hi, self2 hT.nats.1 hi⟩)
  have HSUB : Hid (∀ i x : Nat, i < m → (((x : Nat) : Int) ∈ idLs m (z.map Int.toNat) 1 i ∨ ((x : Nat) : Int) ∈ idLs m (z.map Int.toNat) 2 i ∨ ((x : Nat) : Int) ∈ idLs m (z.map Int.toNat) 3 (leastTo m (z.map Int.toNat) m)) → ((x : Nat) : Int) ∈ idLs m (z.map Int.toNat) 3 i) := Lib.hid (fun i x hi h => by
    rcases h with h | h | h
    · exact sub13 hT.nats.1 hi h
    · exact sub23 hT.nats.1 hi h
    · exact least_in hT.nats.1 hi h)
  have HR43 : Hid (∀ i k, i < m → k < m → relK m (z.map Int.toNat) 4 i k = true → relK m (z.map Int.toNat) 3 i k = true) := Lib.hid (fun i k hi hk h => rel_43 hT.nats.1 hi hk h)
  have hle0 : (idLs m (z.map Int.toNat) 3 (leastTo m (z.map Int.toNat) m)).length ≠ 0 := fun e => by
    have h := self3 hT.nats.1 (leastTo_lt (ln := z.map Int.toNat) hm1 m (Nat.le_refl _))
    rw [List.length_eq_zero_iff.1 e] at h
    cases h
  have HLN := Lib.hid (fun kind i => idLs_len (m := m) (ln := z.map Int.toNat) kind i)
  have HCL := Lib.hid (fun (q : Nat) (h1 : 1 ≤ q) (h2 : q ≤ 4) => clz_len (kind := (q : Nat)) hT (by unfold inB; simp; omega))
  have HCS := Lib.hid (fun (q : Nat) i k (h1 : 1 ≤ q) (h2 : q ≤ 4) hi hk => clz_same (kind := (q : Nat)) hT (by unfold inB; simp; omega) (i := i) (k := k) hi hk)
  have HCO := Lib.hid (fun (q : Nat) (h1 : 1 ≤ q) (h2 : q ≤ 4) => clz_one (kind := (q : Nat)) hT (by unfold inB; simp; omega))
  have HZI : Hid (∀ W, Below w1.heap.size w1 W → IntsIn W az z) := Lib.hid (fun W h => hz.later h)
  have HB1 := Lib.hid hb1
  generalize z.map Int.toNat = zn at *
  clear hb1 HM hT hz
  go_upto_region 4 with fail
  have HW2 := Lib.hid (alloc_belowT w1 (.cells #[.int .i64 (m : Nat), .slice az z.length cz] 25))
  have HX : Hid (∀ W, Below (w1.alloc (.cells #[.int .i64 (m : Nat), .slice az z.length cz] 25)).heap.size (w1.alloc (.cells #[.int .i64 (m : Nat), .slice az z.length cz] 25)) W → W.cell? ⟨w1.heap.size, 0, none⟩ = some (.int .i64 (m : Nat)) ∧ W.cell? ⟨w1.heap.size, 1, none⟩ = some (.slice az z.length cz)) := Lib.hid (fun W hW => ⟨by rw [hW.cell (by simp)]; simp, by rw [hW.cell (by simp)]; simp⟩)
  generalize w1.alloc (.cells #[.int .i64 (m : Nat), .slice az z.length cz] 25) = w2 at *
  have HZW : Hid (∀ W, Below w2.heap.size w2 W → IntsIn W az z) := Lib.hid (fun W h => HZI.out W (Below.now HW2.out h))
  have HBY : Hid (∀ W, Below w2.heap.size w2 W → BytesIn W a l) := Lib.hid (fun W h => HL0.out.later (Below.now HB1.out (Below.now HW2.out h)))
  clear HZI HL0
  have hmz : ((m : Int) == 0) = false := by rw [beq_eq_false_iff_ne]; omega
  have hmz2 : ¬ (m : Int) = 0 := by omega
  have hmz3 : ¬ m = 0 := by omega
  refine region_each (fun W => Below w2.heap.size w2 W) (fun W W2 => Below W.heap.size W W2) (fun u => by simp only [fPut, Act.put, List.setIfInBounds_toArray, List.set_cons_succ, List.set_cons_zero, Nat.zero_add, Nat.reduceAdd]; rfl) (by kernel_rfl) (by kernel_rfl) (by kernel_rfl) (Below.drew (Below.refl _ _)) ?_
  apply each_read (fun _ => Below.refl _ _) rfl
  · intro u wv hC hf
    have z0 := (HX.out _ hC).1
    have z1 := (HX.out _ hC).2
    clear hf
    go_simp
    try rfl
  refine each_call (fun v wv => ∃ x : Nat, v = .int .i64 ((x : Nat) : Int)) (fun v w w2 _ hR h => h) rfl ?_ ?_
  · intro u wv hC hf
    have z0 := (HX.out _ hC).1
    have z1 := (HX.out _ hC).2
    obtain ⟨d0_0, -⟩ := hf
    have e0 : u 0 = _ := d0_0 rfl
    clear d0_0
    apply Exists.intro; apply Exists.intro; apply And.intro
    · go_simp; exact ⟨rfl, rfl⟩
    · refine (HNUM20.out _ (HBY.out _ hC)).mono ?_
      rintro e w3 ⟨x, hx, rfl, hb⟩
      exact ⟨_, rfl, Below.now hC hb, hb, x, rfl⟩
  apply each_read (fun _ => Below.refl _ _) rfl
  · intro u wv hC hf
    have z0 := (HX.out _ hC).1
    have z1 := (HX.out _ hC).2
    clear hf
    go_simp
    try rfl
  apply each_read (fun _ => Below.refl _ _) rfl
  · intro u wv hC hf
    have z0 := (HX.out _ hC).1
    have z1 := (HX.out _ hC).2
    obtain ⟨d2_0, -⟩ := hf
    have e2 : u 2 = _ := d2_0 rfl
    clear d2_0
    go_simp
    try rfl
  refine each_do (fun v wv => ∃ i : Nat, i < m ∧ v = .int .i64 ((i : Nat) : Int)) (fun v w w2 _ hR h => h) rfl ?_ ?_
  · intro u wv hC hf
    have z0 := (HX.out _ hC).1
    have z1 := (HX.out _ hC).2
    obtain ⟨d1_0, d3_1, -⟩ := hf
    obtain ⟨x1, e1⟩ := d1_0 rfl
    have e3 : u 3 = _ := d3_1 rfl
    clear d3_1
    refine ⟨.int .i64 (((x1 % m : Nat)) : Int), wv, ?_, hC, Below.refl _ _, x1 % m, Nat.mod_lt _ (by omega), rfl⟩
    rw [Int.ofNat_tmod]
    go_simp
    try rfl
  refine each_do (fun v wv => ∃ i : Nat, i < m ∧ v = .int .i64 ((i : Nat) : Int)) (fun v w w2 _ hR h => h) rfl ?_ ?_
  · intro u wv hC hf
    have z0 := (HX.out _ hC).1
    have z1 := (HX.out _ hC).2
    obtain ⟨d4_0, d1_1, d0_2, d1_3, d2_4, d3_5, d4_6, -⟩ := hf
    obtain ⟨i4, hi4, e4⟩ := d4_0 rfl
    obtain ⟨x1, e1⟩ := d1_1 rfl
    have e0 : u 0 = _ := d0_2 rfl
    clear d0_2
    clear d1_3
    have e2 : u 2 = _ := d2_4 rfl
    clear d2_4
    have e3 : u 3 = _ := d3_5 rfl
    clear d3_5
    clear d4_6
    refine ⟨.int .i64 ((i4 : Nat) : Int), wv, ?_, hC, Below.refl _ _, i4, hi4, rfl⟩
    go_simp
    try rfl
  intro u w3 hb3 hall
  obtain ⟨a0, a1, a2, a3, a4, a5, -⟩ := hall
  have e0 : u 0 = _ := a0
  clear a0
  obtain ⟨x1, e1⟩ := a1
  replace e1 : u 1 = _ := e1
  have e2 : u 2 = _ := a2
  clear a2
  have e3 : u 3 = _ := a3
  clear a3
  obtain ⟨i4, hi4, e4⟩ := a4
  replace e4 : u 4 = _ := e4
  obtain ⟨i, hi, e5⟩ := a5
  replace e5 : u 5 = _ := e5
  simp only [e0, e1, e2, e3, e4, e5]
  clear e0 e1 e2 e3 e4 e5
  have HB3 := Lib.hid hb3
  clear hb3
  go_upto_region 5 with fail
  refine region_each (fun W => Below w3.heap.size w3 W) (fun W W2 => Below W.heap.size W W2) (fun u => by simp only [fPut, Act.put, List.setIfInBounds_toArray, List.set_cons_succ, List.set_cons_zero, Nat.zero_add, Nat.reduceAdd]; rfl) (by kernel_rfl) (by kernel_rfl) (by kernel_rfl) (Below.drew (Below.refl _ _)) ?_
  apply each_read (fun _ => Below.refl _ _) rfl
  · intro u wv hC hf
    have z0 := (HX.out _ (Below.now HB3.out hC)).1
    have z1 := (HX.out _ (Below.now HB3.out hC)).2
    clear hf
    go_simp
    try rfl
  refine each_call (fun v wv => ∃ x : Nat, v = .int .i64 ((x : Nat) : Int)) (fun v w w2 _ hR h => h) rfl ?_ ?_
  · intro u wv hC hf
    have z0 := (HX.out _ (Below.now HB3.out hC)).1
    have z1 := (HX.out _ (Below.now HB3.out hC)).2
    obtain ⟨d0_0, -⟩ := hf
    have e0 : u 0 = _ := d0_0 rfl
    clear d0_0
    apply Exists.intro; apply Exists.intro; apply And.intro
    · go_simp; exact ⟨rfl, rfl⟩
    · refine (HNUM22.out _ (HBY.out _ (Below.now HB3.out hC))).mono ?_
      rintro e w3 ⟨x, hx, rfl, hb⟩
      exact ⟨_, rfl, Below.now hC hb, hb, x, rfl⟩
  apply each_read (fun _ => Below.refl _ _) rfl
  · intro u wv hC hf
    have z0 := (HX.out _ (Below.now HB3.out hC)).1
    have z1 := (HX.out _ (Below.now HB3.out hC)).2
    clear hf
    go_simp
    try rfl
  apply each_read (fun _ => Below.refl _ _) rfl
  · intro u wv hC hf
    have z0 := (HX.out _ (Below.now HB3.out hC)).1
    have z1 := (HX.out _ (Below.now HB3.out hC)).2
    obtain ⟨d2_0, -⟩ := hf
    have e2 : u 2 = _ := d2_0 rfl
    clear d2_0
    go_simp
    try rfl
  refine each_do (fun v wv => ∃ i : Nat, i < m ∧ v = .int .i64 ((i : Nat) : Int)) (fun v w w2 _ hR h => h) rfl ?_ ?_
  · intro u wv hC hf
    have z0 := (HX.out _ (Below.now HB3.out hC)).1
    have z1 := (HX.out _ (Below.now HB3.out hC)).2
    obtain ⟨d1_0, d3_1, -⟩ := hf
    obtain ⟨x1, e1⟩ := d1_0 rfl
    have e3 : u 3 = _ := d3_1 rfl
    clear d3_1
    refine ⟨.int .i64 (((x1 % m : Nat)) : Int), wv, ?_, hC, Below.refl _ _, x1 % m, Nat.mod_lt _ (by omega), rfl⟩
    rw [Int.ofNat_tmod]
    go_simp
    try rfl
  refine each_do (fun v wv => ∃ i : Nat, i < m ∧ v = .int .i64 ((i : Nat) : Int)) (fun v w w2 _ hR h => h) rfl ?_ ?_
  · intro u wv hC hf
    have z0 := (HX.out _ (Below.now HB3.out hC)).1
    have z1 := (HX.out _ (Below.now HB3.out hC)).2
    obtain ⟨d4_0, d1_1, d0_2, d1_3, d2_4, d3_5, d4_6, -⟩ := hf
    obtain ⟨k4, hk4, e4⟩ := d4_0 rfl
    obtain ⟨x1, e1⟩ := d1_1 rfl
    have e0 : u 0 = _ := d0_2 rfl
    clear d0_2
    clear d1_3
    have e2 : u 2 = _ := d2_4 rfl
    clear d2_4
    have e3 : u 3 = _ := d3_5 rfl
    clear d3_5
    clear d4_6
    refine ⟨.int .i64 ((k4 : Nat) : Int), wv, ?_, hC, Below.refl _ _, k4, hk4, rfl⟩
    go_simp
    try rfl
  intro u w4 hb4 hall
  obtain ⟨a0, a1, a2, a3, a4, a5, -⟩ := hall
  have e0 : u 0 = _ := a0
  clear a0
  obtain ⟨x1, e1⟩ := a1
  replace e1 : u 1 = _ := e1
  have e2 : u 2 = _ := a2
  clear a2
  have e3 : u 3 = _ := a3
  clear a3
  obtain ⟨k4, hk4, e4⟩ := a4
  replace e4 : u 4 = _ := e4
  obtain ⟨k, hk, e5⟩ := a5
  replace e5 : u 5 = _ := e5
  simp only [e0, e1, e2, e3, e4, e5]
  clear e0 e1 e2 e3 e4 e5
  have HB4 := Lib.hid (Below.now HB3.out hb4)
  clear hb4 HB3 HNUM20 HNUM22 HBY
  have hi1 := (HSELF.out i hi).1
  have hi2 := (HSELF.out i hi).2
  have HSUBI := Lib.hid (fun x => HSUB.out i x hi)
  have HR1 := Lib.hid (fun W (h : IntsIn W az z) => HID1.out i W h hi)
  have HR2 := Lib.hid (fun W (h : IntsIn W az z) => HID2.out i W h hi)
  have HR3 := Lib.hid (fun W (h : IntsIn W az z) => HID3.out i W h hi)
  have HBI := Lib.hid (fun x W (h : IntsIn W az z) hx => HBEL.out x i W h hx hi)
  have hl1 := HLN.out 1 i
  have hl2 := HLN.out 2 i
  have hl3 := HLN.out 3 i
  have hll := HLN.out 3 (leastTo m zn m)
  have HRQ := Lib.hid (fun (q : Nat) W (h : IntsIn W az z) h1 h2 => HREL.out i k q W h hi hk h1 h2)
  have HRA := Lib.hid (fun W (h : IntsIn W az z) => HREL.out i k 4 W h hi hk (by omega) (by omega))
  have HRB := Lib.hid (fun W (h : IntsIn W az z) => HREL.out i k 1 W h hi hk (by omega) (by omega))
  have HRC := Lib.hid (fun W (h : IntsIn W az z) => HREL.out i k 2 W h hi hk (by omega) (by omega))
  have HRD := Lib.hid (fun W (h : IntsIn W az z) => HREL.out i k 3 W h hi hk (by omega) (by omega))
  have HCSQ := Lib.hid (fun (q : Nat) h1 h2 => HCS.out q i k h1 h2 hi hk)
  have h412 := same4 m zn i k
  have h43 := HR43.out i k hi hk
  generalize idLs m zn 1 i = R at *
  generalize idLs m zn 2 i = L at *
  generalize idLs m zn 3 i = B at *
  generalize idLs m zn 3 (leastTo m zn m) = E at *
  clear HID1 HID2 HID3 HBEL HSELF HSUB HREL HCS HR43 HLN
  obtain ⟨z0, z1⟩ := HX.out _ HB4.out
  go_wp2_with fail
  refine (HR1.out _ (HZW.out _ HB4.out)).mono ?_
  rintro e w5 ⟨aR, cR, rfl, hoR, hb5⟩
  have HB5 := Lib.hid (Below.now HB4.out hb5)
  have HP5 := Lib.hid (owns_ints (l := R) hoR)
  clear z0 z1 hoR hb5 HR1 HB4
  obtain ⟨z0, z1⟩ := HX.out _ HB5.out
  go_wp2_with fail
  refine (HR2.out _ (HZW.out _ HB5.out)).mono ?_
  rintro e w6 ⟨aL, cL, rfl, hoL, hb6⟩
  have HB6 := Lib.hid (Below.now HB5.out hb6)
  have HP6 := Lib.hid (HP5.out.later hb6)
  have HQ6 := Lib.hid (owns_ints (l := L) hoL)
  clear z0 z1 hoL hb6 HR2 HB5 HP5
  obtain ⟨z0, z1⟩ := HX.out _ HB6.out
  go_wp2_with fail
  refine (HR3.out _ (HZW.out _ HB6.out)).mono ?_
  rintro e w7 ⟨aB, cB, rfl, hoB, hb7⟩
  have HB7 := Lib.hid (Below.now HB6.out hb7)
  have HP7 := Lib.hid (HP6.out.later hb7)
  have HQ7 := Lib.hid (HQ6.out.later hb7)
  have HS7 := Lib.hid (owns_ints (l := B) hoB)
  clear z0 z1 hoB hb7 HR3 HB6 HP6 HQ6
  obtain ⟨z0, z1⟩ := HX.out _ HB7.out
  go_wp2_with fail
  refine (HLEA.out _ (HZW.out _ HB7.out)).mono ?_
  rintro e w8 ⟨aE, cE, rfl, hoE, hb8⟩
  have HB8 := Lib.hid (Below.now HB7.out hb8)
  have HP8 := Lib.hid (HP7.out.later hb8)
  have HQ8 := Lib.hid (HQ7.out.later hb8)
  have HS8 := Lib.hid (HS7.out.later hb8)
  have HE8 := Lib.hid (owns_ints (l := E) hoE)
  clear z0 z1 hoE hb8 HLEA HB7 HP7 HQ7 HS7
  have HHR := Lib.hid (fun (x : Nat) W h => lawHas_any R aR cR ((x : Nat) : Int) W h (by omega))
  have HHL := Lib.hid (fun (x : Nat) W h => lawHas_any L aL cL ((x : Nat) : Int) W h (by omega))
  have HHB := Lib.hid (fun (x : Nat) W h => lawHas_any B aB cB ((x : Nat) : Int) W h (by omega))
  have HHE := Lib.hid (fun (x : Nat) W h => lawHas_any E aE cE ((x : Nat) : Int) W h (by omega))
  have HHRi := Lib.hid (HHR.out i)
  rw [decide_eq_true hi1] at HHRi
  have HHLi := Lib.hid (HHL.out i)
  rw [decide_eq_true hi2] at HHLi
  have hE0 : (((E.length : Nat) : Int) == 0) = false := by rw [beq_eq_false_iff_ne]; omega
  go_wp2_with fail
  refine (HHRi.out _ HP8.out).mono ?_
  rintro e wa ⟨rfl, rfl⟩
  go_wp2_with fail
  refine (HHLi.out _ HQ8.out).mono ?_
  rintro e wb ⟨rfl, rfl⟩
  clear HHRi HHLi
  go_wp2_with fail
  go_loopw [10] (fun x wr => ∃ c : Nat, c ≤ m ∧ x = .int .i64 (c : Nat) ∧ Below wb.heap.size wb wr) (fun x _ => m - (intOf x).toNat)
  case atStart => exact ⟨0, Nat.zero_le _, rfl, Below.refl _ _⟩
  case round =>
    obtain ⟨c, hcm, rfl, hbr⟩ := hrel
    have HBR := Lib.hid hbr
    clear hbr
    obtain ⟨z0, z1⟩ := HX.out _ (Below.now HB8.out HBR.out)
    by_cases hc : c < m
    · have HR := Lib.hid (HHR.out c wr (HP8.out.later HBR.out))
      have HL := Lib.hid (HHL.out c wr (HQ8.out.later HBR.out))
      have HB := Lib.hid (fun W (h : Below wr.heap.size wr W) => HHB.out c W (HS8.out.later (Below.now HBR.out h)))
      have HE := Lib.hid (HHE.out c wr (HE8.out.later HBR.out))
      have HI := Lib.hid (HBI.out c wr (HZW.out _ (Below.now HB8.out HBR.out)) hc)
      have hsub : (decide ((c : Int) ∈ R) || decide ((c : Int) ∈ L) || decide ((c : Int) ∈ E)) = true → decide ((c : Int) ∈ B) = true := by
        simp only [Bool.or_eq_true, decide_eq_true_eq, or_assoc]
        exact HSUBI.out c
      generalize decide ((c : Int) ∈ R) = bR at *
      generalize decide ((c : Int) ∈ L) = bL at *
      generalize decide ((c : Int) ∈ E) = bE at *
      generalize decide ((c : Int) ∈ B) = bB at *
      clear HSUBI HBI HHR HHL HHB HHE hi1 hi2 hle0
      go_wp2_with fail
      cases bR
      · refine HR.out.mono ?_
        rintro e wx ⟨rfl, rfl⟩
        go_wp2_with fail
        cases bL
        · refine HL.out.mono ?_
          rintro e wx ⟨rfl, rfl⟩
          go_wp2_with fail
          cases bE
          · refine HE.out.mono ?_
            rintro e wx ⟨rfl, rfl⟩
            go_wp2_with fail
            cases bB
            · refine HI.out.mono ?_
              rintro e wy ⟨rfl, hby⟩
              have HY := Lib.hid hby
              clear hby z0 z1
              go_wp2_with fail
              refine (HB.out _ HY.out).mono ?_
              rintro e wz ⟨rfl, rfl⟩
              go_wp2_with fail
              go_roundw
              case rel => exact ⟨c + 1, by omega, by go_num, Below.now HBR.out HY.out⟩
              case measure => simp [intOf]; omega
            · refine HI.out.mono ?_
              rintro e wy ⟨rfl, hby⟩
              have HY := Lib.hid hby
              clear hby z0 z1
              go_wp2_with fail
              refine (HB.out _ HY.out).mono ?_
              rintro e wz ⟨rfl, rfl⟩
              go_wp2_with fail
              go_roundw
              case rel => exact ⟨c + 1, by omega, by go_num, Below.now HBR.out HY.out⟩
              case measure => simp [intOf]; omega
          · refine HE.out.mono ?_
            rintro e wx ⟨rfl, rfl⟩
            go_wp2_with fail
            obtain rfl : bB = true := hsub (by simp)
            refine (HB.out _ (Below.refl _ _)).mono ?_
            rintro e wx ⟨rfl, rfl⟩
            go_wp2_with fail
            refine HI.out.mono ?_
            rintro e wy ⟨rfl, hby⟩
            have HY := Lib.hid hby
            clear hby z0 z1
            go_wp2_with fail
            refine (HB.out _ HY.out).mono ?_
            rintro e wz ⟨rfl, rfl⟩
            go_wp2_with fail
            go_roundw
            case rel => exact ⟨c + 1, by omega, by go_num, Below.now HBR.out HY.out⟩
            case measure => simp [intOf]; omega
        · refine HL.out.mono ?_
          rintro e wx ⟨rfl, rfl⟩
          go_wp2_with fail
          obtain rfl : bB = true := hsub (by simp)
          refine (HB.out _ (Below.refl _ _)).mono ?_
          rintro e wx ⟨rfl, rfl⟩
          go_wp2_with fail
          refine HI.out.mono ?_
          rintro e wy ⟨rfl, hby⟩
          have HY := Lib.hid hby
          clear hby z0 z1
          go_wp2_with fail
          refine (HB.out _ HY.out).mono ?_
          rintro e wz ⟨rfl, rfl⟩
          go_wp2_with fail
          go_roundw
          case rel => exact ⟨c + 1, by omega, by go_num, Below.now HBR.out HY.out⟩
          case measure => simp [intOf]; omega
      · refine HR.out.mono ?_
        rintro e wx ⟨rfl, rfl⟩
        go_wp2_with fail
        obtain rfl : bB = true := hsub (by simp)
        refine (HB.out _ (Below.refl _ _)).mono ?_
        rintro e wx ⟨rfl, rfl⟩
        go_wp2_with fail
        refine HI.out.mono ?_
        rintro e wy ⟨rfl, hby⟩
        have HY := Lib.hid hby
        clear hby z0 z1
        go_wp2_with fail
        refine (HB.out _ HY.out).mono ?_
        rintro e wz ⟨rfl, rfl⟩
        go_wp2_with fail
        go_roundw
        case rel => exact ⟨c + 1, by omega, by go_num, Below.now HBR.out HY.out⟩
        case measure => simp [intOf]; omega
    · have HBM := Lib.hid (Below.now HB8.out HBR.out)
      have HBR2 := Lib.hid HBR.out
      clear HP8 HQ8 HS8 HE8 HHR HHL HHB HHE HBI HSUBI HBR hi1 hi2
      have hz1 : (((E.length : Nat) : Int) == 1) = decide (E.length = 1) := by rw [Bool.eq_iff_iff]; simp; omega
      rw [← hzr] at hz1
      generalize zeroF (m : Nat) z = zf at *
      generalize hbz : decide (0 ≤ zf) = bz at *
      have hge : decide (cntF (clzF (m : Nat) z 3) ≤ cntF (clzF (m : Nat) z 4)) = true := decide_eq_true hmore
      generalize cntF (clzF (m : Nat) z 3) = n3 at *
      generalize cntF (clzF (m : Nat) z 4) = n4 at *
      go_wp2_with fail
      clear z0 z1
      generalize hWR : wr = wr0 at *
      clear hWR
      go_loopw [11] (fun x wr => ∃ q : Nat, 1 ≤ q ∧ q ≤ 5 ∧ x = .int .i64 (q : Nat) ∧ Below wb.heap.size wb wr) (fun x _ => 5 - (intOf x).toNat)
      case atStart => exact ⟨1, by omega, by omega, rfl, HBR2.out⟩
      case round =>
        obtain ⟨q, hq1, hq5, rfl, hbr⟩ := hrel
        have HBQ := Lib.hid (Below.now HB8.out hbr)
        have HBQ0 := Lib.hid hbr
        clear hbr
        obtain ⟨z0, z1⟩ := HX.out _ HBQ.out
        by_cases hq4 : q ≤ 4
        · have HAR := Lib.hid (fun W (h : IntsIn W az z) => HRQ.out q W h hq1 hq4)
          have HCLQ := Lib.hid ((HCLS.out q wr (HZW.out _ HBQ.out)).mono fun e w' h => h.1)
          have HCCQ := Lib.hid (HCC.out q)
          have hql := HCL.out q hq1 hq4
          have hqs := HCSQ.out q hq1 hq4
          have hqo := HCO.out q hq1 hq4
          have hqi : ((q : Nat) : Int) ≤ 4 := by omega
          generalize relK m zn ((q : Nat) : Int) i k = rq at *
          generalize clzF (m : Nat) z ((q : Nat) : Int) = CQ at *
          have hqo2 : ¬ cntF CQ < 1 := by omega
          generalize cntF CQ = nq at *
          have t7 : (((CQ.length : Nat) : Int) != ((m : Nat) : Int)) = false := by rw [bne, hql]; simp
          have t8 : (((CQ.length : Nat) : Int) == ((m : Nat) : Int)) = true := by rw [hql]; simp
          have hil : (i : Int) < ((CQ.length : Nat) : Int) := by omega
          have hkl : (k : Int) < ((CQ.length : Nat) : Int) := by omega
          have hiN : i < CQ.length := by omega
          have hkN : k < CQ.length := by omega
          clear hql
          go_wp2_with fail
          refine HCLQ.out.mono ?_
          rintro e wq ⟨aQ, cQ, rfl, hoQ, hbq⟩
          have HBQ2 := Lib.hid (Below.now HBQ.out hbq)
          have HBQ3 := Lib.hid (Below.now HBQ0.out hbq)
          have hqq := owns_ints (l := CQ) hoQ
          obtain ⟨bq, oq, rfl, hbq2, hcq⟩ := hqq.cell hiN
          have HCI : Hid (∀ W, Below wq.heap.size wq W → W.cell? ⟨bq, oq + i, none⟩ = some (.int .i64 (nthZ CQ i)) ∧ W.cell? ⟨bq, oq + k, none⟩ = some (.int .i64 (nthZ CQ k))) := Lib.hid (fun W hW => ⟨(hW.cell (by exact hbq2)).trans (hcq i hiN), (hW.cell (by exact hbq2)).trans (hcq k hkN)⟩)
          clear hoQ hbq hqq hcq hbq2 HCLQ z0 z1
          generalize nthZ CQ i = vi at *
          generalize nthZ CQ k = vk at *
          go_upto_region 21 with fail
          refine region_each (fun W => Below wq.heap.size wq W) (fun W W2 => Below W.heap.size W W2) (fun u => by simp only [fPut, Act.put, List.setIfInBounds_toArray, List.set_cons_succ, List.set_cons_zero, Nat.zero_add, Nat.reduceAdd]; rfl) (by kernel_rfl) (by kernel_rfl) (by kernel_rfl) (Below.drew (Below.refl _ _)) ?_
          apply each_read (fun _ => Below.refl _ _) rfl
          · intro u wv hC hf
            have z0 := (HX.out _ (Below.now HBQ2.out hC)).1
            have z1 := (HX.out _ (Below.now HBQ2.out hC)).2
            have ci := (HCI.out _ hC).1
            have ck := (HCI.out _ hC).2
            clear hf
            go_simp
            try rfl
          apply each_read (fun _ => Below.refl _ _) rfl
          · intro u wv hC hf
            have z0 := (HX.out _ (Below.now HBQ2.out hC)).1
            have z1 := (HX.out _ (Below.now HBQ2.out hC)).2
            have ci := (HCI.out _ hC).1
            have ck := (HCI.out _ hC).2
            obtain ⟨d0_0, -⟩ := hf
            have e0 : u 0 = _ := d0_0 rfl
            clear d0_0
            go_simp
            try rfl
          conv => arg 8; simp only [List.cons_append, List.nil_append]
          apply each_read (fun _ => Below.refl _ _) rfl
          · intro u wv hC hf
            have z0 := (HX.out _ (Below.now HBQ2.out hC)).1
            have z1 := (HX.out _ (Below.now HBQ2.out hC)).2
            have ci := (HCI.out _ hC).1
            have ck := (HCI.out _ hC).2
            clear hf
            go_simp
            try rfl
          conv => arg 8; simp only [List.cons_append, List.nil_append]
          apply each_read (fun _ => Below.refl _ _) rfl
          · intro u wv hC hf
            have z0 := (HX.out _ (Below.now HBQ2.out hC)).1
            have z1 := (HX.out _ (Below.now HBQ2.out hC)).2
            have ci := (HCI.out _ hC).1
            have ck := (HCI.out _ hC).2
            obtain ⟨d2_0, -⟩ := hf
            have e2 : u 2 = _ := d2_0 rfl
            clear d2_0
            go_simp
            try rfl
          conv => arg 8; simp only [List.cons_append, List.nil_append]
          apply each_read (fun _ => Below.refl _ _) rfl
          · intro u wv hC hf
            have z0 := (HX.out _ (Below.now HBQ2.out hC)).1
            have z1 := (HX.out _ (Below.now HBQ2.out hC)).2
            have ci := (HCI.out _ hC).1
            have ck := (HCI.out _ hC).2
            obtain ⟨d1_0, d3_1, -⟩ := hf
            have e1 : u 1 = _ := d1_0 rfl
            clear d1_0
            have e3 : u 3 = _ := d3_1 rfl
            clear d3_1
            go_simp
            try rfl
          conv => arg 8; simp only [List.cons_append, List.nil_append]
          apply each_read (fun _ => Below.refl _ _) rfl
          · intro u wv hC hf
            have z0 := (HX.out _ (Below.now HBQ2.out hC)).1
            have z1 := (HX.out _ (Below.now HBQ2.out hC)).2
            have ci := (HCI.out _ hC).1
            have ck := (HCI.out _ hC).2
            obtain ⟨d4_0, -⟩ := hf
            have e4 : u 4 = _ := d4_0 rfl
            clear d4_0
            go_simp
            try rfl
          conv => arg 8; simp only [List.cons_append, List.nil_append]
          apply each_readG (fun _ => Below.refl _ _)
          · intro u wv hC hf
            have z0 := (HX.out _ (Below.now HBQ2.out hC)).1
            have z1 := (HX.out _ (Below.now HBQ2.out hC)).2
            have ci := (HCI.out _ hC).1
            have ck := (HCI.out _ hC).2
            obtain ⟨d5_0, -⟩ := hf
            have e5 : u 5 = _ := d5_0 rfl
            clear d5_0
            refine ⟨wanted_at rfl rfl rfl e5 rfl, ?_⟩
            go_simp
            try rfl
          conv => arg 8; simp only [List.cons_append, List.nil_append]
          apply each_readG (fun _ => Below.refl _ _)
          · intro u wv hC hf
            have z0 := (HX.out _ (Below.now HBQ2.out hC)).1
            have z1 := (HX.out _ (Below.now HBQ2.out hC)).2
            have ci := (HCI.out _ hC).1
            have ck := (HCI.out _ hC).2
            obtain ⟨d5_0, -⟩ := hf
            have e5 : u 5 = _ := d5_0 rfl
            clear d5_0
            refine ⟨wanted_at rfl rfl rfl e5 rfl, ?_⟩
            go_simp
            try rfl
          conv => arg 8; simp only [List.cons_append, List.nil_append]
          apply each_readG (fun _ => Below.refl _ _)
          · intro u wv hC hf
            have z0 := (HX.out _ (Below.now HBQ2.out hC)).1
            have z1 := (HX.out _ (Below.now HBQ2.out hC)).2
            have ci := (HCI.out _ hC).1
            have ck := (HCI.out _ hC).2
            obtain ⟨d6_0, d7_1, d5_2, -⟩ := hf
            have e6 : u 6 = _ := d6_0 rfl
            clear d6_0
            have e7 : u 7 = _ := d7_1 rfl
            clear d7_1
            have e5 : u 5 = _ := d5_2 rfl
            clear d5_2
            refine ⟨wanted_at rfl rfl rfl e5 rfl, ?_⟩
            go_simp
            try rfl
          conv => arg 8; simp only [List.cons_append, List.nil_append]
          apply each_readG (fun _ => Below.refl _ _)
          · intro u wv hC hf
            have z0 := (HX.out _ (Below.now HBQ2.out hC)).1
            have z1 := (HX.out _ (Below.now HBQ2.out hC)).2
            have ci := (HCI.out _ hC).1
            have ck := (HCI.out _ hC).2
            obtain ⟨d8_0, d5_1, -⟩ := hf
            have e8 : u 8 = _ := d8_0 rfl
            clear d8_0
            have e5 : u 5 = _ := d5_1 rfl
            clear d5_1
            refine ⟨wanted_at rfl rfl rfl e5 rfl, ?_⟩
            go_simp
            try rfl
          conv => arg 8; simp only [List.cons_append, List.nil_append]
          apply each_readG (fun _ => Below.refl _ _)
          · intro u wv hC hf
            have z0 := (HX.out _ (Below.now HBQ2.out hC)).1
            have z1 := (HX.out _ (Below.now HBQ2.out hC)).2
            have ci := (HCI.out _ hC).1
            have ck := (HCI.out _ hC).2
            obtain ⟨d5_0, -⟩ := hf
            have e5 : u 5 = _ := d5_0 rfl
            clear d5_0
            refine ⟨wanted_at rfl rfl rfl e5 rfl, ?_⟩
            go_simp
            try rfl
          conv => arg 8; simp only [List.cons_append, List.nil_append]
          apply each_readG (fun _ => Below.refl _ _)
          · intro u wv hC hf
            have z0 := (HX.out _ (Below.now HBQ2.out hC)).1
            have z1 := (HX.out _ (Below.now HBQ2.out hC)).2
            have ci := (HCI.out _ hC).1
            have ck := (HCI.out _ hC).2
            obtain ⟨d5_0, -⟩ := hf
            have e5 : u 5 = _ := d5_0 rfl
            clear d5_0
            refine ⟨wanted_at rfl rfl rfl e5 rfl, ?_⟩
            go_simp
            try rfl
          conv => arg 8; simp only [List.cons_append, List.nil_append]
          apply each_readG (fun _ => Below.refl _ _)
          · intro u wv hC hf
            have z0 := (HX.out _ (Below.now HBQ2.out hC)).1
            have z1 := (HX.out _ (Below.now HBQ2.out hC)).2
            have ci := (HCI.out _ hC).1
            have ck := (HCI.out _ hC).2
            obtain ⟨d10_0, d11_1, d5_2, -⟩ := hf
            have e10 : u 10 = _ := d10_0 rfl
            clear d10_0
            have e11 : u 11 = _ := d11_1 rfl
            clear d11_1
            have e5 : u 5 = _ := d5_2 rfl
            clear d5_2
            refine ⟨wanted_at rfl rfl rfl e5 rfl, ?_⟩
            go_simp
            try rfl
          conv => arg 8; simp only [List.cons_append, List.nil_append]
          apply each_readG (fun _ => Below.refl _ _)
          · intro u wv hC hf
            have z0 := (HX.out _ (Below.now HBQ2.out hC)).1
            have z1 := (HX.out _ (Below.now HBQ2.out hC)).2
            have ci := (HCI.out _ hC).1
            have ck := (HCI.out _ hC).2
            obtain ⟨d12_0, d5_1, -⟩ := hf
            have e12 : u 12 = _ := d12_0 rfl
            clear d12_0
            have e5 : u 5 = _ := d5_1 rfl
            clear d5_1
            refine ⟨wanted_at rfl rfl rfl e5 rfl, ?_⟩
            go_simp
            try rfl
          conv => arg 8; simp only [List.cons_append, List.nil_append]
          apply each_readG (fun _ => Below.refl _ _)
          · intro u wv hC hf
            have z0 := (HX.out _ (Below.now HBQ2.out hC)).1
            have z1 := (HX.out _ (Below.now HBQ2.out hC)).2
            have ci := (HCI.out _ hC).1
            have ck := (HCI.out _ hC).2
            obtain ⟨d9_0, d13_1, d5_2, -⟩ := hf
            have e9 : u 9 = _ := d9_0 rfl
            clear d9_0
            have e13 : u 13 = _ := d13_1 rfl
            clear d13_1
            have e5 : u 5 = _ := d5_2 rfl
            clear d5_2
            refine ⟨wanted_at rfl rfl rfl e5 rfl, ?_⟩
            go_simp
            try rfl
          conv => arg 8; simp only [List.cons_append, List.nil_append]
          apply each_readG (fun _ => Below.refl _ _)
          · intro u wv hC hf
            have z0 := (HX.out _ (Below.now HBQ2.out hC)).1
            have z1 := (HX.out _ (Below.now HBQ2.out hC)).2
            have ci := (HCI.out _ hC).1
            have ck := (HCI.out _ hC).2
            obtain ⟨d5_0, -⟩ := hf
            have e5 : u 5 = _ := d5_0 rfl
            clear d5_0
            refine ⟨wanted_at rfl rfl rfl e5 rfl, ?_⟩
            go_simp
            try rfl
          conv => arg 8; simp only [List.cons_append, List.nil_append]
          apply each_readG (fun _ => Below.refl _ _)
          · intro u wv hC hf
            have z0 := (HX.out _ (Below.now HBQ2.out hC)).1
            have z1 := (HX.out _ (Below.now HBQ2.out hC)).2
            have ci := (HCI.out _ hC).1
            have ck := (HCI.out _ hC).2
            obtain ⟨d5_0, -⟩ := hf
            have e5 : u 5 = _ := d5_0 rfl
            clear d5_0
            refine ⟨wanted_at rfl rfl rfl e5 rfl, ?_⟩
            go_simp
            try rfl
          conv => arg 8; simp only [List.cons_append, List.nil_append]
          apply each_readG (fun _ => Below.refl _ _)
          · intro u wv hC hf
            have z0 := (HX.out _ (Below.now HBQ2.out hC)).1
            have z1 := (HX.out _ (Below.now HBQ2.out hC)).2
            have ci := (HCI.out _ hC).1
            have ck := (HCI.out _ hC).2
            obtain ⟨d5_0, -⟩ := hf
            have e5 : u 5 = _ := d5_0 rfl
            clear d5_0
            refine ⟨wanted_at rfl rfl rfl e5 rfl, ?_⟩
            go_simp
            try rfl
          conv => arg 8; simp only [List.cons_append, List.nil_append]
          apply each_readG (fun _ => Below.refl _ _)
          · intro u wv hC hf
            have z0 := (HX.out _ (Below.now HBQ2.out hC)).1
            have z1 := (HX.out _ (Below.now HBQ2.out hC)).2
            have ci := (HCI.out _ hC).1
            have ck := (HCI.out _ hC).2
            obtain ⟨d5_0, -⟩ := hf
            have e5 : u 5 = _ := d5_0 rfl
            clear d5_0
            refine ⟨wanted_at rfl rfl rfl e5 rfl, ?_⟩
            go_simp
            try rfl
          conv => arg 8; simp only [List.cons_append, List.nil_append]
          apply each_callRG
          · intro u wv hC hf
            have z0 := (HX.out _ (Below.now HBQ2.out hC)).1
            have z1 := (HX.out _ (Below.now HBQ2.out hC)).2
            have ci := (HCI.out _ hC).1
            have ck := (HCI.out _ hC).2
            obtain ⟨d15_0, d16_1, d17_2, d18_3, d5_4, d5_5, -⟩ := hf
            have e15 : u 15 = _ := d15_0 rfl
            clear d15_0
            have e16 : u 16 = _ := d16_1 rfl
            clear d16_1
            have e17 : u 17 = _ := d17_2 rfl
            clear d17_2
            have e18 : u 18 = _ := d18_3 rfl
            clear d18_3
            have e5 : u 5 = _ := d5_4 rfl
            clear d5_4
            clear d5_5
            refine ⟨wanted_at rfl rfl rfl e5 rfl, ?_⟩
            apply Exists.intro; apply Exists.intro; apply And.intro
            · go_simp; exact ⟨rfl, rfl⟩
            · refine (HAR.out _ (HZW.out _ (Below.now HBQ2.out hC))).mono ?_
              rintro e w3 ⟨rfl, hb⟩
              exact ⟨rfl, Below.now hC hb, hb⟩
          conv => arg 8; simp only [List.cons_append, List.nil_append]
          apply each_readG (fun _ => Below.refl _ _)
          · intro u wv hC hf
            have z0 := (HX.out _ (Below.now HBQ2.out hC)).1
            have z1 := (HX.out _ (Below.now HBQ2.out hC)).2
            have ci := (HCI.out _ hC).1
            have ck := (HCI.out _ hC).2
            obtain ⟨d14_0, d19_1, d5_2, -⟩ := hf
            have e14 : u 14 = _ := d14_0 rfl
            clear d14_0
            have e19 : u 19 = _ := d19_1 rfl
            clear d19_1
            have e5 : u 5 = _ := d5_2 rfl
            clear d5_2
            refine ⟨wanted_at rfl rfl rfl e5 rfl, ?_⟩
            go_simp
            try rfl
          conv => arg 8; simp only [List.cons_append, List.nil_append]
          apply each_read (fun _ => Below.refl _ _) rfl
          · intro u wv hC hf
            have z0 := (HX.out _ (Below.now HBQ2.out hC)).1
            have z1 := (HX.out _ (Below.now HBQ2.out hC)).2
            have ci := (HCI.out _ hC).1
            have ck := (HCI.out _ hC).2
            obtain ⟨d5_0, d20_1, -⟩ := hf
            have e5 : u 5 = _ := d5_0 rfl
            clear d5_0
            have e20 : u 20 = _ := d20_1 rfl
            clear d20_1
            go_simp
            try rfl
          conv => arg 8; simp only [List.cons_append, List.nil_append]
          apply each_read (fun _ => Below.refl _ _) rfl
          · intro u wv hC hf
            have z0 := (HX.out _ (Below.now HBQ2.out hC)).1
            have z1 := (HX.out _ (Below.now HBQ2.out hC)).2
            have ci := (HCI.out _ hC).1
            have ck := (HCI.out _ hC).2
            obtain ⟨d21_0, d19_1, -⟩ := hf
            have e21 : u 21 = _ := d21_0 rfl
            clear d21_0
            have e19 : u 19 = _ := d19_1 rfl
            clear d19_1
            go_simp
            try rfl
          conv => arg 8; simp only [List.cons_append, List.nil_append]
          apply each_readG (fun _ => Below.refl _ _)
          · intro u wv hC hf
            have z0 := (HX.out _ (Below.now HBQ2.out hC)).1
            have z1 := (HX.out _ (Below.now HBQ2.out hC)).2
            have ci := (HCI.out _ hC).1
            have ck := (HCI.out _ hC).2
            obtain ⟨d22_0, -⟩ := hf
            have e22 : u 22 = _ := d22_0 rfl
            clear d22_0
            refine ⟨wanted_at rfl rfl rfl e22 rfl, ?_⟩
            go_simp
            try rfl
          conv => arg 8; simp only [List.cons_append, List.nil_append]
          apply each_readG (fun _ => Below.refl _ _)
          · intro u wv hC hf
            have z0 := (HX.out _ (Below.now HBQ2.out hC)).1
            have z1 := (HX.out _ (Below.now HBQ2.out hC)).2
            have ci := (HCI.out _ hC).1
            have ck := (HCI.out _ hC).2
            obtain ⟨d22_0, -⟩ := hf
            have e22 : u 22 = _ := d22_0 rfl
            clear d22_0
            refine ⟨wanted_at rfl rfl rfl e22 rfl, ?_⟩
            go_simp
            try rfl
          conv => arg 8; simp only [List.cons_append, List.nil_append]
          apply each_callRG
          · intro u wv hC hf
            have z0 := (HX.out _ (Below.now HBQ2.out hC)).1
            have z1 := (HX.out _ (Below.now HBQ2.out hC)).2
            have ci := (HCI.out _ hC).1
            have ck := (HCI.out _ hC).2
            obtain ⟨d23_0, d24_1, d22_2, d22_3, -⟩ := hf
            have e23 : u 23 = _ := d23_0 rfl
            clear d23_0
            have e24 : u 24 = _ := d24_1 rfl
            clear d24_1
            have e22 : u 22 = _ := d22_2 rfl
            clear d22_2
            clear d22_3
            refine ⟨wanted_at rfl rfl rfl e22 rfl, ?_⟩
            apply Exists.intro; apply Exists.intro; apply And.intro
            · go_simp; exact ⟨rfl, rfl⟩
            · refine (HCCQ.out _ (HZW.out _ (Below.now HBQ2.out hC))).mono ?_
              rintro e w3 ⟨rfl, hb⟩
              exact ⟨rfl, Below.now hC hb, hb⟩
          conv => arg 8; simp only [List.cons_append, List.nil_append]
          apply each_readG (fun _ => Below.refl _ _)
          · intro u wv hC hf
            have z0 := (HX.out _ (Below.now HBQ2.out hC)).1
            have z1 := (HX.out _ (Below.now HBQ2.out hC)).2
            have ci := (HCI.out _ hC).1
            have ck := (HCI.out _ hC).2
            obtain ⟨d25_0, d22_1, -⟩ := hf
            have e25 : u 25 = _ := d25_0 rfl
            clear d25_0
            have e22 : u 22 = _ := d22_1 rfl
            clear d22_1
            refine ⟨wanted_at rfl rfl rfl e22 rfl, ?_⟩
            go_simp
            try rfl
          conv => arg 8; simp only [List.cons_append, List.nil_append]
          apply each_read (fun _ => Below.refl _ _) rfl
          · intro u wv hC hf
            have z0 := (HX.out _ (Below.now HBQ2.out hC)).1
            have z1 := (HX.out _ (Below.now HBQ2.out hC)).2
            have ci := (HCI.out _ hC).1
            have ck := (HCI.out _ hC).2
            obtain ⟨d22_0, d26_1, -⟩ := hf
            have e22 : u 22 = _ := d22_0 rfl
            clear d22_0
            have e26 : u 26 = _ := d26_1 rfl
            clear d26_1
            go_simp
            try rfl
          intro u w9 d9 hall
          obtain ⟨a0, a1, a2, a3, a4, a5, a6, a7, a8, a9, a10, a11, a12, a13, a14, a15, a16, a17, a18, a19, a20, a21, a22, a23, a24, a25, a26, a27, -⟩ := hall
          have e0 : u 0 = _ := a0
          clear a0
          have e1 : u 1 = _ := a1
          clear a1
          have e2 : u 2 = _ := a2
          clear a2
          have e3 : u 3 = _ := a3
          clear a3
          have e4 : u 4 = _ := a4
          clear a4
          have e5 : u 5 = _ := a5
          clear a5
          have e6 : u 6 = _ := a6
          clear a6
          have e7 : u 7 = _ := a7
          clear a7
          have e8 : u 8 = _ := a8
          clear a8
          have e9 : u 9 = _ := a9
          clear a9
          have e10 : u 10 = _ := a10
          clear a10
          have e11 : u 11 = _ := a11
          clear a11
          have e12 : u 12 = _ := a12
          clear a12
          have e13 : u 13 = _ := a13
          clear a13
          have e14 : u 14 = _ := a14
          clear a14
          have e15 : u 15 = _ := a15
          clear a15
          have e16 : u 16 = _ := a16
          clear a16
          have e17 : u 17 = _ := a17
          clear a17
          have e18 : u 18 = _ := a18
          clear a18
          have e19 : u 19 = _ := a19
          clear a19
          have e20 : u 20 = _ := a20
          clear a20
          have e21 : u 21 = _ := a21
          clear a21
          have e22 : u 22 = _ := a22
          clear a22
          have e23 : u 23 = _ := a23
          clear a23
          have e24 : u 24 = _ := a24
          clear a24
          have e25 : u 25 = _ := a25
          clear a25
          have e26 : u 26 = _ := a26
          clear a26
          have e27 : u 27 = _ := a27
          clear a27
          simp only [e0, e1, e2, e3, e4, e5, e6, e7, e8, e9, e10, e11, e12, e13, e14, e15, e16, e17, e18, e19, e20, e21, e22, e23, e24, e25, e26, e27]
          clear e0 e1 e2 e3 e4 e5 e6 e7 e8 e9 e10 e11 e12 e13 e14 e15 e16 e17 e18 e19 e20 e21 e22 e23 e24 e25 e26 e27
          go_wp2_with fail
          go_roundw
          case rel => exact ⟨q + 1, by omega, by omega, by go_num, Below.now HBQ3.out d9⟩
          case measure => simp [intOf]; omega
        · have hqi : ¬ ((q : Nat) : Int) ≤ 4 := by omega
          generalize relK m zn 1 i k = b1 at *
          generalize relK m zn 2 i k = b2 at *
          generalize relK m zn 3 i k = b3 at *
          generalize relK m zn 4 i k = b4 at *
          obtain rfl : q = 5 := by omega
          go_wp2_with fail
          refine (HRA.out _ (HZW.out _ HBQ.out)).mono ?_
          rintro e wA ⟨rfl, hbn⟩
          have HBA := Lib.hid (Below.now HBQ.out hbn)
          clear z0 z1 hbn
          obtain ⟨z0, z1⟩ := HX.out _ HBA.out
          go_wp2_with fail
          cases b1
          · obtain rfl : b4 = false := h412
            refine (HRB.out _ (HZW.out _ HBA.out)).mono ?_
            rintro e we ⟨rfl, hbn⟩
            have HBE := Lib.hid (Below.now HBA.out hbn)
            clear z0 z1 hbn
            obtain ⟨z0, z1⟩ := HX.out _ HBE.out
            go_upto_region 26 with fail
            refine region_each (fun W => Below we.heap.size we W) (fun W W2 => Below W.heap.size W W2) (fun u => by simp only [fPut, Act.put, List.setIfInBounds_toArray, List.set_cons_succ, List.set_cons_zero, Nat.zero_add, Nat.reduceAdd]; rfl) (by kernel_rfl) (by kernel_rfl) (by kernel_rfl) (Below.drew (Below.refl _ _)) ?_
            apply each_read (fun _ => Below.refl _ _) rfl
            · intro u wv hC hf
              have z0 := (HX.out _ (Below.now HBE.out hC)).1
              have z1 := (HX.out _ (Below.now HBE.out hC)).2
              clear hf
              go_simp
              try rfl
            apply each_callR rfl
            · intro u wv hC hf
              have z0 := (HX.out _ (Below.now HBE.out hC)).1
              have z1 := (HX.out _ (Below.now HBE.out hC)).2
              obtain ⟨d0_0, -⟩ := hf
              have e0 : u 0 = _ := d0_0 rfl
              clear d0_0
              apply Exists.intro; apply Exists.intro; apply And.intro
              · go_simp; exact ⟨rfl, rfl⟩
              · refine (HZE.out _ (HZW.out _ (Below.now HBE.out hC))).mono ?_
                rintro e w3 ⟨rfl, hb⟩
                exact ⟨rfl, Below.now hC hb, hb⟩
            conv => arg 8; simp only [List.cons_append, List.nil_append]
            apply each_read (fun _ => Below.refl _ _) rfl
            · intro u wv hC hf
              have z0 := (HX.out _ (Below.now HBE.out hC)).1
              have z1 := (HX.out _ (Below.now HBE.out hC)).2
              obtain ⟨d1_0, -⟩ := hf
              have e1 : u 1 = _ := d1_0 rfl
              clear d1_0
              go_simp
              try rfl
            conv => arg 8; simp only [List.cons_append, List.nil_append]
            apply each_read (fun _ => Below.refl _ _) rfl
            · intro u wv hC hf
              have z0 := (HX.out _ (Below.now HBE.out hC)).1
              have z1 := (HX.out _ (Below.now HBE.out hC)).2
              clear hf
              go_simp
              try rfl
            conv => arg 8; simp only [List.cons_append, List.nil_append]
            apply each_read (fun _ => Below.refl _ _) rfl
            · intro u wv hC hf
              have z0 := (HX.out _ (Below.now HBE.out hC)).1
              have z1 := (HX.out _ (Below.now HBE.out hC)).2
              obtain ⟨d3_0, -⟩ := hf
              have e3 : u 3 = _ := d3_0 rfl
              clear d3_0
              go_simp
              try rfl
            conv => arg 8; simp only [List.cons_append, List.nil_append]
            apply each_read (fun _ => Below.refl _ _) rfl
            · intro u wv hC hf
              have z0 := (HX.out _ (Below.now HBE.out hC)).1
              have z1 := (HX.out _ (Below.now HBE.out hC)).2
              obtain ⟨d4_0, -⟩ := hf
              have e4 : u 4 = _ := d4_0 rfl
              clear d4_0
              go_simp
              try rfl
            conv => arg 8; simp only [List.cons_append, List.nil_append]
            apply each_read (fun _ => Below.refl _ _) rfl
            · intro u wv hC hf
              have z0 := (HX.out _ (Below.now HBE.out hC)).1
              have z1 := (HX.out _ (Below.now HBE.out hC)).2
              obtain ⟨d2_0, d5_1, -⟩ := hf
              have e2 : u 2 = _ := d2_0 rfl
              clear d2_0
              have e5 : u 5 = _ := d5_1 rfl
              clear d5_1
              go_simp
              try rfl
            conv => arg 8; simp only [List.cons_append, List.nil_append]
            apply each_read (fun _ => Below.refl _ _) rfl
            · intro u wv hC hf
              have z0 := (HX.out _ (Below.now HBE.out hC)).1
              have z1 := (HX.out _ (Below.now HBE.out hC)).2
              obtain ⟨d6_0, d1_1, -⟩ := hf
              have e6 : u 6 = _ := d6_0 rfl
              clear d6_0
              have e1 : u 1 = _ := d1_1 rfl
              clear d1_1
              go_simp
              try rfl
            conv => arg 8; simp only [List.cons_append, List.nil_append]
            apply each_readG (fun _ => Below.refl _ _)
            · intro u wv hC hf
              have z0 := (HX.out _ (Below.now HBE.out hC)).1
              have z1 := (HX.out _ (Below.now HBE.out hC)).2
              obtain ⟨d7_0, -⟩ := hf
              have e7 : u 7 = _ := d7_0 rfl
              clear d7_0
              refine ⟨wanted_at rfl rfl rfl e7 rfl, ?_⟩
              go_simp
              try rfl
            conv => arg 8; simp only [List.cons_append, List.nil_append]
            apply each_callRG
            · intro u wv hC hf
              have z0 := (HX.out _ (Below.now HBE.out hC)).1
              have z1 := (HX.out _ (Below.now HBE.out hC)).2
              obtain ⟨d8_0, d7_1, d7_2, -⟩ := hf
              have e8 : u 8 = _ := d8_0 rfl
              clear d8_0
              have e7 : u 7 = _ := d7_1 rfl
              clear d7_1
              clear d7_2
              refine ⟨wanted_at rfl rfl rfl e7 rfl, ?_⟩
              apply Exists.intro; apply Exists.intro; apply And.intro
              · go_simp; exact ⟨rfl, rfl⟩
              · refine (HC4.out _ (HZW.out _ (Below.now HBE.out hC))).mono ?_
                rintro e w3 ⟨rfl, hb⟩
                exact ⟨rfl, Below.now hC hb, hb⟩
            conv => arg 8; simp only [List.cons_append, List.nil_append]
            apply each_readG (fun _ => Below.refl _ _)
            · intro u wv hC hf
              have z0 := (HX.out _ (Below.now HBE.out hC)).1
              have z1 := (HX.out _ (Below.now HBE.out hC)).2
              obtain ⟨d7_0, -⟩ := hf
              have e7 : u 7 = _ := d7_0 rfl
              clear d7_0
              refine ⟨wanted_at rfl rfl rfl e7 rfl, ?_⟩
              go_simp
              try rfl
            conv => arg 8; simp only [List.cons_append, List.nil_append]
            apply each_callRG
            · intro u wv hC hf
              have z0 := (HX.out _ (Below.now HBE.out hC)).1
              have z1 := (HX.out _ (Below.now HBE.out hC)).2
              obtain ⟨d10_0, d9_1, d7_2, -⟩ := hf
              have e10 : u 10 = _ := d10_0 rfl
              clear d10_0
              have e9 : u 9 = _ := d9_1 rfl
              clear d9_1
              have e7 : u 7 = _ := d7_2 rfl
              clear d7_2
              refine ⟨wanted_at rfl rfl rfl e7 rfl, ?_⟩
              apply Exists.intro; apply Exists.intro; apply And.intro
              · go_simp; exact ⟨rfl, rfl⟩
              · refine (HC3.out _ (HZW.out _ (Below.now HBE.out hC))).mono ?_
                rintro e w3 ⟨rfl, hb⟩
                exact ⟨rfl, Below.now hC hb, hb⟩
            conv => arg 8; simp only [List.cons_append, List.nil_append]
            apply each_readG (fun _ => Below.refl _ _)
            · intro u wv hC hf
              have z0 := (HX.out _ (Below.now HBE.out hC)).1
              have z1 := (HX.out _ (Below.now HBE.out hC)).2
              obtain ⟨d9_0, d11_1, d7_2, -⟩ := hf
              have e9 : u 9 = _ := d9_0 rfl
              clear d9_0
              have e11 : u 11 = _ := d11_1 rfl
              clear d11_1
              have e7 : u 7 = _ := d7_2 rfl
              clear d7_2
              refine ⟨wanted_at rfl rfl rfl e7 rfl, ?_⟩
              go_simp
              try rfl
            conv => arg 8; simp only [List.cons_append, List.nil_append]
            apply each_read (fun _ => Below.refl _ _) rfl
            · intro u wv hC hf
              have z0 := (HX.out _ (Below.now HBE.out hC)).1
              have z1 := (HX.out _ (Below.now HBE.out hC)).2
              obtain ⟨d7_0, d12_1, -⟩ := hf
              have e7 : u 7 = _ := d7_0 rfl
              clear d7_0
              have e12 : u 12 = _ := d12_1 rfl
              clear d12_1
              go_simp
              try rfl
            conv => arg 8; simp only [List.cons_append, List.nil_append]
            apply each_read (fun _ => Below.refl _ _) rfl
            · intro u wv hC hf
              have z0 := (HX.out _ (Below.now HBE.out hC)).1
              have z1 := (HX.out _ (Below.now HBE.out hC)).2
              obtain ⟨d13_0, d11_1, d0_2, d1_3, d2_4, d3_5, d4_6, d5_7, d6_8, d7_9, d8_10, d9_11, d10_12, d11_13, d12_14, d13_15, -⟩ := hf
              have e13 : u 13 = _ := d13_0 rfl
              clear d13_0
              have e11 : u 11 = _ := d11_1 rfl
              clear d11_1
              have e0 : u 0 = _ := d0_2 rfl
              clear d0_2
              have e1 : u 1 = _ := d1_3 rfl
              clear d1_3
              have e2 : u 2 = _ := d2_4 rfl
              clear d2_4
              have e3 : u 3 = _ := d3_5 rfl
              clear d3_5
              have e4 : u 4 = _ := d4_6 rfl
              clear d4_6
              have e5 : u 5 = _ := d5_7 rfl
              clear d5_7
              have e6 : u 6 = _ := d6_8 rfl
              clear d6_8
              have e7 : u 7 = _ := d7_9 rfl
              clear d7_9
              have e8 : u 8 = _ := d8_10 rfl
              clear d8_10
              have e9 : u 9 = _ := d9_11 rfl
              clear d9_11
              have e10 : u 10 = _ := d10_12 rfl
              clear d10_12
              clear d11_13
              have e12 : u 12 = _ := d12_14 rfl
              clear d12_14
              clear d13_15
              go_simp
              try rfl
            intro u wf hbf hall
            obtain ⟨a0, a1, a2, a3, a4, a5, a6, a7, a8, a9, a10, a11, a12, a13, a14, -⟩ := hall
            have e0 : u 0 = _ := a0
            clear a0
            have e1 : u 1 = _ := a1
            clear a1
            have e2 : u 2 = _ := a2
            clear a2
            have e3 : u 3 = _ := a3
            clear a3
            have e4 : u 4 = _ := a4
            clear a4
            have e5 : u 5 = _ := a5
            clear a5
            have e6 : u 6 = _ := a6
            clear a6
            have e7 : u 7 = _ := a7
            clear a7
            have e8 : u 8 = _ := a8
            clear a8
            have e9 : u 9 = _ := a9
            clear a9
            have e10 : u 10 = _ := a10
            clear a10
            have e11 : u 11 = _ := a11
            clear a11
            have e12 : u 12 = _ := a12
            clear a12
            have e13 : u 13 = _ := a13
            clear a13
            have e14 : u 14 = _ := a14
            clear a14
            simp only [e0, e1, e2, e3, e4, e5, e6, e7, e8, e9, e10, e11, e12, e13, e14]
            clear e0 e1 e2 e3 e4 e5 e6 e7 e8 e9 e10 e11 e12 e13 e14
            have HBF := Lib.hid (Below.now HB1.out (Below.now HW2.out (Below.now HBE.out hbf)))
            go_wp2_with fail
            go_ret
            exact ⟨rfl, HBF.out⟩
          · refine (HRB.out _ (HZW.out _ HBA.out)).mono ?_
            rintro e wB ⟨rfl, hbn⟩
            have HBB := Lib.hid (Below.now HBA.out hbn)
            clear z0 z1 hbn
            obtain ⟨z0, z1⟩ := HX.out _ HBB.out
            go_wp2_with fail
            cases b2
            · obtain rfl : b4 = false := h412
              refine (HRC.out _ (HZW.out _ HBB.out)).mono ?_
              rintro e we ⟨rfl, hbn⟩
              have HBE := Lib.hid (Below.now HBB.out hbn)
              clear z0 z1 hbn
              obtain ⟨z0, z1⟩ := HX.out _ HBE.out
              go_upto_region 26 with fail
              refine region_each (fun W => Below we.heap.size we W) (fun W W2 => Below W.heap.size W W2) (fun u => by simp only [fPut, Act.put, List.setIfInBounds_toArray, List.set_cons_succ, List.set_cons_zero, Nat.zero_add, Nat.reduceAdd]; rfl) (by kernel_rfl) (by kernel_rfl) (by kernel_rfl) (Below.drew (Below.refl _ _)) ?_
              apply each_read (fun _ => Below.refl _ _) rfl
              · intro u wv hC hf
                have z0 := (HX.out _ (Below.now HBE.out hC)).1
                have z1 := (HX.out _ (Below.now HBE.out hC)).2
                clear hf
                go_simp
                try rfl
              apply each_callR rfl
              · intro u wv hC hf
                have z0 := (HX.out _ (Below.now HBE.out hC)).1
                have z1 := (HX.out _ (Below.now HBE.out hC)).2
                obtain ⟨d0_0, -⟩ := hf
                have e0 : u 0 = _ := d0_0 rfl
                clear d0_0
                apply Exists.intro; apply Exists.intro; apply And.intro
                · go_simp; exact ⟨rfl, rfl⟩
                · refine (HZE.out _ (HZW.out _ (Below.now HBE.out hC))).mono ?_
                  rintro e w3 ⟨rfl, hb⟩
                  exact ⟨rfl, Below.now hC hb, hb⟩
              conv => arg 8; simp only [List.cons_append, List.nil_append]
              apply each_read (fun _ => Below.refl _ _) rfl
              · intro u wv hC hf
                have z0 := (HX.out _ (Below.now HBE.out hC)).1
                have z1 := (HX.out _ (Below.now HBE.out hC)).2
                obtain ⟨d1_0, -⟩ := hf
                have e1 : u 1 = _ := d1_0 rfl
                clear d1_0
                go_simp
                try rfl
              conv => arg 8; simp only [List.cons_append, List.nil_append]
              apply each_read (fun _ => Below.refl _ _) rfl
              · intro u wv hC hf
                have z0 := (HX.out _ (Below.now HBE.out hC)).1
                have z1 := (HX.out _ (Below.now HBE.out hC)).2
                clear hf
                go_simp
                try rfl
              conv => arg 8; simp only [List.cons_append, List.nil_append]
              apply each_read (fun _ => Below.refl _ _) rfl
              · intro u wv hC hf
                have z0 := (HX.out _ (Below.now HBE.out hC)).1
                have z1 := (HX.out _ (Below.now HBE.out hC)).2
                obtain ⟨d3_0, -⟩ := hf
                have e3 : u 3 = _ := d3_0 rfl
                clear d3_0
                go_simp
                try rfl
              conv => arg 8; simp only [List.cons_append, List.nil_append]
              apply each_read (fun _ => Below.refl _ _) rfl
              · intro u wv hC hf
                have z0 := (HX.out _ (Below.now HBE.out hC)).1
                have z1 := (HX.out _ (Below.now HBE.out hC)).2
                obtain ⟨d4_0, -⟩ := hf
                have e4 : u 4 = _ := d4_0 rfl
                clear d4_0
                go_simp
                try rfl
              conv => arg 8; simp only [List.cons_append, List.nil_append]
              apply each_read (fun _ => Below.refl _ _) rfl
              · intro u wv hC hf
                have z0 := (HX.out _ (Below.now HBE.out hC)).1
                have z1 := (HX.out _ (Below.now HBE.out hC)).2
                obtain ⟨d2_0, d5_1, -⟩ := hf
                have e2 : u 2 = _ := d2_0 rfl
                clear d2_0
                have e5 : u 5 = _ := d5_1 rfl
                clear d5_1
                go_simp
                try rfl
              conv => arg 8; simp only [List.cons_append, List.nil_append]
              apply each_read (fun _ => Below.refl _ _) rfl
              · intro u wv hC hf
                have z0 := (HX.out _ (Below.now HBE.out hC)).1
                have z1 := (HX.out _ (Below.now HBE.out hC)).2
                obtain ⟨d6_0, d1_1, -⟩ := hf
                have e6 : u 6 = _ := d6_0 rfl
                clear d6_0
                have e1 : u 1 = _ := d1_1 rfl
                clear d1_1
                go_simp
                try rfl
              conv => arg 8; simp only [List.cons_append, List.nil_append]
              apply each_readG (fun _ => Below.refl _ _)
              · intro u wv hC hf
                have z0 := (HX.out _ (Below.now HBE.out hC)).1
                have z1 := (HX.out _ (Below.now HBE.out hC)).2
                obtain ⟨d7_0, -⟩ := hf
                have e7 : u 7 = _ := d7_0 rfl
                clear d7_0
                refine ⟨wanted_at rfl rfl rfl e7 rfl, ?_⟩
                go_simp
                try rfl
              conv => arg 8; simp only [List.cons_append, List.nil_append]
              apply each_callRG
              · intro u wv hC hf
                have z0 := (HX.out _ (Below.now HBE.out hC)).1
                have z1 := (HX.out _ (Below.now HBE.out hC)).2
                obtain ⟨d8_0, d7_1, d7_2, -⟩ := hf
                have e8 : u 8 = _ := d8_0 rfl
                clear d8_0
                have e7 : u 7 = _ := d7_1 rfl
                clear d7_1
                clear d7_2
                refine ⟨wanted_at rfl rfl rfl e7 rfl, ?_⟩
                apply Exists.intro; apply Exists.intro; apply And.intro
                · go_simp; exact ⟨rfl, rfl⟩
                · refine (HC4.out _ (HZW.out _ (Below.now HBE.out hC))).mono ?_
                  rintro e w3 ⟨rfl, hb⟩
                  exact ⟨rfl, Below.now hC hb, hb⟩
              conv => arg 8; simp only [List.cons_append, List.nil_append]
              apply each_readG (fun _ => Below.refl _ _)
              · intro u wv hC hf
                have z0 := (HX.out _ (Below.now HBE.out hC)).1
                have z1 := (HX.out _ (Below.now HBE.out hC)).2
                obtain ⟨d7_0, -⟩ := hf
                have e7 : u 7 = _ := d7_0 rfl
                clear d7_0
                refine ⟨wanted_at rfl rfl rfl e7 rfl, ?_⟩
                go_simp
                try rfl
              conv => arg 8; simp only [List.cons_append, List.nil_append]
              apply each_callRG
              · intro u wv hC hf
                have z0 := (HX.out _ (Below.now HBE.out hC)).1
                have z1 := (HX.out _ (Below.now HBE.out hC)).2
                obtain ⟨d10_0, d9_1, d7_2, -⟩ := hf
                have e10 : u 10 = _ := d10_0 rfl
                clear d10_0
                have e9 : u 9 = _ := d9_1 rfl
                clear d9_1
                have e7 : u 7 = _ := d7_2 rfl
                clear d7_2
                refine ⟨wanted_at rfl rfl rfl e7 rfl, ?_⟩
                apply Exists.intro; apply Exists.intro; apply And.intro
                · go_simp; exact ⟨rfl, rfl⟩
                · refine (HC3.out _ (HZW.out _ (Below.now HBE.out hC))).mono ?_
                  rintro e w3 ⟨rfl, hb⟩
                  exact ⟨rfl, Below.now hC hb, hb⟩
              conv => arg 8; simp only [List.cons_append, List.nil_append]
              apply each_readG (fun _ => Below.refl _ _)
              · intro u wv hC hf
                have z0 := (HX.out _ (Below.now HBE.out hC)).1
                have z1 := (HX.out _ (Below.now HBE.out hC)).2
                obtain ⟨d9_0, d11_1, d7_2, -⟩ := hf
                have e9 : u 9 = _ := d9_0 rfl
                clear d9_0
                have e11 : u 11 = _ := d11_1 rfl
                clear d11_1
                have e7 : u 7 = _ := d7_2 rfl
                clear d7_2
                refine ⟨wanted_at rfl rfl rfl e7 rfl, ?_⟩
                go_simp
                try rfl
              conv => arg 8; simp only [List.cons_append, List.nil_append]
              apply each_read (fun _ => Below.refl _ _) rfl
              · intro u wv hC hf
                have z0 := (HX.out _ (Below.now HBE.out hC)).1
                have z1 := (HX.out _ (Below.now HBE.out hC)).2
                obtain ⟨d7_0, d12_1, -⟩ := hf
                have e7 : u 7 = _ := d7_0 rfl
                clear d7_0
                have e12 : u 12 = _ := d12_1 rfl
                clear d12_1
                go_simp
                try rfl
              conv => arg 8; simp only [List.cons_append, List.nil_append]
              apply each_read (fun _ => Below.refl _ _) rfl
              · intro u wv hC hf
                have z0 := (HX.out _ (Below.now HBE.out hC)).1
                have z1 := (HX.out _ (Below.now HBE.out hC)).2
                obtain ⟨d13_0, d11_1, d0_2, d1_3, d2_4, d3_5, d4_6, d5_7, d6_8, d7_9, d8_10, d9_11, d10_12, d11_13, d12_14, d13_15, -⟩ := hf
                have e13 : u 13 = _ := d13_0 rfl
                clear d13_0
                have e11 : u 11 = _ := d11_1 rfl
                clear d11_1
                have e0 : u 0 = _ := d0_2 rfl
                clear d0_2
                have e1 : u 1 = _ := d1_3 rfl
                clear d1_3
                have e2 : u 2 = _ := d2_4 rfl
                clear d2_4
                have e3 : u 3 = _ := d3_5 rfl
                clear d3_5
                have e4 : u 4 = _ := d4_6 rfl
                clear d4_6
                have e5 : u 5 = _ := d5_7 rfl
                clear d5_7
                have e6 : u 6 = _ := d6_8 rfl
                clear d6_8
                have e7 : u 7 = _ := d7_9 rfl
                clear d7_9
                have e8 : u 8 = _ := d8_10 rfl
                clear d8_10
                have e9 : u 9 = _ := d9_11 rfl
                clear d9_11
                have e10 : u 10 = _ := d10_12 rfl
                clear d10_12
                clear d11_13
                have e12 : u 12 = _ := d12_14 rfl
                clear d12_14
                clear d13_15
                go_simp
                try rfl
              intro u wf hbf hall
              obtain ⟨a0, a1, a2, a3, a4, a5, a6, a7, a8, a9, a10, a11, a12, a13, a14, -⟩ := hall
              have e0 : u 0 = _ := a0
              clear a0
              have e1 : u 1 = _ := a1
              clear a1
              have e2 : u 2 = _ := a2
              clear a2
              have e3 : u 3 = _ := a3
              clear a3
              have e4 : u 4 = _ := a4
              clear a4
              have e5 : u 5 = _ := a5
              clear a5
              have e6 : u 6 = _ := a6
              clear a6
              have e7 : u 7 = _ := a7
              clear a7
              have e8 : u 8 = _ := a8
              clear a8
              have e9 : u 9 = _ := a9
              clear a9
              have e10 : u 10 = _ := a10
              clear a10
              have e11 : u 11 = _ := a11
              clear a11
              have e12 : u 12 = _ := a12
              clear a12
              have e13 : u 13 = _ := a13
              clear a13
              have e14 : u 14 = _ := a14
              clear a14
              simp only [e0, e1, e2, e3, e4, e5, e6, e7, e8, e9, e10, e11, e12, e13, e14]
              clear e0 e1 e2 e3 e4 e5 e6 e7 e8 e9 e10 e11 e12 e13 e14
              have HBF := Lib.hid (Below.now HB1.out (Below.now HW2.out (Below.now HBE.out hbf)))
              go_wp2_with fail
              go_ret
              exact ⟨rfl, HBF.out⟩
            · obtain rfl : b4 = true := h412
              obtain rfl : b3 = true := h43 rfl
              refine (HRC.out _ (HZW.out _ HBB.out)).mono ?_
              rintro e wC ⟨rfl, hbn⟩
              have HBC := Lib.hid (Below.now HBB.out hbn)
              clear z0 z1 hbn
              obtain ⟨z0, z1⟩ := HX.out _ HBC.out
              go_wp2_with fail
              refine (HRD.out _ (HZW.out _ HBC.out)).mono ?_
              rintro e we ⟨rfl, hbn⟩
              have HBE := Lib.hid (Below.now HBC.out hbn)
              clear z0 z1 hbn
              obtain ⟨z0, z1⟩ := HX.out _ HBE.out
              go_upto_region 26 with fail
              refine region_each (fun W => Below we.heap.size we W) (fun W W2 => Below W.heap.size W W2) (fun u => by simp only [fPut, Act.put, List.setIfInBounds_toArray, List.set_cons_succ, List.set_cons_zero, Nat.zero_add, Nat.reduceAdd]; rfl) (by kernel_rfl) (by kernel_rfl) (by kernel_rfl) (Below.drew (Below.refl _ _)) ?_
              apply each_read (fun _ => Below.refl _ _) rfl
              · intro u wv hC hf
                have z0 := (HX.out _ (Below.now HBE.out hC)).1
                have z1 := (HX.out _ (Below.now HBE.out hC)).2
                clear hf
                go_simp
                try rfl
              apply each_callR rfl
              · intro u wv hC hf
                have z0 := (HX.out _ (Below.now HBE.out hC)).1
                have z1 := (HX.out _ (Below.now HBE.out hC)).2
                obtain ⟨d0_0, -⟩ := hf
                have e0 : u 0 = _ := d0_0 rfl
                clear d0_0
                apply Exists.intro; apply Exists.intro; apply And.intro
                · go_simp; exact ⟨rfl, rfl⟩
                · refine (HZE.out _ (HZW.out _ (Below.now HBE.out hC))).mono ?_
                  rintro e w3 ⟨rfl, hb⟩
                  exact ⟨rfl, Below.now hC hb, hb⟩
              conv => arg 8; simp only [List.cons_append, List.nil_append]
              apply each_read (fun _ => Below.refl _ _) rfl
              · intro u wv hC hf
                have z0 := (HX.out _ (Below.now HBE.out hC)).1
                have z1 := (HX.out _ (Below.now HBE.out hC)).2
                obtain ⟨d1_0, -⟩ := hf
                have e1 : u 1 = _ := d1_0 rfl
                clear d1_0
                go_simp
                try rfl
              conv => arg 8; simp only [List.cons_append, List.nil_append]
              apply each_read (fun _ => Below.refl _ _) rfl
              · intro u wv hC hf
                have z0 := (HX.out _ (Below.now HBE.out hC)).1
                have z1 := (HX.out _ (Below.now HBE.out hC)).2
                clear hf
                go_simp
                try rfl
              conv => arg 8; simp only [List.cons_append, List.nil_append]
              apply each_read (fun _ => Below.refl _ _) rfl
              · intro u wv hC hf
                have z0 := (HX.out _ (Below.now HBE.out hC)).1
                have z1 := (HX.out _ (Below.now HBE.out hC)).2
                obtain ⟨d3_0, -⟩ := hf
                have e3 : u 3 = _ := d3_0 rfl
                clear d3_0
                go_simp
                try rfl
              conv => arg 8; simp only [List.cons_append, List.nil_append]
              apply each_read (fun _ => Below.refl _ _) rfl
              · intro u wv hC hf
                have z0 := (HX.out _ (Below.now HBE.out hC)).1
                have z1 := (HX.out _ (Below.now HBE.out hC)).2
                obtain ⟨d4_0, -⟩ := hf
                have e4 : u 4 = _ := d4_0 rfl
                clear d4_0
                go_simp
                try rfl
              conv => arg 8; simp only [List.cons_append, List.nil_append]
              apply each_read (fun _ => Below.refl _ _) rfl
              · intro u wv hC hf
                have z0 := (HX.out _ (Below.now HBE.out hC)).1
                have z1 := (HX.out _ (Below.now HBE.out hC)).2
                obtain ⟨d2_0, d5_1, -⟩ := hf
                have e2 : u 2 = _ := d2_0 rfl
                clear d2_0
                have e5 : u 5 = _ := d5_1 rfl
                clear d5_1
                go_simp
                try rfl
              conv => arg 8; simp only [List.cons_append, List.nil_append]
              apply each_read (fun _ => Below.refl _ _) rfl
              · intro u wv hC hf
                have z0 := (HX.out _ (Below.now HBE.out hC)).1
                have z1 := (HX.out _ (Below.now HBE.out hC)).2
                obtain ⟨d6_0, d1_1, -⟩ := hf
                have e6 : u 6 = _ := d6_0 rfl
                clear d6_0
                have e1 : u 1 = _ := d1_1 rfl
                clear d1_1
                go_simp
                try rfl
              conv => arg 8; simp only [List.cons_append, List.nil_append]
              apply each_readG (fun _ => Below.refl _ _)
              · intro u wv hC hf
                have z0 := (HX.out _ (Below.now HBE.out hC)).1
                have z1 := (HX.out _ (Below.now HBE.out hC)).2
                obtain ⟨d7_0, -⟩ := hf
                have e7 : u 7 = _ := d7_0 rfl
                clear d7_0
                refine ⟨wanted_at rfl rfl rfl e7 rfl, ?_⟩
                go_simp
                try rfl
              conv => arg 8; simp only [List.cons_append, List.nil_append]
              apply each_callRG
              · intro u wv hC hf
                have z0 := (HX.out _ (Below.now HBE.out hC)).1
                have z1 := (HX.out _ (Below.now HBE.out hC)).2
                obtain ⟨d8_0, d7_1, d7_2, -⟩ := hf
                have e8 : u 8 = _ := d8_0 rfl
                clear d8_0
                have e7 : u 7 = _ := d7_1 rfl
                clear d7_1
                clear d7_2
                refine ⟨wanted_at rfl rfl rfl e7 rfl, ?_⟩
                apply Exists.intro; apply Exists.intro; apply And.intro
                · go_simp; exact ⟨rfl, rfl⟩
                · refine (HC4.out _ (HZW.out _ (Below.now HBE.out hC))).mono ?_
                  rintro e w3 ⟨rfl, hb⟩
                  exact ⟨rfl, Below.now hC hb, hb⟩
              conv => arg 8; simp only [List.cons_append, List.nil_append]
              apply each_readG (fun _ => Below.refl _ _)
              · intro u wv hC hf
                have z0 := (HX.out _ (Below.now HBE.out hC)).1
                have z1 := (HX.out _ (Below.now HBE.out hC)).2
                obtain ⟨d7_0, -⟩ := hf
                have e7 : u 7 = _ := d7_0 rfl
                clear d7_0
                refine ⟨wanted_at rfl rfl rfl e7 rfl, ?_⟩
                go_simp
                try rfl
              conv => arg 8; simp only [List.cons_append, List.nil_append]
              apply each_callRG
              · intro u wv hC hf
                have z0 := (HX.out _ (Below.now HBE.out hC)).1
                have z1 := (HX.out _ (Below.now HBE.out hC)).2
                obtain ⟨d10_0, d9_1, d7_2, -⟩ := hf
                have e10 : u 10 = _ := d10_0 rfl
                clear d10_0
                have e9 : u 9 = _ := d9_1 rfl
                clear d9_1
                have e7 : u 7 = _ := d7_2 rfl
                clear d7_2
                refine ⟨wanted_at rfl rfl rfl e7 rfl, ?_⟩
                apply Exists.intro; apply Exists.intro; apply And.intro
                · go_simp; exact ⟨rfl, rfl⟩
                · refine (HC3.out _ (HZW.out _ (Below.now HBE.out hC))).mono ?_
                  rintro e w3 ⟨rfl, hb⟩
                  exact ⟨rfl, Below.now hC hb, hb⟩
              conv => arg 8; simp only [List.cons_append, List.nil_append]
              apply each_readG (fun _ => Below.refl _ _)
              · intro u wv hC hf
                have z0 := (HX.out _ (Below.now HBE.out hC)).1
                have z1 := (HX.out _ (Below.now HBE.out hC)).2
                obtain ⟨d9_0, d11_1, d7_2, -⟩ := hf
                have e9 : u 9 = _ := d9_0 rfl
                clear d9_0
                have e11 : u 11 = _ := d11_1 rfl
                clear d11_1
                have e7 : u 7 = _ := d7_2 rfl
                clear d7_2
                refine ⟨wanted_at rfl rfl rfl e7 rfl, ?_⟩
                go_simp
                try rfl
              conv => arg 8; simp only [List.cons_append, List.nil_append]
              apply each_read (fun _ => Below.refl _ _) rfl
              · intro u wv hC hf
                have z0 := (HX.out _ (Below.now HBE.out hC)).1
                have z1 := (HX.out _ (Below.now HBE.out hC)).2
                obtain ⟨d7_0, d12_1, -⟩ := hf
                have e7 : u 7 = _ := d7_0 rfl
                clear d7_0
                have e12 : u 12 = _ := d12_1 rfl
                clear d12_1
                go_simp
                try rfl
              conv => arg 8; simp only [List.cons_append, List.nil_append]
              apply each_read (fun _ => Below.refl _ _) rfl
              · intro u wv hC hf
                have z0 := (HX.out _ (Below.now HBE.out hC)).1
                have z1 := (HX.out _ (Below.now HBE.out hC)).2
                obtain ⟨d13_0, d11_1, d0_2, d1_3, d2_4, d3_5, d4_6, d5_7, d6_8, d7_9, d8_10, d9_11, d10_12, d11_13, d12_14, d13_15, -⟩ := hf
                have e13 : u 13 = _ := d13_0 rfl
                clear d13_0
                have e11 : u 11 = _ := d11_1 rfl
                clear d11_1
                have e0 : u 0 = _ := d0_2 rfl
                clear d0_2
                have e1 : u 1 = _ := d1_3 rfl
                clear d1_3
                have e2 : u 2 = _ := d2_4 rfl
                clear d2_4
                have e3 : u 3 = _ := d3_5 rfl
                clear d3_5
                have e4 : u 4 = _ := d4_6 rfl
                clear d4_6
                have e5 : u 5 = _ := d5_7 rfl
                clear d5_7
                have e6 : u 6 = _ := d6_8 rfl
                clear d6_8
                have e7 : u 7 = _ := d7_9 rfl
                clear d7_9
                have e8 : u 8 = _ := d8_10 rfl
                clear d8_10
                have e9 : u 9 = _ := d9_11 rfl
                clear d9_11
                have e10 : u 10 = _ := d10_12 rfl
                clear d10_12
                clear d11_13
                have e12 : u 12 = _ := d12_14 rfl
                clear d12_14
                clear d13_15
                go_simp
                try rfl
              intro u wf hbf hall
              obtain ⟨a0, a1, a2, a3, a4, a5, a6, a7, a8, a9, a10, a11, a12, a13, a14, -⟩ := hall
              have e0 : u 0 = _ := a0
              clear a0
              have e1 : u 1 = _ := a1
              clear a1
              have e2 : u 2 = _ := a2
              clear a2
              have e3 : u 3 = _ := a3
              clear a3
              have e4 : u 4 = _ := a4
              clear a4
              have e5 : u 5 = _ := a5
              clear a5
              have e6 : u 6 = _ := a6
              clear a6
              have e7 : u 7 = _ := a7
              clear a7
              have e8 : u 8 = _ := a8
              clear a8
              have e9 : u 9 = _ := a9
              clear a9
              have e10 : u 10 = _ := a10
              clear a10
              have e11 : u 11 = _ := a11
              clear a11
              have e12 : u 12 = _ := a12
              clear a12
              have e13 : u 13 = _ := a13
              clear a13
              have e14 : u 14 = _ := a14
              clear a14
              simp only [e0, e1, e2, e3, e4, e5, e6, e7, e8, e9, e10, e11, e12, e13, e14]
              clear e0 e1 e2 e3 e4 e5 e6 e7 e8 e9 e10 e11 e12 e13 e14
              have HBF := Lib.hid (Below.now HB1.out (Below.now HW2.out (Below.now HBE.out hbf)))
              go_wp2_with fail
              go_ret
              exact ⟨rfl, HBF.out⟩
set_option maxRecDepth 100000 in
theorem walkBig (a : Option Addr) (n cap : Nat) (w : World) (hn : n ≤ 9223372036854775807) (hlen : 1048576 < n) :
    Calls Tryz.prog 4 #[.slice a n cap] w fun e w' => e = .returned (.bool true) ∧ Below w.heap.size w w' := by
  have hq0 : (1048576 : Int) < (n : Int) := by omega
  go_enter Tryz.func4, Tryz.ntmps4
  go_wp2_with fail
  go_ret
  exact ⟨rfl, Below.refl _ _⟩
end Go.Proofs.YtngbimgabcacpaaGreat.fnIdeals
