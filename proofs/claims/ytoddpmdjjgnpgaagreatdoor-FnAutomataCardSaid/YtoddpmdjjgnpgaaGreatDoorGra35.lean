/-
  The walk of 'FnAutomata'. Printed by waut.py.
-/
import Derived.Test.YtoddpmdjjgnpgaaGreatDoorGra23
import Derived.Test.YtoddpmdjjgnpgaaGreatDoorGra27
import Derived.Test.YtoddpmdjjgnpgaaGreatDoorGra29
import Derived.Test.YtoddpmdjjgnpgaaGreatDoorGra31
import Derived.Test.YtoddpmdjjgnpgaaGreatDoorGra33
import Derived.Test.YtoddpmdjjgnpgaaGreatDoorGra34
import Derived.Test.YtoddpmdjjgnpgaaGreatDoorGra10
import Derived.Test.YtoddpmdjjgnpgaaGreatDoorGra03
namespace Go.Proofs.YtoddpmdjjgnpgaaGreatDoor.fnAutomata
open Go.RowKit
set_option linter.unusedVariables false
noncomputable def pB (P : Prop) : Bool := @decide P (Classical.propDecidable P)
theorem pB_iff {P : Prop} : pB P = true ↔ P := by unfold pB; exact @decide_eq_true_iff P (Classical.propDecidable P)
theorem RetP.det {P Q : Prop} {w : World} {e : Ending} {w' : World} (hPQ : P ↔ Q) (h : RetP P w e w') : e = .returned (.bool (pB Q)) ∧ Below w.heap.size w w' := by
  obtain ⟨b, hb, rfl, hw⟩ := h
  refine ⟨?_, hw⟩
  have : b = pB Q := by rw [Bool.eq_iff_iff, pB_iff, hb]; exact hPQ
  rw [this]
theorem word_okA {k : Int} {s : ByteArray} {n : Nat} (hk : 1 ≤ k ∧ k ≤ 4) (h : allB (letB k) s = true) (hs : s.size ≤ n) (hn : n ≤ 16) : wordOkB k s = true := by
  unfold wordOkB
  simp only [Bool.and_eq_true, decide_eq_true_eq]
  refine ⟨?_, by omega, h⟩
  simp [inB]; omega
theorem lets_lt {k : Nat} {s : ByteArray} (h : wordOkB (k : Nat) s = true) : ∀ y ∈ ltrs s, y < k := fun y hy => by have := (lets_of h).2 y hy; omega
theorem two_of {f g : List Nat → Prop} {k : Nat} {s : ByteArray} (h : wordOkB (k : Nat) s = true) (hfg : f (ltrs s) ↔ g (ltrs s)) : (wordOkB (k : Nat) s = true ∧ f (ltrs s)) ↔ g (ltrs s) := ⟨fun hh => hfg.1 hh.2, fun hh => ⟨h, hfg.2 hh⟩⟩
theorem can_ok {k : Nat} {N : List Int} {F : List Bool} {nx : List Int} {fin : List Bool} (h : AutP k N F) (hc : CanIs k (accA k N F 0) nx fin) (hl : fin.length ≤ F.length) : AutP k nx fin ∧ accA k nx fin 0 = accA k N F 0 := by
  obtain ⟨h1, h2, h3, h4, _⟩ := hc.acc (fun w hw => lang_in w 0 hw)
  exact ⟨⟨⟨h.1.1, h2, by have := h.1.2.2; omega⟩, h3, h4⟩, h1⟩
theorem wanted_undef {ops : List Oper} {tmps : Array Value} {o : Oper} {j d : Nat} {b : Bool} {v : Value} (hg : o.guard = some (j, b)) (hd : (ops[j]?).bind (·.dst) = some d) (ht : tmps[d]? = some v) (hv : v = undef) : Region.wanted o (yielded ops.toArray tmps) = false := by
  subst hv
  have h1 : (ops.toArray[j]?).bind (·.dst) = some d := by simpa using hd
  have h2 : yielded ops.toArray tmps j = none := by
    unfold yielded
    rw [h1]
    show (match tmps[d]? with | some (.bool b) => some b | _ => none) = none
    rw [ht]
    rfl
  simp [Region.wanted, hg, h2]
set_option maxRecDepth 100000 in
set_option maxHeartbeats 16000000 in
theorem walkSmall (a : Option Addr) (l : List UInt8) (cap : Nat) (w : World) (hl : BytesIn w a l) (hlen : l.length ≤ 1048576) (ht : Tab10 w) :
    Calls Tryz.prog 3 #[.slice a l.length cap] w fun e w' => e = .returned (.bool true) ∧ Below w.heap.size w w' := by
  have hq0 : ¬ (1048576 : Int) < (l.length : Int) := by omega
  have HM1 := Lib.hid (specMakeSystem_any a l cap 0 w hl (by omega) (by omega))
  have HNM := Lib.hid (fun W (h : BytesIn W a l) => makeNum_any a l cap 60 W h (by omega) (by omega))
  have HMW : Hid (∀ (i kn : Nat) W, BytesIn W a l → i ≤ 1000 → 1 ≤ kn → kn ≤ 4 → Calls Tryz.prog 7 #[.slice a l.length cap, .int .i64 (i : Nat), .int .i64 (kn : Nat), .int .i64 7] W fun e w' => ∃ s : ByteArray, (allB (letB (kn : Nat)) s = true ∧ s.size ≤ 7) ∧ e = .returned (.string s) ∧ Below W.heap.size W w') := Lib.hid (fun i kn W h hi h1 h4 => makeWord_any a l cap i kn 7 W h (by omega) hi h1 h4 (by omega))
  have HMA := Lib.hid (fun i W (h : BytesIn W a l) (hi : i ≤ 1000) => specMakeAut_c a l cap i W h (by omega) hi)
  have HBY := Lib.hid hl
  have HT := Lib.hid ht
  have HB := Lib.hid (Below.refl w.heap.size w)
  clear hl ht
  go_enter Tryz.func3, Tryz.ntmps3
  go_wp2_with fail
  refine (HM1.out).mono ?_
  rintro e w1 ⟨kk, R, aR, cR, hsy, rfl, hR, hb⟩
  have hsz := sys_sizes hsy
  obtain ⟨k, rfl⟩ : ∃ k : Nat, kk = k := ⟨kk.toNat, by omega⟩
  have hk : 1 ≤ k ∧ k ≤ 4 := by omega
  replace HBY := Lib.hid (HBY.out.later hb)
  replace HT := Lib.hid (HT.out.later hb)
  replace HB := Lib.hid (Below.now HB.out hb)
  have HR := Lib.hid hR
  clear hR hb HM1
  have hb0 := alloc_belowS w1 (.cells #[.int .i64 (k : Nat), .slice aR R.length cR] 25)
  replace HBY := Lib.hid (HBY.out.later hb0)
  replace HT := Lib.hid (HT.out.later hb0)
  replace HB := Lib.hid (Below.now HB.out hb0)
  replace HR := Lib.hid (RulesIn.later HR.out hb0)
  have HXS := Lib.hid (alloc_at w1 (.cells #[.int .i64 (k : Nat), .slice aR R.length cR] 25))
  clear hb0
  go_upto_region 4 with fail
  generalize w1.alloc (.cells #[.int .i64 (k : Nat), .slice aR R.length cR] 25) = v1 at *
  generalize w1.heap.size = gS at *
  have HRD := Lib.hid (implRed_any k R aR cR v1 HR.out hsy)
  obtain ⟨x0, x1⟩ := sys_cells HXS.out
  go_wp2_with fail
  refine HRD.out.mono ?_
  rintro e w2 hred
  have hred2 : ∃ (kd : Nat) (aD : Option Addr) (nD : List Int) (cD : Nat) (aE : Option Addr) (fD : List Bool) (cE : Nat) (b : Bool), e = .returned (.tuple #[.agg #[.int .i64 (kd : Nat), .slice aD nD.length cD, .slice aE fD.length cE], .bool b]) ∧ (b = true → kd = k ∧ AutP k nD fD ∧ (∀ v, accA k nD fD 0 v ↔ accD (redD R) redF k ⟨#[]⟩ v) ∧ (∀ m, cntW k nD fD m 0 = paths R k m ⟨#[]⟩) ∧ IntsIn w2 aD nD ∧ BoolsIn w2 aE fD) ∧ Below v1.heap.size v1 w2 := by
    rcases hred with ⟨h1, h2⟩ | ⟨aN, nx, cN, aF, fin, cF, h1, h2, h3, h4, h5, h6⟩
    · exact ⟨0, none, [], 0, none, [], 0, false, h1, fun h => Bool.noConfusion h, h2⟩
    · exact ⟨k, aN, nx, cN, aF, fin, cF, true, h1, fun _ => ⟨rfl, h2, h3, h4, h5.ints, h5.bools⟩, h6⟩
  obtain ⟨kd, aD, nD, cD, aE, fD, cE, od, rfl, hd, hb⟩ := hred2
  clear hred x0 x1 HRD
  replace HBY := Lib.hid (HBY.out.later hb)
  replace HT := Lib.hid (HT.out.later hb)
  replace HB := Lib.hid (Below.now HB.out hb)
  replace HR := Lib.hid (RulesIn.later HR.out hb)
  replace HXS := Lib.hid (blk_later HXS.out hb)
  have HD : Hid (od = true → kd = k ∧ AutP k nD fD ∧ (∀ v, accA k nD fD 0 v ↔ accD (redD R) redF k ⟨#[]⟩ v) ∧ (∀ m, cntW k nD fD m 0 = paths R k m ⟨#[]⟩)) := Lib.hid (fun h => ⟨(hd h).1, (hd h).2.1, (hd h).2.2.1, (hd h).2.2.2.1⟩)
  have HDI : Hid (od = true → IntsIn w2 aD nD ∧ BoolsIn w2 aE fD) := Lib.hid (fun h => (hd h).2.2.2.2)
  clear hd hb
  have hb0 := alloc_belowS w2 (.cells #[.int .i64 (kd : Nat), .slice aD nD.length cD, .slice aE fD.length cE] 30)
  replace HBY := Lib.hid (HBY.out.later hb0)
  replace HT := Lib.hid (HT.out.later hb0)
  replace HB := Lib.hid (Below.now HB.out hb0)
  replace HR := Lib.hid (RulesIn.later HR.out hb0)
  replace HXS := Lib.hid (blk_later HXS.out hb0)
  replace HDI := Lib.hid (fun h => And.intro ((HDI.out h).1.later hb0) ((HDI.out h).2.later hb0))
  have HXD := Lib.hid (alloc_at w2 (.cells #[.int .i64 (kd : Nat), .slice aD nD.length cD, .slice aE fD.length cE] 30))
  clear hb0
  go_upto_region 5 with fail
  generalize w2.alloc (.cells #[.int .i64 (kd : Nat), .slice aD nD.length cD, .slice aE fD.length cE] 30) = v2 at *
  generalize w2.heap.size = gD at *
  obtain ⟨x0, x1⟩ := sys_cells HXS.out
  go_wp2_with fail
  refine (HMW.out 40 k _ HBY.out (by omega) hk.1 hk.2).mono ?_
  rintro e w3 ⟨u, ⟨hu1, hu2⟩, rfl, hb⟩
  have HU : Hid (wordOkB (k : Nat) u = true) := Lib.hid (word_okA (by omega) hu1 hu2 (by omega))
  clear hu1 x0 x1
  replace HBY := Lib.hid (HBY.out.later hb)
  replace HT := Lib.hid (HT.out.later hb)
  replace HB := Lib.hid (Below.now HB.out hb)
  replace HR := Lib.hid (RulesIn.later HR.out hb)
  replace HXS := Lib.hid (blk_later HXS.out hb)
  replace HDI := Lib.hid (fun h => And.intro ((HDI.out h).1.later hb) ((HDI.out h).2.later hb))
  replace HXD := Lib.hid (blk_later HXD.out hb)
  clear hb
  go_wp2_with fail
  refine (HNM.out _ HBY.out).mono ?_
  rintro e w4 ⟨x, hx, rfl, hb⟩
  replace HBY := Lib.hid (HBY.out.later hb)
  replace HT := Lib.hid (HT.out.later hb)
  replace HB := Lib.hid (Below.now HB.out hb)
  replace HR := Lib.hid (RulesIn.later HR.out hb)
  replace HXS := Lib.hid (blk_later HXS.out hb)
  replace HDI := Lib.hid (fun h => And.intro ((HDI.out h).1.later hb) ((HDI.out h).2.later hb))
  replace HXD := Lib.hid (blk_later HXD.out hb)
  clear hb HNM
  have hxe : (x : Int) % 8 = ((x % 8 : Nat) : Int) := by omega
  have hn : x % 8 < 8 := by omega
  go_upto_region 7 with fail
  rw [hxe]
  clear hxe hx
  generalize x % 8 = n at *
  go_cut [56] (fun v wx => v = .bool false ∧ Below w4.heap.size w4 wx)
  case first =>
    clear HMA HMW HT HB HBY
    cases od
    · clear HDI HD
      refine region_each (fun W => Below w4.heap.size w4 W) (fun W W2 => Below W.heap.size W W2) (fun u => by simp only [fPut, Act.put, List.setIfInBounds_toArray, List.set_cons_succ, List.set_cons_zero, Nat.zero_add, Nat.reduceAdd]; rfl) (by kernel_rfl) (by kernel_rfl) (by kernel_rfl) (Below.drew (Below.refl _ _)) ?_
      apply each_read (fun _ => Below.refl _ _) rfl
      · intro u wv hC hf
        obtain ⟨p0, p1, p2⟩ := aut_cells (blk_later HXD.out hC)
        obtain ⟨q0, q1⟩ := sys_cells (blk_later HXS.out hC)
        clear hf
        go_simp
        try rfl
      apply each_read (fun _ => Below.refl _ _) rfl
      · intro u wv hC hf
        obtain ⟨p0, p1, p2⟩ := aut_cells (blk_later HXD.out hC)
        obtain ⟨q0, q1⟩ := sys_cells (blk_later HXS.out hC)
        obtain ⟨d0_0, -⟩ := hf
        have e0 : u 0 = _ := d0_0 rfl
        clear d0_0
        go_simp
        try rfl
      conv => arg 8; simp only [List.cons_append, List.nil_append]
      refine each_off ?_ ?_
      · intro u wv hC hf
        obtain ⟨d1_0, -⟩ := hf
        have e1 : u 1 = _ := d1_0 rfl
        clear d1_0
        exact wanted_at rfl rfl rfl e1 rfl
      conv => arg 8; simp only [List.cons_append, List.nil_append]
      refine each_off ?_ ?_
      · intro u wv hC hf
        obtain ⟨d1_0, -⟩ := hf
        have e1 : u 1 = _ := d1_0 rfl
        clear d1_0
        exact wanted_at rfl rfl rfl e1 rfl
      conv => arg 8; simp only [List.cons_append, List.nil_append]
      refine each_off ?_ ?_
      · intro u wv hC hf
        obtain ⟨d2_0, d3_1, d1_2, d1_3, -⟩ := hf
        have e2 : u 2 = _ := d2_0 rfl
        clear d2_0
        have e3 : u 3 = _ := d3_1 rfl
        clear d3_1
        have e1 : u 1 = _ := d1_2 rfl
        clear d1_2
        clear d1_3
        exact wanted_at rfl rfl rfl e1 rfl
      conv => arg 8; simp only [List.cons_append, List.nil_append]
      refine each_off ?_ ?_
      · intro u wv hC hf
        obtain ⟨d1_0, -⟩ := hf
        have e1 : u 1 = _ := d1_0 rfl
        clear d1_0
        exact wanted_at rfl rfl rfl e1 rfl
      conv => arg 8; simp only [List.cons_append, List.nil_append]
      refine each_off ?_ ?_
      · intro u wv hC hf
        obtain ⟨d1_0, -⟩ := hf
        have e1 : u 1 = _ := d1_0 rfl
        clear d1_0
        exact wanted_at rfl rfl rfl e1 rfl
      conv => arg 8; simp only [List.cons_append, List.nil_append]
      refine each_off ?_ ?_
      · intro u wv hC hf
        obtain ⟨d5_0, d6_1, d4_2, d1_3, -⟩ := hf
        have e5 : u 5 = _ := d5_0 rfl
        clear d5_0
        have e6 : u 6 = _ := d6_1 rfl
        clear d6_1
        have e4 : u 4 = _ := d4_2 rfl
        clear d4_2
        have e1 : u 1 = _ := d1_3 rfl
        clear d1_3
        exact wanted_at rfl rfl rfl e1 rfl
      conv => arg 8; simp only [List.cons_append, List.nil_append]
      refine each_off ?_ ?_
      · intro u wv hC hf
        obtain ⟨d4_0, d7_1, d1_2, -⟩ := hf
        have e4 : u 4 = _ := d4_0 rfl
        clear d4_0
        have e7 : u 7 = _ := d7_1 rfl
        clear d7_1
        have e1 : u 1 = _ := d1_2 rfl
        clear d1_2
        exact wanted_at rfl rfl rfl e1 rfl
      conv => arg 8; simp only [List.cons_append, List.nil_append]
      refine each_off ?_ ?_
      · intro u wv hC hf
        obtain ⟨d8_0, d7_1, d1_2, -⟩ := hf
        have e8 : u 8 = _ := d8_0 rfl
        clear d8_0
        have e7 : u 7 = _ := d7_1 rfl
        clear d7_1
        have e1 : u 1 = _ := d1_2 rfl
        clear d1_2
        exact wanted_at rfl rfl rfl e1 rfl
      conv => arg 8; simp only [List.cons_append, List.nil_append]
      refine each_off ?_ ?_
      · intro u wv hC hf
        obtain ⟨d9_0, -⟩ := hf
        have e9 : u 9 = _ := d9_0 rfl
        clear d9_0
        exact wanted_undef rfl rfl rfl e9
      conv => arg 8; simp only [List.cons_append, List.nil_append]
      refine each_off ?_ ?_
      · intro u wv hC hf
        obtain ⟨d9_0, -⟩ := hf
        have e9 : u 9 = _ := d9_0 rfl
        clear d9_0
        exact wanted_undef rfl rfl rfl e9
      conv => arg 8; simp only [List.cons_append, List.nil_append]
      refine each_off ?_ ?_
      · intro u wv hC hf
        obtain ⟨d10_0, d11_1, d9_2, d9_3, -⟩ := hf
        have e10 : u 10 = _ := d10_0 rfl
        clear d10_0
        have e11 : u 11 = _ := d11_1 rfl
        clear d11_1
        have e9 : u 9 = _ := d9_2 rfl
        clear d9_2
        clear d9_3
        exact wanted_undef rfl rfl rfl e9
      conv => arg 8; simp only [List.cons_append, List.nil_append]
      refine each_off ?_ ?_
      · intro u wv hC hf
        obtain ⟨d9_0, -⟩ := hf
        have e9 : u 9 = _ := d9_0 rfl
        clear d9_0
        exact wanted_undef rfl rfl rfl e9
      conv => arg 8; simp only [List.cons_append, List.nil_append]
      refine each_off ?_ ?_
      · intro u wv hC hf
        obtain ⟨d9_0, -⟩ := hf
        have e9 : u 9 = _ := d9_0 rfl
        clear d9_0
        exact wanted_undef rfl rfl rfl e9
      conv => arg 8; simp only [List.cons_append, List.nil_append]
      refine each_off ?_ ?_
      · intro u wv hC hf
        obtain ⟨d13_0, d14_1, d12_2, d9_3, -⟩ := hf
        have e13 : u 13 = _ := d13_0 rfl
        clear d13_0
        have e14 : u 14 = _ := d14_1 rfl
        clear d14_1
        have e12 : u 12 = _ := d12_2 rfl
        clear d12_2
        have e9 : u 9 = _ := d9_3 rfl
        clear d9_3
        exact wanted_undef rfl rfl rfl e9
      conv => arg 8; simp only [List.cons_append, List.nil_append]
      refine each_off ?_ ?_
      · intro u wv hC hf
        obtain ⟨d12_0, d15_1, d9_2, -⟩ := hf
        have e12 : u 12 = _ := d12_0 rfl
        clear d12_0
        have e15 : u 15 = _ := d15_1 rfl
        clear d15_1
        have e9 : u 9 = _ := d9_2 rfl
        clear d9_2
        exact wanted_undef rfl rfl rfl e9
      conv => arg 8; simp only [List.cons_append, List.nil_append]
      refine each_off ?_ ?_
      · intro u wv hC hf
        obtain ⟨d9_0, d16_1, d1_2, -⟩ := hf
        have e9 : u 9 = _ := d9_0 rfl
        clear d9_0
        have e16 : u 16 = _ := d16_1 rfl
        clear d16_1
        have e1 : u 1 = _ := d1_2 rfl
        clear d1_2
        exact wanted_at rfl rfl rfl e1 rfl
      conv => arg 8; simp only [List.cons_append, List.nil_append]
      apply each_read (fun _ => Below.refl _ _) rfl
      · intro u wv hC hf
        obtain ⟨p0, p1, p2⟩ := aut_cells (blk_later HXD.out hC)
        obtain ⟨q0, q1⟩ := sys_cells (blk_later HXS.out hC)
        obtain ⟨d1_0, d17_1, -⟩ := hf
        have e1 : u 1 = _ := d1_0 rfl
        clear d1_0
        have e17 : u 17 = _ := d17_1 rfl
        clear d17_1
        go_simp
        try rfl
      intro u v9 d9 hall
      obtain ⟨a0, a1, a2, a3, a4, a5, a6, a7, a8, a9, a10, a11, a12, a13, a14, a15, a16, a17, a18, -⟩ := hall
      have e0 : u 0 = _ := a0
      clear a0
      have e1 : u 1 = _ := a1
      clear a1
      have e2 : u 2 = _ := a2
      clear a2
      have e3 : u 3 = _ := a3
      clear a3
      have e4 : u 4 = _ := a4
      clear a4
      have e5 : u 5 = _ := a5
      clear a5
      have e6 : u 6 = _ := a6
      clear a6
      have e7 : u 7 = _ := a7
      clear a7
      have e8 : u 8 = _ := a8
      clear a8
      have e9 : u 9 = _ := a9
      clear a9
      have e10 : u 10 = _ := a10
      clear a10
      have e11 : u 11 = _ := a11
      clear a11
      have e12 : u 12 = _ := a12
      clear a12
      have e13 : u 13 = _ := a13
      clear a13
      have e14 : u 14 = _ := a14
      clear a14
      have e15 : u 15 = _ := a15
      clear a15
      have e16 : u 16 = _ := a16
      clear a16
      have e17 : u 17 = _ := a17
      clear a17
      have e18 : u 18 = _ := a18
      clear a18
      simp only [e0, e1, e2, e3, e4, e5, e6, e7, e8, e9, e10, e11, e12, e13, e14, e15, e16, e17, e18]
      clear e0 e1 e2 e3 e4 e5 e6 e7 e8 e9 e10 e11 e12 e13 e14 e15 e16 e17 e18
      go_wp2_with fail
      go_meet
      exact ⟨rfl, d9⟩
    · obtain ⟨rfl, hAP, hacc, hcnt⟩ := HD.out rfl
      have HAC : Hid (∀ W, Below w4.heap.size w4 W → Calls Tryz.prog 9 #[.agg #[.int .i64 (kd : Nat), .slice aD nD.length cD, .slice aE fD.length cE], .string u] W fun e w' => e = .returned (.bool (pB ((stepsF R u).head? = none))) ∧ Below W.heap.size W w') := Lib.hid (fun W hW => (implAccepts_any kd nD fD aD aE cD cE u W ((HDI.out rfl).1.later hW) ((HDI.out rfl).2.later hW) hAP (by unfold maxLen; omega)).mono fun e w' h => RetP.det (two_of (f := accA kd nD fD 0) (g := fun _ => (stepsF R u).head? = none) HU.out ((hacc _).trans (red_word hsy HU.out))) h)
      have HIR : Hid (∀ W, Below w4.heap.size w4 W → Calls Tryz.prog 10 #[.agg #[.int .i64 (kd : Nat), .slice aR R.length cR], .string u] W fun e w' => e = .returned (.bool (pB ((stepsF R u).head? = none))) ∧ Below W.heap.size W w') := Lib.hid (fun W hW => (implIsReduced_any kd R aR cR u W (RulesIn.later HR.out hW) hsy (by omega)).mono fun e w' h => RetP.det ⟨fun h => h.2, fun h => ⟨HU.out, h⟩⟩ h)
      have HCA : Hid (∀ W, Below w4.heap.size w4 W → Calls Tryz.prog 11 #[.agg #[.int .i64 (kd : Nat), .slice aD nD.length cD, .slice aE fD.length cE], .int .i64 (n : Nat)] W fun e w' => e = .returned (.int .i64 ((paths R kd n ⟨#[]⟩ : Nat) : Int)) ∧ Below W.heap.size W w') := Lib.hid (fun W hW => by
        have h1 := implCountAcc_any kd nD fD aD aE cD cE n W ((HDI.out rfl).1.later hW) ((HDI.out rfl).2.later hW) hAP (by omega)
        rwa [hcnt] at h1)
      have HCR := Lib.hid (fun W (hW : Below w4.heap.size w4 W) => implCountRed_any kd R aR cR n W (RulesIn.later HR.out hW) hsy (by omega))
      clear hAP hacc hcnt HDI HD
      generalize pB ((stepsF R u).head? = none) = bq at *
      generalize paths R kd n ⟨#[]⟩ = cq at *
      refine region_each (fun W => Below w4.heap.size w4 W) (fun W W2 => Below W.heap.size W W2) (fun u => by simp only [fPut, Act.put, List.setIfInBounds_toArray, List.set_cons_succ, List.set_cons_zero, Nat.zero_add, Nat.reduceAdd]; rfl) (by kernel_rfl) (by kernel_rfl) (by kernel_rfl) (Below.drew (Below.refl _ _)) ?_
      apply each_read (fun _ => Below.refl _ _) rfl
      · intro u wv hC hf
        obtain ⟨p0, p1, p2⟩ := aut_cells (blk_later HXD.out hC)
        obtain ⟨q0, q1⟩ := sys_cells (blk_later HXS.out hC)
        clear hf
        go_simp
        try rfl
      apply each_read (fun _ => Below.refl _ _) rfl
      · intro u wv hC hf
        obtain ⟨p0, p1, p2⟩ := aut_cells (blk_later HXD.out hC)
        obtain ⟨q0, q1⟩ := sys_cells (blk_later HXS.out hC)
        obtain ⟨d0_0, -⟩ := hf
        have e0 : u 0 = _ := d0_0 rfl
        clear d0_0
        go_simp
        try rfl
      conv => arg 8; simp only [List.cons_append, List.nil_append]
      apply each_readG (fun _ => Below.refl _ _)
      · intro u wv hC hf
        obtain ⟨p0, p1, p2⟩ := aut_cells (blk_later HXD.out hC)
        obtain ⟨q0, q1⟩ := sys_cells (blk_later HXS.out hC)
        obtain ⟨d1_0, -⟩ := hf
        have e1 : u 1 = _ := d1_0 rfl
        clear d1_0
        refine ⟨wanted_at rfl rfl rfl e1 rfl, ?_⟩
        go_simp
        try rfl
      conv => arg 8; simp only [List.cons_append, List.nil_append]
      apply each_readG (fun _ => Below.refl _ _)
      · intro u wv hC hf
        obtain ⟨p0, p1, p2⟩ := aut_cells (blk_later HXD.out hC)
        obtain ⟨q0, q1⟩ := sys_cells (blk_later HXS.out hC)
        obtain ⟨d1_0, -⟩ := hf
        have e1 : u 1 = _ := d1_0 rfl
        clear d1_0
        refine ⟨wanted_at rfl rfl rfl e1 rfl, ?_⟩
        go_simp
        try rfl
      conv => arg 8; simp only [List.cons_append, List.nil_append]
      apply each_callRG
      · intro u wv hC hf
        obtain ⟨p0, p1, p2⟩ := aut_cells (blk_later HXD.out hC)
        obtain ⟨q0, q1⟩ := sys_cells (blk_later HXS.out hC)
        obtain ⟨d2_0, d3_1, d1_2, d1_3, -⟩ := hf
        have e2 : u 2 = _ := d2_0 rfl
        clear d2_0
        have e3 : u 3 = _ := d3_1 rfl
        clear d3_1
        have e1 : u 1 = _ := d1_2 rfl
        clear d1_2
        clear d1_3
        refine ⟨wanted_at rfl rfl rfl e1 rfl, ?_⟩
        apply Exists.intro; apply Exists.intro; apply And.intro
        · go_simp; exact ⟨rfl, rfl⟩
        · refine (HAC.out _ hC).mono ?_
          rintro e w3 ⟨rfl, hb⟩
          exact ⟨rfl, Below.now hC hb, hb⟩
      conv => arg 8; simp only [List.cons_append, List.nil_append]
      apply each_readG (fun _ => Below.refl _ _)
      · intro u wv hC hf
        obtain ⟨p0, p1, p2⟩ := aut_cells (blk_later HXD.out hC)
        obtain ⟨q0, q1⟩ := sys_cells (blk_later HXS.out hC)
        obtain ⟨d1_0, -⟩ := hf
        have e1 : u 1 = _ := d1_0 rfl
        clear d1_0
        refine ⟨wanted_at rfl rfl rfl e1 rfl, ?_⟩
        go_simp
        try rfl
      conv => arg 8; simp only [List.cons_append, List.nil_append]
      apply each_readG (fun _ => Below.refl _ _)
      · intro u wv hC hf
        obtain ⟨p0, p1, p2⟩ := aut_cells (blk_later HXD.out hC)
        obtain ⟨q0, q1⟩ := sys_cells (blk_later HXS.out hC)
        obtain ⟨d1_0, -⟩ := hf
        have e1 : u 1 = _ := d1_0 rfl
        clear d1_0
        refine ⟨wanted_at rfl rfl rfl e1 rfl, ?_⟩
        go_simp
        try rfl
      conv => arg 8; simp only [List.cons_append, List.nil_append]
      apply each_callRG
      · intro u wv hC hf
        obtain ⟨p0, p1, p2⟩ := aut_cells (blk_later HXD.out hC)
        obtain ⟨q0, q1⟩ := sys_cells (blk_later HXS.out hC)
        obtain ⟨d5_0, d6_1, d4_2, d1_3, -⟩ := hf
        have e5 : u 5 = _ := d5_0 rfl
        clear d5_0
        have e6 : u 6 = _ := d6_1 rfl
        clear d6_1
        have e4 : u 4 = _ := d4_2 rfl
        clear d4_2
        have e1 : u 1 = _ := d1_3 rfl
        clear d1_3
        refine ⟨wanted_at rfl rfl rfl e1 rfl, ?_⟩
        apply Exists.intro; apply Exists.intro; apply And.intro
        · go_simp; exact ⟨rfl, rfl⟩
        · refine (HIR.out _ hC).mono ?_
          rintro e w3 ⟨rfl, hb⟩
          exact ⟨rfl, Below.now hC hb, hb⟩
      conv => arg 8; simp only [List.cons_append, List.nil_append]
      apply each_readG (fun _ => Below.refl _ _)
      · intro u wv hC hf
        obtain ⟨p0, p1, p2⟩ := aut_cells (blk_later HXD.out hC)
        obtain ⟨q0, q1⟩ := sys_cells (blk_later HXS.out hC)
        obtain ⟨d4_0, d7_1, d1_2, -⟩ := hf
        have e4 : u 4 = _ := d4_0 rfl
        clear d4_0
        have e7 : u 7 = _ := d7_1 rfl
        clear d7_1
        have e1 : u 1 = _ := d1_2 rfl
        clear d1_2
        refine ⟨wanted_at rfl rfl rfl e1 rfl, ?_⟩
        go_simp
        try rfl
      conv => arg 8; simp only [List.cons_append, List.nil_append]
      apply each_readG (fun _ => Below.refl _ _)
      · intro u wv hC hf
        obtain ⟨p0, p1, p2⟩ := aut_cells (blk_later HXD.out hC)
        obtain ⟨q0, q1⟩ := sys_cells (blk_later HXS.out hC)
        obtain ⟨d8_0, d7_1, d1_2, -⟩ := hf
        have e8 : u 8 = _ := d8_0 rfl
        clear d8_0
        have e7 : u 7 = _ := d7_1 rfl
        clear d7_1
        have e1 : u 1 = _ := d1_2 rfl
        clear d1_2
        refine ⟨wanted_at rfl rfl rfl e1 rfl, ?_⟩
        go_simp
        try rfl
      conv => arg 8; simp only [List.cons_append, List.nil_append]
      apply each_readG (fun _ => Below.refl _ _)
      · intro u wv hC hf
        obtain ⟨p0, p1, p2⟩ := aut_cells (blk_later HXD.out hC)
        obtain ⟨q0, q1⟩ := sys_cells (blk_later HXS.out hC)
        obtain ⟨d9_0, -⟩ := hf
        have e9 : u 9 = _ := d9_0 rfl
        clear d9_0
        refine ⟨wanted_at rfl rfl rfl e9 rfl, ?_⟩
        go_simp
        try rfl
      conv => arg 8; simp only [List.cons_append, List.nil_append]
      apply each_readG (fun _ => Below.refl _ _)
      · intro u wv hC hf
        obtain ⟨p0, p1, p2⟩ := aut_cells (blk_later HXD.out hC)
        obtain ⟨q0, q1⟩ := sys_cells (blk_later HXS.out hC)
        obtain ⟨d9_0, -⟩ := hf
        have e9 : u 9 = _ := d9_0 rfl
        clear d9_0
        refine ⟨wanted_at rfl rfl rfl e9 rfl, ?_⟩
        go_simp
        try rfl
      conv => arg 8; simp only [List.cons_append, List.nil_append]
      apply each_callRG
      · intro u wv hC hf
        obtain ⟨p0, p1, p2⟩ := aut_cells (blk_later HXD.out hC)
        obtain ⟨q0, q1⟩ := sys_cells (blk_later HXS.out hC)
        obtain ⟨d10_0, d11_1, d9_2, d9_3, -⟩ := hf
        have e10 : u 10 = _ := d10_0 rfl
        clear d10_0
        have e11 : u 11 = _ := d11_1 rfl
        clear d11_1
        have e9 : u 9 = _ := d9_2 rfl
        clear d9_2
        clear d9_3
        refine ⟨wanted_at rfl rfl rfl e9 rfl, ?_⟩
        apply Exists.intro; apply Exists.intro; apply And.intro
        · go_simp; exact ⟨rfl, rfl⟩
        · refine (HCA.out _ hC).mono ?_
          rintro e w3 ⟨rfl, hb⟩
          exact ⟨rfl, Below.now hC hb, hb⟩
      conv => arg 8; simp only [List.cons_append, List.nil_append]
      apply each_readG (fun _ => Below.refl _ _)
      · intro u wv hC hf
        obtain ⟨p0, p1, p2⟩ := aut_cells (blk_later HXD.out hC)
        obtain ⟨q0, q1⟩ := sys_cells (blk_later HXS.out hC)
        obtain ⟨d9_0, -⟩ := hf
        have e9 : u 9 = _ := d9_0 rfl
        clear d9_0
        refine ⟨wanted_at rfl rfl rfl e9 rfl, ?_⟩
        go_simp
        try rfl
      conv => arg 8; simp only [List.cons_append, List.nil_append]
      apply each_readG (fun _ => Below.refl _ _)
      · intro u wv hC hf
        obtain ⟨p0, p1, p2⟩ := aut_cells (blk_later HXD.out hC)
        obtain ⟨q0, q1⟩ := sys_cells (blk_later HXS.out hC)
        obtain ⟨d9_0, -⟩ := hf
        have e9 : u 9 = _ := d9_0 rfl
        clear d9_0
        refine ⟨wanted_at rfl rfl rfl e9 rfl, ?_⟩
        go_simp
        try rfl
      conv => arg 8; simp only [List.cons_append, List.nil_append]
      apply each_callRG
      · intro u wv hC hf
        obtain ⟨p0, p1, p2⟩ := aut_cells (blk_later HXD.out hC)
        obtain ⟨q0, q1⟩ := sys_cells (blk_later HXS.out hC)
        obtain ⟨d13_0, d14_1, d12_2, d9_3, -⟩ := hf
        have e13 : u 13 = _ := d13_0 rfl
        clear d13_0
        have e14 : u 14 = _ := d14_1 rfl
        clear d14_1
        have e12 : u 12 = _ := d12_2 rfl
        clear d12_2
        have e9 : u 9 = _ := d9_3 rfl
        clear d9_3
        refine ⟨wanted_at rfl rfl rfl e9 rfl, ?_⟩
        apply Exists.intro; apply Exists.intro; apply And.intro
        · go_simp; exact ⟨rfl, rfl⟩
        · refine (HCR.out _ hC).mono ?_
          rintro e w3 ⟨rfl, hb⟩
          exact ⟨rfl, Below.now hC hb, hb⟩
      conv => arg 8; simp only [List.cons_append, List.nil_append]
      apply each_readG (fun _ => Below.refl _ _)
      · intro u wv hC hf
        obtain ⟨p0, p1, p2⟩ := aut_cells (blk_later HXD.out hC)
        obtain ⟨q0, q1⟩ := sys_cells (blk_later HXS.out hC)
        obtain ⟨d12_0, d15_1, d9_2, -⟩ := hf
        have e12 : u 12 = _ := d12_0 rfl
        clear d12_0
        have e15 : u 15 = _ := d15_1 rfl
        clear d15_1
        have e9 : u 9 = _ := d9_2 rfl
        clear d9_2
        refine ⟨wanted_at rfl rfl rfl e9 rfl, ?_⟩
        go_simp
        try rfl
      conv => arg 8; simp only [List.cons_append, List.nil_append]
      apply each_readG (fun _ => Below.refl _ _)
      · intro u wv hC hf
        obtain ⟨p0, p1, p2⟩ := aut_cells (blk_later HXD.out hC)
        obtain ⟨q0, q1⟩ := sys_cells (blk_later HXS.out hC)
        obtain ⟨d9_0, d16_1, d1_2, -⟩ := hf
        have e9 : u 9 = _ := d9_0 rfl
        clear d9_0
        have e16 : u 16 = _ := d16_1 rfl
        clear d16_1
        have e1 : u 1 = _ := d1_2 rfl
        clear d1_2
        refine ⟨wanted_at rfl rfl rfl e1 rfl, ?_⟩
        go_simp
        try rfl
      conv => arg 8; simp only [List.cons_append, List.nil_append]
      apply each_read (fun _ => Below.refl _ _) rfl
      · intro u wv hC hf
        obtain ⟨p0, p1, p2⟩ := aut_cells (blk_later HXD.out hC)
        obtain ⟨q0, q1⟩ := sys_cells (blk_later HXS.out hC)
        obtain ⟨d1_0, d17_1, -⟩ := hf
        have e1 : u 1 = _ := d1_0 rfl
        clear d1_0
        have e17 : u 17 = _ := d17_1 rfl
        clear d17_1
        go_simp
        try rfl
      intro u v9 d9 hall
      obtain ⟨a0, a1, a2, a3, a4, a5, a6, a7, a8, a9, a10, a11, a12, a13, a14, a15, a16, a17, a18, -⟩ := hall
      have e0 : u 0 = _ := a0
      clear a0
      have e1 : u 1 = _ := a1
      clear a1
      have e2 : u 2 = _ := a2
      clear a2
      have e3 : u 3 = _ := a3
      clear a3
      have e4 : u 4 = _ := a4
      clear a4
      have e5 : u 5 = _ := a5
      clear a5
      have e6 : u 6 = _ := a6
      clear a6
      have e7 : u 7 = _ := a7
      clear a7
      have e8 : u 8 = _ := a8
      clear a8
      have e9 : u 9 = _ := a9
      clear a9
      have e10 : u 10 = _ := a10
      clear a10
      have e11 : u 11 = _ := a11
      clear a11
      have e12 : u 12 = _ := a12
      clear a12
      have e13 : u 13 = _ := a13
      clear a13
      have e14 : u 14 = _ := a14
      clear a14
      have e15 : u 15 = _ := a15
      clear a15
      have e16 : u 16 = _ := a16
      clear a16
      have e17 : u 17 = _ := a17
      clear a17
      have e18 : u 18 = _ := a18
      clear a18
      simp only [e0, e1, e2, e3, e4, e5, e6, e7, e8, e9, e10, e11, e12, e13, e14, e15, e16, e17, e18]
      clear e0 e1 e2 e3 e4 e5 e6 e7 e8 e9 e10 e11 e12 e13 e14 e15 e16 e17 e18
      go_wp2_with fail
      go_meet
      exact ⟨rfl, d9⟩
  case rest =>
    obtain ⟨rfl, hb⟩ := hcut
    clear HXD HDI HD
    replace HBY := Lib.hid (HBY.out.later hb)
    replace HT := Lib.hid (HT.out.later hb)
    replace HB := Lib.hid (Below.now HB.out hb)
    replace HR := Lib.hid (RulesIn.later HR.out hb)
    replace HXS := Lib.hid (blk_later HXS.out hb)
    clear hb HR HXS HU hu2 hsy hsz
    go_wp2_with fail
    refine (HMA.out 62 _ HBY.out (by omega)).mono ?_
    rintro e w5 ⟨ka, aA, nA, cA, aA2, fA, cA2, ⟨hA, hlA⟩, rfl, hI, hF, hb⟩
    replace HBY := Lib.hid (HBY.out.later hb)
    replace HT := Lib.hid (HT.out.later hb)
    replace HB := Lib.hid (Below.now HB.out hb)
    have HIA := Lib.hid (And.intro hI hF)
    clear hI hF hb
    have hb0 := alloc_belowS w5 (.cells #[.int .i64 (ka : Nat), .slice aA nA.length cA, .slice aA2 fA.length cA2] 30)
    replace HBY := Lib.hid (HBY.out.later hb0)
    replace HT := Lib.hid (HT.out.later hb0)
    replace HB := Lib.hid (Below.now HB.out hb0)
    replace HIA := Lib.hid (And.intro (HIA.out.1.later hb0) (HIA.out.2.later hb0))
    have HXA := Lib.hid (alloc_at w5 (.cells #[.int .i64 (ka : Nat), .slice aA nA.length cA, .slice aA2 fA.length cA2] 30))
    clear hb0
    go_upto_region 10 with fail
    generalize w5.alloc (.cells #[.int .i64 (ka : Nat), .slice aA nA.length cA, .slice aA2 fA.length cA2] 30) = v5 at *
    generalize w5.heap.size = gA at *
    go_wp2_with fail
    refine (HMA.out 90 _ HBY.out (by omega)).mono ?_
    rintro e w6 ⟨kb, aB, nB, cB, aB2, fB, cB2, ⟨hB, hlB⟩, rfl, hI, hF, hb⟩
    replace HBY := Lib.hid (HBY.out.later hb)
    replace HT := Lib.hid (HT.out.later hb)
    replace HB := Lib.hid (Below.now HB.out hb)
    replace HIA := Lib.hid (And.intro (HIA.out.1.later hb) (HIA.out.2.later hb))
    replace HXA := Lib.hid (blk_later HXA.out hb)
    have HIB := Lib.hid (And.intro hI hF)
    clear hI hF hb
    have hb0 := alloc_belowS w6 (.cells #[.int .i64 (kb : Nat), .slice aB nB.length cB, .slice aB2 fB.length cB2] 30)
    replace HBY := Lib.hid (HBY.out.later hb0)
    replace HT := Lib.hid (HT.out.later hb0)
    replace HB := Lib.hid (Below.now HB.out hb0)
    replace HIA := Lib.hid (And.intro (HIA.out.1.later hb0) (HIA.out.2.later hb0))
    replace HXA := Lib.hid (blk_later HXA.out hb0)
    replace HIB := Lib.hid (And.intro (HIB.out.1.later hb0) (HIB.out.2.later hb0))
    have HXB := Lib.hid (alloc_at w6 (.cells #[.int .i64 (kb : Nat), .slice aB nB.length cB, .slice aB2 fB.length cB2] 30))
    clear hb0
    go_upto_region 11 with fail
    generalize w6.alloc (.cells #[.int .i64 (kb : Nat), .slice aB nB.length cB, .slice aB2 fB.length cB2] 30) = v6 at *
    generalize w6.heap.size = gB at *
    have hka := hA.1.1
    obtain ⟨p0, p1, p2⟩ := aut_cells HXA.out
    go_wp2_with fail
    refine (HMW.out 120 ka _ HBY.out (by omega) hka.1 hka.2).mono ?_
    rintro e w7 ⟨v, ⟨hv1, hv2⟩, rfl, hb⟩
    have HV : Hid (wordOkB (ka : Nat) v = true) := Lib.hid (word_okA (by omega) hv1 hv2 (by omega))
    clear hv1 p0 p1 p2 HMA HMW
    replace HBY := Lib.hid (HBY.out.later hb)
    replace HT := Lib.hid (HT.out.later hb)
    replace HB := Lib.hid (Below.now HB.out hb)
    replace HIA := Lib.hid (And.intro (HIA.out.1.later hb) (HIA.out.2.later hb))
    replace HXA := Lib.hid (blk_later HXA.out hb)
    replace HIB := Lib.hid (And.intro (HIB.out.1.later hb) (HIB.out.2.later hb))
    replace HXB := Lib.hid (blk_later HXB.out hb)
    clear hb
    obtain ⟨p0, p1, p2⟩ := aut_cells HXA.out
    have HCM := Lib.hid (implComplement_any ka nA fA aA aA2 cA cA2 w7 HIA.out.1 HIA.out.2 hA (by omega))
    have HCP : Hid (AutP ka (cmpN ka fA.length nA) (cmpF fA)) := Lib.hid (cmp_ok hA (by omega))
    have HCQ : Hid ((accA ka (cmpN ka fA.length nA) (cmpF fA) 0 (ltrs v) ↔ ¬ accA ka nA fA 0 (ltrs v)) ∧ (∀ m, cntW ka nA fA m 0 + cntW ka (cmpN ka fA.length nA) (cmpF fA) m 0 = ka ^ m) ∧ accA ka nA fA 0 ≠ accA ka (cmpN ka fA.length nA) (cmpF fA) 0) := Lib.hid ⟨cmp_acc hA _ 0 (by have := hA.1.2.1; omega) (lets_lt HV.out), fun m => cnt_cmp hA m 0 (by have := hA.1.2.1; omega), fun e => by
      have h1 := cmp_acc hA [] 0 (by have := hA.1.2.1; omega) (fun y hy => by cases hy)
      rw [← e] at h1
      exact (iff_not_self h1)⟩
    have HSM : Hid (∀ W, IntsIn W aA nA → BoolsIn W aA2 fA → Tab10 W → Calls Tryz.prog 15 #[.agg #[.int .i64 (ka : Nat), .slice aA nA.length cA, .slice aA2 fA.length cA2]] W (RetSO ka nA fA W)) := Lib.hid (fun W h1 h2 h3 => implSmallestOf_any ka nA fA aA aA2 cA cA2 W h1 h2 hA h3)
    generalize cmpN ka fA.length nA = nC at *
    generalize cmpF fA = fC at *
    go_wp2_with fail
    refine HCM.out.mono ?_
    rintro e w8 ⟨aC, cC, aC2, cC2, rfl, hO, hb⟩
    clear p0 p1 p2 HCM
    replace HBY := Lib.hid (HBY.out.later hb)
    replace HT := Lib.hid (HT.out.later hb)
    replace HB := Lib.hid (Below.now HB.out hb)
    replace HIA := Lib.hid (And.intro (HIA.out.1.later hb) (HIA.out.2.later hb))
    replace HXA := Lib.hid (blk_later HXA.out hb)
    replace HIB := Lib.hid (And.intro (HIB.out.1.later hb) (HIB.out.2.later hb))
    replace HXB := Lib.hid (blk_later HXB.out hb)
    have HIC := Lib.hid (And.intro hO.ints hO.bools)
    clear hO hb
    have hb0 := alloc_belowS w8 (.cells #[.int .i64 (ka : Nat), .slice aC nC.length cC, .slice aC2 fC.length cC2] 30)
    replace HBY := Lib.hid (HBY.out.later hb0)
    replace HT := Lib.hid (HT.out.later hb0)
    replace HB := Lib.hid (Below.now HB.out hb0)
    replace HIA := Lib.hid (And.intro (HIA.out.1.later hb0) (HIA.out.2.later hb0))
    replace HXA := Lib.hid (blk_later HXA.out hb0)
    replace HIB := Lib.hid (And.intro (HIB.out.1.later hb0) (HIB.out.2.later hb0))
    replace HXB := Lib.hid (blk_later HXB.out hb0)
    replace HIC := Lib.hid (And.intro (HIC.out.1.later hb0) (HIC.out.2.later hb0))
    have HXC := Lib.hid (alloc_at w8 (.cells #[.int .i64 (ka : Nat), .slice aC nC.length cC, .slice aC2 fC.length cC2] 30))
    clear hb0
    go_upto_region 13 with fail
    generalize w8.alloc (.cells #[.int .i64 (ka : Nat), .slice aC nC.length cC, .slice aC2 fC.length cC2] 30) = v8 at *
    generalize w8.heap.size = gC at *
    obtain ⟨p0, p1, p2⟩ := aut_cells HXA.out
    go_wp2_with fail
    refine (HSM.out _ HIA.out.1 HIA.out.2 HT.out).mono ?_
    rintro e w9 ⟨aM, nM, cM, aM2, fM, cM2, rfl, hcan, hlm, hO, hb⟩
    obtain ⟨hMP, hMA⟩ := can_ok hA hcan hlm
    have HMP := Lib.hid hMP
    have HMA := Lib.hid hMA
    clear p0 p1 p2 hcan HSM hMP hMA
    replace HBY := Lib.hid (HBY.out.later hb)
    replace HT := Lib.hid (HT.out.later hb)
    replace HB := Lib.hid (Below.now HB.out hb)
    replace HIA := Lib.hid (And.intro (HIA.out.1.later hb) (HIA.out.2.later hb))
    replace HXA := Lib.hid (blk_later HXA.out hb)
    replace HIB := Lib.hid (And.intro (HIB.out.1.later hb) (HIB.out.2.later hb))
    replace HXB := Lib.hid (blk_later HXB.out hb)
    replace HIC := Lib.hid (And.intro (HIC.out.1.later hb) (HIC.out.2.later hb))
    replace HXC := Lib.hid (blk_later HXC.out hb)
    have HIM := Lib.hid (And.intro hO.ints hO.bools)
    clear hO hb
    have hb0 := alloc_belowS w9 (.cells #[.int .i64 (ka : Nat), .slice aM nM.length cM, .slice aM2 fM.length cM2] 30)
    replace HBY := Lib.hid (HBY.out.later hb0)
    replace HT := Lib.hid (HT.out.later hb0)
    replace HB := Lib.hid (Below.now HB.out hb0)
    replace HIA := Lib.hid (And.intro (HIA.out.1.later hb0) (HIA.out.2.later hb0))
    replace HXA := Lib.hid (blk_later HXA.out hb0)
    replace HIB := Lib.hid (And.intro (HIB.out.1.later hb0) (HIB.out.2.later hb0))
    replace HXB := Lib.hid (blk_later HXB.out hb0)
    replace HIC := Lib.hid (And.intro (HIC.out.1.later hb0) (HIC.out.2.later hb0))
    replace HXC := Lib.hid (blk_later HXC.out hb0)
    replace HIM := Lib.hid (And.intro (HIM.out.1.later hb0) (HIM.out.2.later hb0))
    have HXM := Lib.hid (alloc_at w9 (.cells #[.int .i64 (ka : Nat), .slice aM nM.length cM, .slice aM2 fM.length cM2] 30))
    clear hb0
    go_upto_region 14 with fail
    generalize w9.alloc (.cells #[.int .i64 (ka : Nat), .slice aM nM.length cM, .slice aM2 fM.length cM2] 30) = v9 at *
    generalize w9.heap.size = gM at *
    generalize hW9 : v9 = w10 at *
    clear hW9
    go_wp2_with fail
    go_loopw [15, 16] (fun vp vi wr => ∃ j : Nat, j ≤ n ∧ vi = .int .i64 (j : Nat) ∧ vp = .int .i64 ((ka ^ j : Nat) : Int) ∧ wr = w10) (fun _ vi _ => n - (intOf vi).toNat)
    case atStart => exact ⟨0, Nat.zero_le _, rfl, rfl, rfl⟩
    case round =>
      obtain ⟨j, hj, rfl, rfl, rfl⟩ := hrel
      obtain ⟨p0, p1, p2⟩ := aut_cells HXA.out
      by_cases hlt : j < n
      · have hji : (j : Int) < (n : Int) := by omega
        have HPW : Hid (ka ^ j * ka = ka ^ (j + 1)) := Lib.hid (Nat.pow_succ ka j).symm
        have hpw : ka ^ j ≤ 4 ^ 7 := Nat.le_trans (Nat.pow_le_pow_left hka.2 j) (Nat.pow_le_pow_right (by omega) (by omega))
        have h47 : (4 : Nat) ^ 7 = 16384 := by decide
        rw [h47] at hpw
        clear h47
        obtain ⟨q1, HPE⟩ : ∃ q, Hid (ka ^ (j + 1) = q) := ⟨_, Lib.hid rfl⟩
        rw [HPE.out] at HPW
        generalize ka ^ j = q0 at *
        have hq1 : q1 ≤ 65536 := by rw [← HPW.out]; exact Nat.mul_le_mul hpw hka.2
        have hmul : (q0 : Int) * (ka : Int) = (q1 : Int) := by rw [← HPW.out, Int.natCast_mul]
        have hww : IntKind.i64.wrap ((q0 : Int) * (ka : Int)) = (q1 : Int) := by rw [hmul]; exact IntWalk.i64_in _ (by omega)
        clear hmul
        go_wp2_with fail
        go_roundw
        case rel => exact ⟨j + 1, by omega, by go_num, by rw [HPE.out], trivial⟩
        case measure => simp [intOf]; omega
      · have hji : ¬ (j : Int) < (n : Int) := by omega
        obtain rfl : n = j := by omega
        clear p0 p1 p2 hlt hj
        go_upto_region 19 with fail
        go_cut [138] (fun v wx => v = .bool false ∧ Below wr.heap.size wr wx)
        case first =>
          have HVA : Hid (∀ W, Below wr.heap.size wr W → Calls Tryz.prog 9 #[.agg #[.int .i64 (ka : Nat), .slice aA nA.length cA, .slice aA2 fA.length cA2], .string v] W fun e w' => e = .returned (.bool (pB (accA ka nA fA 0 (ltrs v)))) ∧ Below W.heap.size W w') := Lib.hid (fun W hW => (implAccepts_any ka nA fA aA aA2 cA cA2 v W (HIA.out.1.later hW) (HIA.out.2.later hW) hA (by unfold maxLen; omega)).mono fun e w' h => RetP.det (two_of (f := accA ka nA fA 0) (g := accA ka nA fA 0) HV.out Iff.rfl) h)
          have HVC : Hid (∀ W, Below wr.heap.size wr W → Calls Tryz.prog 9 #[.agg #[.int .i64 (ka : Nat), .slice aC nC.length cC, .slice aC2 fC.length cC2], .string v] W fun e w' => e = .returned (.bool (pB (accA ka nC fC 0 (ltrs v)))) ∧ Below W.heap.size W w') := Lib.hid (fun W hW => (implAccepts_any ka nC fC aC aC2 cC cC2 v W (HIC.out.1.later hW) (HIC.out.2.later hW) HCP.out (by unfold maxLen; omega)).mono fun e w' h => RetP.det (two_of (f := accA ka nC fC 0) (g := accA ka nC fC 0) HV.out Iff.rfl) h)
          have HVM : Hid (∀ W, Below wr.heap.size wr W → Calls Tryz.prog 9 #[.agg #[.int .i64 (ka : Nat), .slice aM nM.length cM, .slice aM2 fM.length cM2], .string v] W fun e w' => e = .returned (.bool (pB (accA ka nA fA 0 (ltrs v)))) ∧ Below W.heap.size W w') := Lib.hid (fun W hW => (implAccepts_any ka nM fM aM aM2 cM cM2 v W (HIM.out.1.later hW) (HIM.out.2.later hW) HMP.out (by unfold maxLen; omega)).mono fun e w' h => RetP.det (two_of (f := accA ka nM fM 0) (g := accA ka nA fA 0) HV.out (by rw [HMA.out])) h)
          have HNA := Lib.hid (fun W (hW : Below wr.heap.size wr W) => implCountAcc_any ka nA fA aA aA2 cA cA2 n W (HIA.out.1.later hW) (HIA.out.2.later hW) hA (by omega))
          have HNC := Lib.hid (fun W (hW : Below wr.heap.size wr W) => implCountAcc_any ka nC fC aC aC2 cC cC2 n W (HIC.out.1.later hW) (HIC.out.2.later hW) HCP.out (by omega))
          have HSA : Hid (∀ W, Below wr.heap.size wr W → Calls Tryz.prog 16 #[.agg #[.int .i64 (ka : Nat), .slice aA nA.length cA, .slice aA2 fA.length cA2], .agg #[.int .i64 (ka : Nat), .slice aM nM.length cM, .slice aM2 fM.length cM2]] W fun e w' => e = .returned (.bool true) ∧ Below W.heap.size W w') := Lib.hid (fun W hW => (implSame_any ka nA nM fA fM aA aA2 aM aM2 cA cA2 cM cM2 W (HIA.out.1.later hW) (HIA.out.2.later hW) hA (HIM.out.1.later hW) (HIM.out.2.later hW) HMP.out (HT.out.later hW)).mono fun e w' ⟨b, hb, he, hw⟩ => ⟨by rw [he, hb.2 HMA.out.symm], hw⟩)
          have HSC : Hid (∀ W, Below wr.heap.size wr W → Calls Tryz.prog 16 #[.agg #[.int .i64 (ka : Nat), .slice aA nA.length cA, .slice aA2 fA.length cA2], .agg #[.int .i64 (ka : Nat), .slice aC nC.length cC, .slice aC2 fC.length cC2]] W fun e w' => e = .returned (.bool false) ∧ Below W.heap.size W w') := Lib.hid (fun W hW => (implSame_any ka nA nC fA fC aA aA2 aC aC2 cA cA2 cC cC2 W (HIA.out.1.later hW) (HIA.out.2.later hW) hA (HIC.out.1.later hW) (HIC.out.2.later hW) HCP.out (HT.out.later hW)).mono fun e w' ⟨b, hb, he, hw⟩ => ⟨by
            cases b
            · exact he
            · exact absurd (hb.1 rfl) HCQ.out.2.2, hw⟩)
          have hq1 : (pB (accA ka nC fC 0 (ltrs v)) == pB (accA ka nA fA 0 (ltrs v))) = false := by
            rw [beq_eq_false_iff_ne]
            intro e
            rw [Bool.eq_iff_iff, pB_iff, pB_iff, HCQ.out.1] at e
            exact iff_not_self e.symm
          have hsm := HCQ.out.2.1 n
          have hpn : ka ^ n ≤ 4 ^ 7 := Nat.le_trans (Nat.pow_le_pow_left hka.2 n) (Nat.pow_le_pow_right (by omega) (by omega))
          have h47 : (4 : Nat) ^ 7 = 16384 := by decide
          rw [h47] at hpn
          clear h47
          generalize pB (accA ka nA fA 0 (ltrs v)) = ba at *
          generalize pB (accA ka nC fC 0 (ltrs v)) = bc at *
          generalize cntW ka nA fA n 0 = n1 at *
          generalize cntW ka nC fC n 0 = n2 at *
          generalize ka ^ n = pw at *
          have hws : (n1 : Int) + (n2 : Int) = (pw : Int) := by omega
          have hww : IntKind.i64.wrap ((n1 : Int) + (n2 : Int)) = (pw : Int) := by rw [hws]; exact IntWalk.i64_in _ (by omega)
          have HWW := Lib.hid hww
          have hgt : decide ((fA.length : Int) < (fM.length : Int)) = false := decide_eq_false (by omega)
          have hgt2 : decide (fA.length < fM.length) = false := decide_eq_false (by omega)
          clear hws hsm
          refine region_each (fun W => Below wr.heap.size wr W) (fun W W2 => Below W.heap.size W W2) (fun u => by simp only [fPut, Act.put, List.setIfInBounds_toArray, List.set_cons_succ, List.set_cons_zero, Nat.zero_add, Nat.reduceAdd]; rfl) (by kernel_rfl) (by kernel_rfl) (by kernel_rfl) (Below.drew (Below.refl _ _)) ?_
          apply each_read (fun _ => Below.refl _ _) rfl
          · intro u wv hC hf
            obtain ⟨p0, p1, p2⟩ := aut_cells (blk_later HXA.out hC)
            obtain ⟨q0, q1, q2⟩ := aut_cells (blk_later HXC.out hC)
            obtain ⟨r0, r1, r2⟩ := aut_cells (blk_later HXM.out hC)
            clear hf
            go_simp
            try rfl
          apply each_read (fun _ => Below.refl _ _) rfl
          · intro u wv hC hf
            obtain ⟨p0, p1, p2⟩ := aut_cells (blk_later HXA.out hC)
            obtain ⟨q0, q1, q2⟩ := aut_cells (blk_later HXC.out hC)
            obtain ⟨r0, r1, r2⟩ := aut_cells (blk_later HXM.out hC)
            obtain ⟨d0_0, -⟩ := hf
            have e0 : u 0 = _ := d0_0 rfl
            clear d0_0
            go_simp
            try rfl
          conv => arg 8; simp only [List.cons_append, List.nil_append]
          apply each_read (fun _ => Below.refl _ _) rfl
          · intro u wv hC hf
            obtain ⟨p0, p1, p2⟩ := aut_cells (blk_later HXA.out hC)
            obtain ⟨q0, q1, q2⟩ := aut_cells (blk_later HXC.out hC)
            obtain ⟨r0, r1, r2⟩ := aut_cells (blk_later HXM.out hC)
            obtain ⟨d1_0, -⟩ := hf
            have e1 : u 1 = _ := d1_0 rfl
            clear d1_0
            go_simp
            try rfl
          conv => arg 8; simp only [List.cons_append, List.nil_append]
          apply each_readG (fun _ => Below.refl _ _)
          · intro u wv hC hf
            obtain ⟨p0, p1, p2⟩ := aut_cells (blk_later HXA.out hC)
            obtain ⟨q0, q1, q2⟩ := aut_cells (blk_later HXC.out hC)
            obtain ⟨r0, r1, r2⟩ := aut_cells (blk_later HXM.out hC)
            obtain ⟨d2_0, -⟩ := hf
            have e2 : u 2 = _ := d2_0 rfl
            clear d2_0
            refine ⟨wanted_at rfl rfl rfl e2 rfl, ?_⟩
            go_simp
            try rfl
          conv => arg 8; simp only [List.cons_append, List.nil_append]
          apply each_readG (fun _ => Below.refl _ _)
          · intro u wv hC hf
            obtain ⟨p0, p1, p2⟩ := aut_cells (blk_later HXA.out hC)
            obtain ⟨q0, q1, q2⟩ := aut_cells (blk_later HXC.out hC)
            obtain ⟨r0, r1, r2⟩ := aut_cells (blk_later HXM.out hC)
            obtain ⟨d2_0, -⟩ := hf
            have e2 : u 2 = _ := d2_0 rfl
            clear d2_0
            refine ⟨wanted_at rfl rfl rfl e2 rfl, ?_⟩
            go_simp
            try rfl
          conv => arg 8; simp only [List.cons_append, List.nil_append]
          apply each_callRG
          · intro u wv hC hf
            obtain ⟨p0, p1, p2⟩ := aut_cells (blk_later HXA.out hC)
            obtain ⟨q0, q1, q2⟩ := aut_cells (blk_later HXC.out hC)
            obtain ⟨r0, r1, r2⟩ := aut_cells (blk_later HXM.out hC)
            obtain ⟨d3_0, d4_1, d2_2, d2_3, -⟩ := hf
            have e3 : u 3 = _ := d3_0 rfl
            clear d3_0
            have e4 : u 4 = _ := d4_1 rfl
            clear d4_1
            have e2 : u 2 = _ := d2_2 rfl
            clear d2_2
            clear d2_3
            refine ⟨wanted_at rfl rfl rfl e2 rfl, ?_⟩
            apply Exists.intro; apply Exists.intro; apply And.intro
            · go_simp; exact ⟨rfl, rfl⟩
            · refine (HVC.out _ hC).mono ?_
              rintro e w3 ⟨rfl, hb⟩
              exact ⟨rfl, Below.now hC hb, hb⟩
          conv => arg 8; simp only [List.cons_append, List.nil_append]
          apply each_readG (fun _ => Below.refl _ _)
          · intro u wv hC hf
            obtain ⟨p0, p1, p2⟩ := aut_cells (blk_later HXA.out hC)
            obtain ⟨q0, q1, q2⟩ := aut_cells (blk_later HXC.out hC)
            obtain ⟨r0, r1, r2⟩ := aut_cells (blk_later HXM.out hC)
            obtain ⟨d2_0, -⟩ := hf
            have e2 : u 2 = _ := d2_0 rfl
            clear d2_0
            refine ⟨wanted_at rfl rfl rfl e2 rfl, ?_⟩
            go_simp
            try rfl
          conv => arg 8; simp only [List.cons_append, List.nil_append]
          apply each_readG (fun _ => Below.refl _ _)
          · intro u wv hC hf
            obtain ⟨p0, p1, p2⟩ := aut_cells (blk_later HXA.out hC)
            obtain ⟨q0, q1, q2⟩ := aut_cells (blk_later HXC.out hC)
            obtain ⟨r0, r1, r2⟩ := aut_cells (blk_later HXM.out hC)
            obtain ⟨d2_0, -⟩ := hf
            have e2 : u 2 = _ := d2_0 rfl
            clear d2_0
            refine ⟨wanted_at rfl rfl rfl e2 rfl, ?_⟩
            go_simp
            try rfl
          conv => arg 8; simp only [List.cons_append, List.nil_append]
          apply each_callRG
          · intro u wv hC hf
            obtain ⟨p0, p1, p2⟩ := aut_cells (blk_later HXA.out hC)
            obtain ⟨q0, q1, q2⟩ := aut_cells (blk_later HXC.out hC)
            obtain ⟨r0, r1, r2⟩ := aut_cells (blk_later HXM.out hC)
            obtain ⟨d6_0, d7_1, d5_2, d2_3, -⟩ := hf
            have e6 : u 6 = _ := d6_0 rfl
            clear d6_0
            have e7 : u 7 = _ := d7_1 rfl
            clear d7_1
            have e5 : u 5 = _ := d5_2 rfl
            clear d5_2
            have e2 : u 2 = _ := d2_3 rfl
            clear d2_3
            refine ⟨wanted_at rfl rfl rfl e2 rfl, ?_⟩
            apply Exists.intro; apply Exists.intro; apply And.intro
            · go_simp; exact ⟨rfl, rfl⟩
            · refine (HVA.out _ hC).mono ?_
              rintro e w3 ⟨rfl, hb⟩
              exact ⟨rfl, Below.now hC hb, hb⟩
          conv => arg 8; simp only [List.cons_append, List.nil_append]
          apply each_readG (fun _ => Below.refl _ _)
          · intro u wv hC hf
            obtain ⟨p0, p1, p2⟩ := aut_cells (blk_later HXA.out hC)
            obtain ⟨q0, q1, q2⟩ := aut_cells (blk_later HXC.out hC)
            obtain ⟨r0, r1, r2⟩ := aut_cells (blk_later HXM.out hC)
            obtain ⟨d5_0, d8_1, d2_2, -⟩ := hf
            have e5 : u 5 = _ := d5_0 rfl
            clear d5_0
            have e8 : u 8 = _ := d8_1 rfl
            clear d8_1
            have e2 : u 2 = _ := d2_2 rfl
            clear d2_2
            refine ⟨wanted_at rfl rfl rfl e2 rfl, ?_⟩
            go_simp
            try rfl
          conv => arg 8; simp only [List.cons_append, List.nil_append]
          apply each_read (fun _ => Below.refl _ _) rfl
          · intro u wv hC hf
            obtain ⟨p0, p1, p2⟩ := aut_cells (blk_later HXA.out hC)
            obtain ⟨q0, q1, q2⟩ := aut_cells (blk_later HXC.out hC)
            obtain ⟨r0, r1, r2⟩ := aut_cells (blk_later HXM.out hC)
            obtain ⟨d2_0, d9_1, -⟩ := hf
            have e2 : u 2 = _ := d2_0 rfl
            clear d2_0
            have e9 : u 9 = _ := d9_1 rfl
            clear d9_1
            go_simp
            try rfl
          conv => arg 8; simp only [List.cons_append, List.nil_append]
          apply each_read (fun _ => Below.refl _ _) rfl
          · intro u wv hC hf
            obtain ⟨p0, p1, p2⟩ := aut_cells (blk_later HXA.out hC)
            obtain ⟨q0, q1, q2⟩ := aut_cells (blk_later HXC.out hC)
            obtain ⟨r0, r1, r2⟩ := aut_cells (blk_later HXM.out hC)
            obtain ⟨d10_0, d8_1, -⟩ := hf
            have e10 : u 10 = _ := d10_0 rfl
            clear d10_0
            have e8 : u 8 = _ := d8_1 rfl
            clear d8_1
            go_simp
            try rfl
          conv => arg 8; simp only [List.cons_append, List.nil_append]
          apply each_readG (fun _ => Below.refl _ _)
          · intro u wv hC hf
            obtain ⟨p0, p1, p2⟩ := aut_cells (blk_later HXA.out hC)
            obtain ⟨q0, q1, q2⟩ := aut_cells (blk_later HXC.out hC)
            obtain ⟨r0, r1, r2⟩ := aut_cells (blk_later HXM.out hC)
            obtain ⟨d11_0, -⟩ := hf
            have e11 : u 11 = _ := d11_0 rfl
            clear d11_0
            refine ⟨wanted_at rfl rfl rfl e11 rfl, ?_⟩
            go_simp
            try rfl
          conv => arg 8; simp only [List.cons_append, List.nil_append]
          apply each_readG (fun _ => Below.refl _ _)
          · intro u wv hC hf
            obtain ⟨p0, p1, p2⟩ := aut_cells (blk_later HXA.out hC)
            obtain ⟨q0, q1, q2⟩ := aut_cells (blk_later HXC.out hC)
            obtain ⟨r0, r1, r2⟩ := aut_cells (blk_later HXM.out hC)
            obtain ⟨d11_0, -⟩ := hf
            have e11 : u 11 = _ := d11_0 rfl
            clear d11_0
            refine ⟨wanted_at rfl rfl rfl e11 rfl, ?_⟩
            go_simp
            try rfl
          conv => arg 8; simp only [List.cons_append, List.nil_append]
          apply each_callRG
          · intro u wv hC hf
            obtain ⟨p0, p1, p2⟩ := aut_cells (blk_later HXA.out hC)
            obtain ⟨q0, q1, q2⟩ := aut_cells (blk_later HXC.out hC)
            obtain ⟨r0, r1, r2⟩ := aut_cells (blk_later HXM.out hC)
            obtain ⟨d12_0, d13_1, d11_2, d11_3, -⟩ := hf
            have e12 : u 12 = _ := d12_0 rfl
            clear d12_0
            have e13 : u 13 = _ := d13_1 rfl
            clear d13_1
            have e11 : u 11 = _ := d11_2 rfl
            clear d11_2
            clear d11_3
            refine ⟨wanted_at rfl rfl rfl e11 rfl, ?_⟩
            apply Exists.intro; apply Exists.intro; apply And.intro
            · go_simp; exact ⟨rfl, rfl⟩
            · refine (HNA.out _ hC).mono ?_
              rintro e w3 ⟨rfl, hb⟩
              exact ⟨rfl, Below.now hC hb, hb⟩
          conv => arg 8; simp only [List.cons_append, List.nil_append]
          apply each_readG (fun _ => Below.refl _ _)
          · intro u wv hC hf
            obtain ⟨p0, p1, p2⟩ := aut_cells (blk_later HXA.out hC)
            obtain ⟨q0, q1, q2⟩ := aut_cells (blk_later HXC.out hC)
            obtain ⟨r0, r1, r2⟩ := aut_cells (blk_later HXM.out hC)
            obtain ⟨d11_0, -⟩ := hf
            have e11 : u 11 = _ := d11_0 rfl
            clear d11_0
            refine ⟨wanted_at rfl rfl rfl e11 rfl, ?_⟩
            go_simp
            try rfl
          conv => arg 8; simp only [List.cons_append, List.nil_append]
          apply each_readG (fun _ => Below.refl _ _)
          · intro u wv hC hf
            obtain ⟨p0, p1, p2⟩ := aut_cells (blk_later HXA.out hC)
            obtain ⟨q0, q1, q2⟩ := aut_cells (blk_later HXC.out hC)
            obtain ⟨r0, r1, r2⟩ := aut_cells (blk_later HXM.out hC)
            obtain ⟨d11_0, -⟩ := hf
            have e11 : u 11 = _ := d11_0 rfl
            clear d11_0
            refine ⟨wanted_at rfl rfl rfl e11 rfl, ?_⟩
            go_simp
            try rfl
          conv => arg 8; simp only [List.cons_append, List.nil_append]
          apply each_callRG
          · intro u wv hC hf
            obtain ⟨p0, p1, p2⟩ := aut_cells (blk_later HXA.out hC)
            obtain ⟨q0, q1, q2⟩ := aut_cells (blk_later HXC.out hC)
            obtain ⟨r0, r1, r2⟩ := aut_cells (blk_later HXM.out hC)
            obtain ⟨d15_0, d16_1, d14_2, d11_3, -⟩ := hf
            have e15 : u 15 = _ := d15_0 rfl
            clear d15_0
            have e16 : u 16 = _ := d16_1 rfl
            clear d16_1
            have e14 : u 14 = _ := d14_2 rfl
            clear d14_2
            have e11 : u 11 = _ := d11_3 rfl
            clear d11_3
            refine ⟨wanted_at rfl rfl rfl e11 rfl, ?_⟩
            apply Exists.intro; apply Exists.intro; apply And.intro
            · go_simp; exact ⟨rfl, rfl⟩
            · refine (HNC.out _ hC).mono ?_
              rintro e w3 ⟨rfl, hb⟩
              exact ⟨rfl, Below.now hC hb, hb⟩
          conv => arg 8; simp only [List.cons_append, List.nil_append]
          apply each_readG (fun _ => Below.refl _ _)
          · intro u wv hC hf
            obtain ⟨p0, p1, p2⟩ := aut_cells (blk_later HXA.out hC)
            obtain ⟨q0, q1, q2⟩ := aut_cells (blk_later HXC.out hC)
            obtain ⟨r0, r1, r2⟩ := aut_cells (blk_later HXM.out hC)
            obtain ⟨d14_0, d17_1, d11_2, -⟩ := hf
            have e14 : u 14 = _ := d14_0 rfl
            clear d14_0
            have e17 : u 17 = _ := d17_1 rfl
            clear d17_1
            have e11 : u 11 = _ := d11_2 rfl
            clear d11_2
            refine ⟨wanted_at rfl rfl rfl e11 rfl, ?_⟩
            go_simp
            try rfl
          conv => arg 8; simp only [List.cons_append, List.nil_append]
          apply each_readG (fun _ => Below.refl _ _)
          · intro u wv hC hf
            obtain ⟨p0, p1, p2⟩ := aut_cells (blk_later HXA.out hC)
            obtain ⟨q0, q1, q2⟩ := aut_cells (blk_later HXC.out hC)
            obtain ⟨r0, r1, r2⟩ := aut_cells (blk_later HXM.out hC)
            obtain ⟨d11_0, -⟩ := hf
            have e11 : u 11 = _ := d11_0 rfl
            clear d11_0
            refine ⟨wanted_at rfl rfl rfl e11 rfl, ?_⟩
            go_simp
            try rfl
          conv => arg 8; simp only [List.cons_append, List.nil_append]
          apply each_readG (fun _ => Below.refl _ _)
          · intro u wv hC hf
            obtain ⟨p0, p1, p2⟩ := aut_cells (blk_later HXA.out hC)
            obtain ⟨q0, q1, q2⟩ := aut_cells (blk_later HXC.out hC)
            obtain ⟨r0, r1, r2⟩ := aut_cells (blk_later HXM.out hC)
            obtain ⟨d18_0, d19_1, d11_2, -⟩ := hf
            have e18 : u 18 = _ := d18_0 rfl
            clear d18_0
            have e19 : u 19 = _ := d19_1 rfl
            clear d19_1
            have e11 : u 11 = _ := d11_2 rfl
            clear d11_2
            refine ⟨wanted_at rfl rfl rfl e11 rfl, ?_⟩
            go_simp
            try rfl
          conv => arg 8; simp only [List.cons_append, List.nil_append]
          apply each_read (fun _ => Below.refl _ _) rfl
          · intro u wv hC hf
            obtain ⟨p0, p1, p2⟩ := aut_cells (blk_later HXA.out hC)
            obtain ⟨q0, q1, q2⟩ := aut_cells (blk_later HXC.out hC)
            obtain ⟨r0, r1, r2⟩ := aut_cells (blk_later HXM.out hC)
            obtain ⟨d11_0, d20_1, -⟩ := hf
            have e11 : u 11 = _ := d11_0 rfl
            clear d11_0
            have e20 : u 20 = _ := d20_1 rfl
            clear d20_1
            go_simp
            try rfl
          conv => arg 8; simp only [List.cons_append, List.nil_append]
          apply each_read (fun _ => Below.refl _ _) rfl
          · intro u wv hC hf
            obtain ⟨p0, p1, p2⟩ := aut_cells (blk_later HXA.out hC)
            obtain ⟨q0, q1, q2⟩ := aut_cells (blk_later HXC.out hC)
            obtain ⟨r0, r1, r2⟩ := aut_cells (blk_later HXM.out hC)
            obtain ⟨d21_0, d17_1, -⟩ := hf
            have e21 : u 21 = _ := d21_0 rfl
            clear d21_0
            have e17 : u 17 = _ := d17_1 rfl
            clear d17_1
            go_simp
            try rfl
          conv => arg 8; simp only [List.cons_append, List.nil_append]
          apply each_readG (fun _ => Below.refl _ _)
          · intro u wv hC hf
            obtain ⟨p0, p1, p2⟩ := aut_cells (blk_later HXA.out hC)
            obtain ⟨q0, q1, q2⟩ := aut_cells (blk_later HXC.out hC)
            obtain ⟨r0, r1, r2⟩ := aut_cells (blk_later HXM.out hC)
            obtain ⟨d22_0, -⟩ := hf
            have e22 : u 22 = _ := d22_0 rfl
            clear d22_0
            refine ⟨wanted_at rfl rfl rfl e22 rfl, ?_⟩
            go_simp
            try rfl
          conv => arg 8; simp only [List.cons_append, List.nil_append]
          apply each_readG (fun _ => Below.refl _ _)
          · intro u wv hC hf
            obtain ⟨p0, p1, p2⟩ := aut_cells (blk_later HXA.out hC)
            obtain ⟨q0, q1, q2⟩ := aut_cells (blk_later HXC.out hC)
            obtain ⟨r0, r1, r2⟩ := aut_cells (blk_later HXM.out hC)
            obtain ⟨d23_0, d22_1, -⟩ := hf
            have e23 : u 23 = _ := d23_0 rfl
            clear d23_0
            have e22 : u 22 = _ := d22_1 rfl
            clear d22_1
            refine ⟨wanted_at rfl rfl rfl e22 rfl, ?_⟩
            go_simp
            try rfl
          conv => arg 8; simp only [List.cons_append, List.nil_append]
          apply each_read (fun _ => Below.refl _ _) rfl
          · intro u wv hC hf
            obtain ⟨p0, p1, p2⟩ := aut_cells (blk_later HXA.out hC)
            obtain ⟨q0, q1, q2⟩ := aut_cells (blk_later HXC.out hC)
            obtain ⟨r0, r1, r2⟩ := aut_cells (blk_later HXM.out hC)
            obtain ⟨d22_0, d24_1, -⟩ := hf
            have e22 : u 22 = _ := d22_0 rfl
            clear d22_0
            have e24 : u 24 = _ := d24_1 rfl
            clear d24_1
            go_simp
            try rfl
          conv => arg 8; simp only [List.cons_append, List.nil_append]
          apply each_read (fun _ => Below.refl _ _) rfl
          · intro u wv hC hf
            obtain ⟨p0, p1, p2⟩ := aut_cells (blk_later HXA.out hC)
            obtain ⟨q0, q1, q2⟩ := aut_cells (blk_later HXC.out hC)
            obtain ⟨r0, r1, r2⟩ := aut_cells (blk_later HXM.out hC)
            obtain ⟨d25_0, d22_1, -⟩ := hf
            have e25 : u 25 = _ := d25_0 rfl
            clear d25_0
            have e22 : u 22 = _ := d22_1 rfl
            clear d22_1
            go_simp
            try rfl
          conv => arg 8; simp only [List.cons_append, List.nil_append]
          apply each_readG (fun _ => Below.refl _ _)
          · intro u wv hC hf
            obtain ⟨p0, p1, p2⟩ := aut_cells (blk_later HXA.out hC)
            obtain ⟨q0, q1, q2⟩ := aut_cells (blk_later HXC.out hC)
            obtain ⟨r0, r1, r2⟩ := aut_cells (blk_later HXM.out hC)
            obtain ⟨d26_0, -⟩ := hf
            have e26 : u 26 = _ := d26_0 rfl
            clear d26_0
            refine ⟨wanted_at rfl rfl rfl e26 rfl, ?_⟩
            go_simp
            try rfl
          conv => arg 8; simp only [List.cons_append, List.nil_append]
          apply each_readG (fun _ => Below.refl _ _)
          · intro u wv hC hf
            obtain ⟨p0, p1, p2⟩ := aut_cells (blk_later HXA.out hC)
            obtain ⟨q0, q1, q2⟩ := aut_cells (blk_later HXC.out hC)
            obtain ⟨r0, r1, r2⟩ := aut_cells (blk_later HXM.out hC)
            obtain ⟨d26_0, -⟩ := hf
            have e26 : u 26 = _ := d26_0 rfl
            clear d26_0
            refine ⟨wanted_at rfl rfl rfl e26 rfl, ?_⟩
            go_simp
            try rfl
          conv => arg 8; simp only [List.cons_append, List.nil_append]
          apply each_callRG
          · intro u wv hC hf
            obtain ⟨p0, p1, p2⟩ := aut_cells (blk_later HXA.out hC)
            obtain ⟨q0, q1, q2⟩ := aut_cells (blk_later HXC.out hC)
            obtain ⟨r0, r1, r2⟩ := aut_cells (blk_later HXM.out hC)
            obtain ⟨d27_0, d28_1, d26_2, d26_3, -⟩ := hf
            have e27 : u 27 = _ := d27_0 rfl
            clear d27_0
            have e28 : u 28 = _ := d28_1 rfl
            clear d28_1
            have e26 : u 26 = _ := d26_2 rfl
            clear d26_2
            clear d26_3
            refine ⟨wanted_at rfl rfl rfl e26 rfl, ?_⟩
            apply Exists.intro; apply Exists.intro; apply And.intro
            · go_simp; exact ⟨rfl, rfl⟩
            · refine (HVM.out _ hC).mono ?_
              rintro e w3 ⟨rfl, hb⟩
              exact ⟨rfl, Below.now hC hb, hb⟩
          conv => arg 8; simp only [List.cons_append, List.nil_append]
          apply each_readG (fun _ => Below.refl _ _)
          · intro u wv hC hf
            obtain ⟨p0, p1, p2⟩ := aut_cells (blk_later HXA.out hC)
            obtain ⟨q0, q1, q2⟩ := aut_cells (blk_later HXC.out hC)
            obtain ⟨r0, r1, r2⟩ := aut_cells (blk_later HXM.out hC)
            obtain ⟨d26_0, -⟩ := hf
            have e26 : u 26 = _ := d26_0 rfl
            clear d26_0
            refine ⟨wanted_at rfl rfl rfl e26 rfl, ?_⟩
            go_simp
            try rfl
          conv => arg 8; simp only [List.cons_append, List.nil_append]
          apply each_readG (fun _ => Below.refl _ _)
          · intro u wv hC hf
            obtain ⟨p0, p1, p2⟩ := aut_cells (blk_later HXA.out hC)
            obtain ⟨q0, q1, q2⟩ := aut_cells (blk_later HXC.out hC)
            obtain ⟨r0, r1, r2⟩ := aut_cells (blk_later HXM.out hC)
            obtain ⟨d26_0, -⟩ := hf
            have e26 : u 26 = _ := d26_0 rfl
            clear d26_0
            refine ⟨wanted_at rfl rfl rfl e26 rfl, ?_⟩
            go_simp
            try rfl
          conv => arg 8; simp only [List.cons_append, List.nil_append]
          apply each_callRG
          · intro u wv hC hf
            obtain ⟨p0, p1, p2⟩ := aut_cells (blk_later HXA.out hC)
            obtain ⟨q0, q1, q2⟩ := aut_cells (blk_later HXC.out hC)
            obtain ⟨r0, r1, r2⟩ := aut_cells (blk_later HXM.out hC)
            obtain ⟨d30_0, d31_1, d29_2, d26_3, -⟩ := hf
            have e30 : u 30 = _ := d30_0 rfl
            clear d30_0
            have e31 : u 31 = _ := d31_1 rfl
            clear d31_1
            have e29 : u 29 = _ := d29_2 rfl
            clear d29_2
            have e26 : u 26 = _ := d26_3 rfl
            clear d26_3
            refine ⟨wanted_at rfl rfl rfl e26 rfl, ?_⟩
            apply Exists.intro; apply Exists.intro; apply And.intro
            · go_simp; exact ⟨rfl, rfl⟩
            · refine (HVA.out _ hC).mono ?_
              rintro e w3 ⟨rfl, hb⟩
              exact ⟨rfl, Below.now hC hb, hb⟩
          conv => arg 8; simp only [List.cons_append, List.nil_append]
          apply each_readG (fun _ => Below.refl _ _)
          · intro u wv hC hf
            obtain ⟨p0, p1, p2⟩ := aut_cells (blk_later HXA.out hC)
            obtain ⟨q0, q1, q2⟩ := aut_cells (blk_later HXC.out hC)
            obtain ⟨r0, r1, r2⟩ := aut_cells (blk_later HXM.out hC)
            obtain ⟨d29_0, d32_1, d26_2, -⟩ := hf
            have e29 : u 29 = _ := d29_0 rfl
            clear d29_0
            have e32 : u 32 = _ := d32_1 rfl
            clear d32_1
            have e26 : u 26 = _ := d26_2 rfl
            clear d26_2
            refine ⟨wanted_at rfl rfl rfl e26 rfl, ?_⟩
            go_simp
            try rfl
          conv => arg 8; simp only [List.cons_append, List.nil_append]
          apply each_read (fun _ => Below.refl _ _) rfl
          · intro u wv hC hf
            obtain ⟨p0, p1, p2⟩ := aut_cells (blk_later HXA.out hC)
            obtain ⟨q0, q1, q2⟩ := aut_cells (blk_later HXC.out hC)
            obtain ⟨r0, r1, r2⟩ := aut_cells (blk_later HXM.out hC)
            obtain ⟨d26_0, d33_1, -⟩ := hf
            have e26 : u 26 = _ := d26_0 rfl
            clear d26_0
            have e33 : u 33 = _ := d33_1 rfl
            clear d33_1
            go_simp
            try rfl
          conv => arg 8; simp only [List.cons_append, List.nil_append]
          apply each_read (fun _ => Below.refl _ _) rfl
          · intro u wv hC hf
            obtain ⟨p0, p1, p2⟩ := aut_cells (blk_later HXA.out hC)
            obtain ⟨q0, q1, q2⟩ := aut_cells (blk_later HXC.out hC)
            obtain ⟨r0, r1, r2⟩ := aut_cells (blk_later HXM.out hC)
            obtain ⟨d34_0, d32_1, -⟩ := hf
            have e34 : u 34 = _ := d34_0 rfl
            clear d34_0
            have e32 : u 32 = _ := d32_1 rfl
            clear d32_1
            go_simp
            try rfl
          conv => arg 8; simp only [List.cons_append, List.nil_append]
          apply each_readG (fun _ => Below.refl _ _)
          · intro u wv hC hf
            obtain ⟨p0, p1, p2⟩ := aut_cells (blk_later HXA.out hC)
            obtain ⟨q0, q1, q2⟩ := aut_cells (blk_later HXC.out hC)
            obtain ⟨r0, r1, r2⟩ := aut_cells (blk_later HXM.out hC)
            obtain ⟨d35_0, -⟩ := hf
            have e35 : u 35 = _ := d35_0 rfl
            clear d35_0
            refine ⟨wanted_at rfl rfl rfl e35 rfl, ?_⟩
            go_simp
            try rfl
          conv => arg 8; simp only [List.cons_append, List.nil_append]
          apply each_readG (fun _ => Below.refl _ _)
          · intro u wv hC hf
            obtain ⟨p0, p1, p2⟩ := aut_cells (blk_later HXA.out hC)
            obtain ⟨q0, q1, q2⟩ := aut_cells (blk_later HXC.out hC)
            obtain ⟨r0, r1, r2⟩ := aut_cells (blk_later HXM.out hC)
            obtain ⟨d35_0, -⟩ := hf
            have e35 : u 35 = _ := d35_0 rfl
            clear d35_0
            refine ⟨wanted_at rfl rfl rfl e35 rfl, ?_⟩
            go_simp
            try rfl
          conv => arg 8; simp only [List.cons_append, List.nil_append]
          apply each_callRG
          · intro u wv hC hf
            obtain ⟨p0, p1, p2⟩ := aut_cells (blk_later HXA.out hC)
            obtain ⟨q0, q1, q2⟩ := aut_cells (blk_later HXC.out hC)
            obtain ⟨r0, r1, r2⟩ := aut_cells (blk_later HXM.out hC)
            obtain ⟨d36_0, d37_1, d35_2, d35_3, -⟩ := hf
            have e36 : u 36 = _ := d36_0 rfl
            clear d36_0
            have e37 : u 37 = _ := d37_1 rfl
            clear d37_1
            have e35 : u 35 = _ := d35_2 rfl
            clear d35_2
            clear d35_3
            refine ⟨wanted_at rfl rfl rfl e35 rfl, ?_⟩
            apply Exists.intro; apply Exists.intro; apply And.intro
            · go_simp; exact ⟨rfl, rfl⟩
            · refine (HSA.out _ hC).mono ?_
              rintro e w3 ⟨rfl, hb⟩
              exact ⟨rfl, Below.now hC hb, hb⟩
          conv => arg 8; simp only [List.cons_append, List.nil_append]
          apply each_readG (fun _ => Below.refl _ _)
          · intro u wv hC hf
            obtain ⟨p0, p1, p2⟩ := aut_cells (blk_later HXA.out hC)
            obtain ⟨q0, q1, q2⟩ := aut_cells (blk_later HXC.out hC)
            obtain ⟨r0, r1, r2⟩ := aut_cells (blk_later HXM.out hC)
            obtain ⟨d38_0, d35_1, -⟩ := hf
            have e38 : u 38 = _ := d38_0 rfl
            clear d38_0
            have e35 : u 35 = _ := d35_1 rfl
            clear d35_1
            refine ⟨wanted_at rfl rfl rfl e35 rfl, ?_⟩
            go_simp
            try rfl
          conv => arg 8; simp only [List.cons_append, List.nil_append]
          apply each_read (fun _ => Below.refl _ _) rfl
          · intro u wv hC hf
            obtain ⟨p0, p1, p2⟩ := aut_cells (blk_later HXA.out hC)
            obtain ⟨q0, q1, q2⟩ := aut_cells (blk_later HXC.out hC)
            obtain ⟨r0, r1, r2⟩ := aut_cells (blk_later HXM.out hC)
            obtain ⟨d35_0, d39_1, -⟩ := hf
            have e35 : u 35 = _ := d35_0 rfl
            clear d35_0
            have e39 : u 39 = _ := d39_1 rfl
            clear d39_1
            go_simp
            try rfl
          conv => arg 8; simp only [List.cons_append, List.nil_append]
          apply each_read (fun _ => Below.refl _ _) rfl
          · intro u wv hC hf
            obtain ⟨p0, p1, p2⟩ := aut_cells (blk_later HXA.out hC)
            obtain ⟨q0, q1, q2⟩ := aut_cells (blk_later HXC.out hC)
            obtain ⟨r0, r1, r2⟩ := aut_cells (blk_later HXM.out hC)
            obtain ⟨d40_0, d38_1, -⟩ := hf
            have e40 : u 40 = _ := d40_0 rfl
            clear d40_0
            have e38 : u 38 = _ := d38_1 rfl
            clear d38_1
            go_simp
            try rfl
          conv => arg 8; simp only [List.cons_append, List.nil_append]
          apply each_readG (fun _ => Below.refl _ _)
          · intro u wv hC hf
            obtain ⟨p0, p1, p2⟩ := aut_cells (blk_later HXA.out hC)
            obtain ⟨q0, q1, q2⟩ := aut_cells (blk_later HXC.out hC)
            obtain ⟨r0, r1, r2⟩ := aut_cells (blk_later HXM.out hC)
            obtain ⟨d41_0, -⟩ := hf
            have e41 : u 41 = _ := d41_0 rfl
            clear d41_0
            refine ⟨wanted_at rfl rfl rfl e41 rfl, ?_⟩
            go_simp
            try rfl
          conv => arg 8; simp only [List.cons_append, List.nil_append]
          apply each_readG (fun _ => Below.refl _ _)
          · intro u wv hC hf
            obtain ⟨p0, p1, p2⟩ := aut_cells (blk_later HXA.out hC)
            obtain ⟨q0, q1, q2⟩ := aut_cells (blk_later HXC.out hC)
            obtain ⟨r0, r1, r2⟩ := aut_cells (blk_later HXM.out hC)
            obtain ⟨d42_0, d41_1, -⟩ := hf
            have e42 : u 42 = _ := d42_0 rfl
            clear d42_0
            have e41 : u 41 = _ := d41_1 rfl
            clear d41_1
            refine ⟨wanted_at rfl rfl rfl e41 rfl, ?_⟩
            go_simp
            try rfl
          conv => arg 8; simp only [List.cons_append, List.nil_append]
          apply each_readG (fun _ => Below.refl _ _)
          · intro u wv hC hf
            obtain ⟨p0, p1, p2⟩ := aut_cells (blk_later HXA.out hC)
            obtain ⟨q0, q1, q2⟩ := aut_cells (blk_later HXC.out hC)
            obtain ⟨r0, r1, r2⟩ := aut_cells (blk_later HXM.out hC)
            obtain ⟨d43_0, d41_1, -⟩ := hf
            have e43 : u 43 = _ := d43_0 rfl
            clear d43_0
            have e41 : u 41 = _ := d41_1 rfl
            clear d41_1
            refine ⟨wanted_at rfl rfl rfl e41 rfl, ?_⟩
            go_simp
            try rfl
          conv => arg 8; simp only [List.cons_append, List.nil_append]
          apply each_readG (fun _ => Below.refl _ _)
          · intro u wv hC hf
            obtain ⟨p0, p1, p2⟩ := aut_cells (blk_later HXA.out hC)
            obtain ⟨q0, q1, q2⟩ := aut_cells (blk_later HXC.out hC)
            obtain ⟨r0, r1, r2⟩ := aut_cells (blk_later HXM.out hC)
            obtain ⟨d41_0, -⟩ := hf
            have e41 : u 41 = _ := d41_0 rfl
            clear d41_0
            refine ⟨wanted_at rfl rfl rfl e41 rfl, ?_⟩
            go_simp
            try rfl
          conv => arg 8; simp only [List.cons_append, List.nil_append]
          apply each_readG (fun _ => Below.refl _ _)
          · intro u wv hC hf
            obtain ⟨p0, p1, p2⟩ := aut_cells (blk_later HXA.out hC)
            obtain ⟨q0, q1, q2⟩ := aut_cells (blk_later HXC.out hC)
            obtain ⟨r0, r1, r2⟩ := aut_cells (blk_later HXM.out hC)
            obtain ⟨d45_0, d41_1, -⟩ := hf
            have e45 : u 45 = _ := d45_0 rfl
            clear d45_0
            have e41 : u 41 = _ := d41_1 rfl
            clear d41_1
            refine ⟨wanted_at rfl rfl rfl e41 rfl, ?_⟩
            go_simp
            try rfl
          conv => arg 8; simp only [List.cons_append, List.nil_append]
          apply each_readG (fun _ => Below.refl _ _)
          · intro u wv hC hf
            obtain ⟨p0, p1, p2⟩ := aut_cells (blk_later HXA.out hC)
            obtain ⟨q0, q1, q2⟩ := aut_cells (blk_later HXC.out hC)
            obtain ⟨r0, r1, r2⟩ := aut_cells (blk_later HXM.out hC)
            obtain ⟨d46_0, d41_1, -⟩ := hf
            have e46 : u 46 = _ := d46_0 rfl
            clear d46_0
            have e41 : u 41 = _ := d41_1 rfl
            clear d41_1
            refine ⟨wanted_at rfl rfl rfl e41 rfl, ?_⟩
            go_simp
            try rfl
          conv => arg 8; simp only [List.cons_append, List.nil_append]
          apply each_readG (fun _ => Below.refl _ _)
          · intro u wv hC hf
            obtain ⟨p0, p1, p2⟩ := aut_cells (blk_later HXA.out hC)
            obtain ⟨q0, q1, q2⟩ := aut_cells (blk_later HXC.out hC)
            obtain ⟨r0, r1, r2⟩ := aut_cells (blk_later HXM.out hC)
            obtain ⟨d44_0, d47_1, d41_2, -⟩ := hf
            have e44 : u 44 = _ := d44_0 rfl
            clear d44_0
            have e47 : u 47 = _ := d47_1 rfl
            clear d47_1
            have e41 : u 41 = _ := d41_2 rfl
            clear d41_2
            refine ⟨wanted_at rfl rfl rfl e41 rfl, ?_⟩
            go_simp
            try rfl
          conv => arg 8; simp only [List.cons_append, List.nil_append]
          apply each_read (fun _ => Below.refl _ _) rfl
          · intro u wv hC hf
            obtain ⟨p0, p1, p2⟩ := aut_cells (blk_later HXA.out hC)
            obtain ⟨q0, q1, q2⟩ := aut_cells (blk_later HXC.out hC)
            obtain ⟨r0, r1, r2⟩ := aut_cells (blk_later HXM.out hC)
            obtain ⟨d41_0, d48_1, -⟩ := hf
            have e41 : u 41 = _ := d41_0 rfl
            clear d41_0
            have e48 : u 48 = _ := d48_1 rfl
            clear d48_1
            go_simp
            try rfl
          conv => arg 8; simp only [List.cons_append, List.nil_append]
          apply each_read (fun _ => Below.refl _ _) rfl
          · intro u wv hC hf
            obtain ⟨p0, p1, p2⟩ := aut_cells (blk_later HXA.out hC)
            obtain ⟨q0, q1, q2⟩ := aut_cells (blk_later HXC.out hC)
            obtain ⟨r0, r1, r2⟩ := aut_cells (blk_later HXM.out hC)
            obtain ⟨d49_0, d41_1, -⟩ := hf
            have e49 : u 49 = _ := d49_0 rfl
            clear d49_0
            have e41 : u 41 = _ := d41_1 rfl
            clear d41_1
            go_simp
            try rfl
          conv => arg 8; simp only [List.cons_append, List.nil_append]
          apply each_readG (fun _ => Below.refl _ _)
          · intro u wv hC hf
            obtain ⟨p0, p1, p2⟩ := aut_cells (blk_later HXA.out hC)
            obtain ⟨q0, q1, q2⟩ := aut_cells (blk_later HXC.out hC)
            obtain ⟨r0, r1, r2⟩ := aut_cells (blk_later HXM.out hC)
            obtain ⟨d50_0, -⟩ := hf
            have e50 : u 50 = _ := d50_0 rfl
            clear d50_0
            refine ⟨wanted_at rfl rfl rfl e50 rfl, ?_⟩
            go_simp
            try rfl
          conv => arg 8; simp only [List.cons_append, List.nil_append]
          apply each_readG (fun _ => Below.refl _ _)
          · intro u wv hC hf
            obtain ⟨p0, p1, p2⟩ := aut_cells (blk_later HXA.out hC)
            obtain ⟨q0, q1, q2⟩ := aut_cells (blk_later HXC.out hC)
            obtain ⟨r0, r1, r2⟩ := aut_cells (blk_later HXM.out hC)
            obtain ⟨d50_0, -⟩ := hf
            have e50 : u 50 = _ := d50_0 rfl
            clear d50_0
            refine ⟨wanted_at rfl rfl rfl e50 rfl, ?_⟩
            go_simp
            try rfl
          conv => arg 8; simp only [List.cons_append, List.nil_append]
          apply each_callRG
          · intro u wv hC hf
            obtain ⟨p0, p1, p2⟩ := aut_cells (blk_later HXA.out hC)
            obtain ⟨q0, q1, q2⟩ := aut_cells (blk_later HXC.out hC)
            obtain ⟨r0, r1, r2⟩ := aut_cells (blk_later HXM.out hC)
            obtain ⟨d51_0, d52_1, d50_2, d50_3, -⟩ := hf
            have e51 : u 51 = _ := d51_0 rfl
            clear d51_0
            have e52 : u 52 = _ := d52_1 rfl
            clear d52_1
            have e50 : u 50 = _ := d50_2 rfl
            clear d50_2
            clear d50_3
            refine ⟨wanted_at rfl rfl rfl e50 rfl, ?_⟩
            apply Exists.intro; apply Exists.intro; apply And.intro
            · go_simp; exact ⟨rfl, rfl⟩
            · refine (HSC.out _ hC).mono ?_
              rintro e w3 ⟨rfl, hb⟩
              exact ⟨rfl, Below.now hC hb, hb⟩
          conv => arg 8; simp only [List.cons_append, List.nil_append]
          apply each_read (fun _ => Below.refl _ _) rfl
          · intro u wv hC hf
            obtain ⟨p0, p1, p2⟩ := aut_cells (blk_later HXA.out hC)
            obtain ⟨q0, q1, q2⟩ := aut_cells (blk_later HXC.out hC)
            obtain ⟨r0, r1, r2⟩ := aut_cells (blk_later HXM.out hC)
            obtain ⟨d50_0, d53_1, -⟩ := hf
            have e50 : u 50 = _ := d50_0 rfl
            clear d50_0
            have e53 : u 53 = _ := d53_1 rfl
            clear d53_1
            go_simp
            try rfl
          intro u v9 d9 hall
          obtain ⟨a0, a1, a2, a3, a4, a5, a6, a7, a8, a9, a10, a11, a12, a13, a14, a15, a16, a17, a18, a19, a20, a21, a22, a23, a24, a25, a26, a27, a28, a29, a30, a31, a32, a33, a34, a35, a36, a37, a38, a39, a40, a41, a42, a43, a44, a45, a46, a47, a48, a49, a50, a51, a52, a53, a54, -⟩ := hall
          have e0 : u 0 = _ := a0
          clear a0
          have e1 : u 1 = _ := a1
          clear a1
          have e2 : u 2 = _ := a2
          clear a2
          have e3 : u 3 = _ := a3
          clear a3
          have e4 : u 4 = _ := a4
          clear a4
          have e5 : u 5 = _ := a5
          clear a5
          have e6 : u 6 = _ := a6
          clear a6
          have e7 : u 7 = _ := a7
          clear a7
          have e8 : u 8 = _ := a8
          clear a8
          have e9 : u 9 = _ := a9
          clear a9
          have e10 : u 10 = _ := a10
          clear a10
          have e11 : u 11 = _ := a11
          clear a11
          have e12 : u 12 = _ := a12
          clear a12
          have e13 : u 13 = _ := a13
          clear a13
          have e14 : u 14 = _ := a14
          clear a14
          have e15 : u 15 = _ := a15
          clear a15
          have e16 : u 16 = _ := a16
          clear a16
          have e17 : u 17 = _ := a17
          clear a17
          have e18 : u 18 = _ := a18
          clear a18
          have e19 : u 19 = _ := a19
          clear a19
          have e20 : u 20 = _ := a20
          clear a20
          have e21 : u 21 = _ := a21
          clear a21
          have e22 : u 22 = _ := a22
          clear a22
          have e23 : u 23 = _ := a23
          clear a23
          have e24 : u 24 = _ := a24
          clear a24
          have e25 : u 25 = _ := a25
          clear a25
          have e26 : u 26 = _ := a26
          clear a26
          have e27 : u 27 = _ := a27
          clear a27
          have e28 : u 28 = _ := a28
          clear a28
          have e29 : u 29 = _ := a29
          clear a29
          have e30 : u 30 = _ := a30
          clear a30
          have e31 : u 31 = _ := a31
          clear a31
          have e32 : u 32 = _ := a32
          clear a32
          have e33 : u 33 = _ := a33
          clear a33
          have e34 : u 34 = _ := a34
          clear a34
          have e35 : u 35 = _ := a35
          clear a35
          have e36 : u 36 = _ := a36
          clear a36
          have e37 : u 37 = _ := a37
          clear a37
          have e38 : u 38 = _ := a38
          clear a38
          have e39 : u 39 = _ := a39
          clear a39
          have e40 : u 40 = _ := a40
          clear a40
          have e41 : u 41 = _ := a41
          clear a41
          have e42 : u 42 = _ := a42
          clear a42
          have e43 : u 43 = _ := a43
          clear a43
          have e44 : u 44 = _ := a44
          clear a44
          have e45 : u 45 = _ := a45
          clear a45
          have e46 : u 46 = _ := a46
          clear a46
          have e47 : u 47 = _ := a47
          clear a47
          have e48 : u 48 = _ := a48
          clear a48
          have e49 : u 49 = _ := a49
          clear a49
          have e50 : u 50 = _ := a50
          clear a50
          have e51 : u 51 = _ := a51
          clear a51
          have e52 : u 52 = _ := a52
          clear a52
          have e53 : u 53 = _ := a53
          clear a53
          have e54 : u 54 = _ := a54
          clear a54
          simp only [e0, e1, e2, e3, e4, e5, e6, e7, e8, e9, e10, e11, e12, e13, e14, e15, e16, e17, e18, e19, e20, e21, e22, e23, e24, e25, e26, e27, e28, e29, e30, e31, e32, e33, e34, e35, e36, e37, e38, e39, e40, e41, e42, e43, e44, e45, e46, e47, e48, e49, e50, e51, e52, e53, e54]
          clear e0 e1 e2 e3 e4 e5 e6 e7 e8 e9 e10 e11 e12 e13 e14 e15 e16 e17 e18 e19 e20 e21 e22 e23 e24 e25 e26 e27 e28 e29 e30 e31 e32 e33 e34 e35 e36 e37 e38 e39 e40 e41 e42 e43 e44 e45 e46 e47 e48 e49 e50 e51 e52 e53 e54
          go_wp2_with fail
          go_meet
          exact ⟨rfl, d9⟩
        case rest =>
          obtain ⟨rfl, hb⟩ := hcut
          replace HBY := Lib.hid (HBY.out.later hb)
          replace HT := Lib.hid (HT.out.later hb)
          replace HB := Lib.hid (Below.now HB.out hb)
          replace HIA := Lib.hid (And.intro (HIA.out.1.later hb) (HIA.out.2.later hb))
          replace HXA := Lib.hid (blk_later HXA.out hb)
          replace HIB := Lib.hid (And.intro (HIB.out.1.later hb) (HIB.out.2.later hb))
          replace HXB := Lib.hid (blk_later HXB.out hb)
          replace HIC := Lib.hid (And.intro (HIC.out.1.later hb) (HIC.out.2.later hb))
          replace HXC := Lib.hid (blk_later HXC.out hb)
          replace HIM := Lib.hid (And.intro (HIM.out.1.later hb) (HIM.out.2.later hb))
          replace HXM := Lib.hid (blk_later HXM.out hb)
          clear hb HCP HCQ HMP HMA HIC HIM HXC HXM HT hlm
          have HMT : Hid (Calls Tryz.prog 17 #[.agg #[.int .i64 (ka : Nat), .slice aA nA.length cA, .slice aA2 fA.length cA2], .agg #[.int .i64 (kb : Nat), .slice aB nB.length cB, .slice aB2 fB.length cB2]] wc fun e w' => ∃ (kx : Nat) (aX : Option Addr) (nX : List Int) (cX : Nat) (aX2 : Option Addr) (fX : List Bool) (cX2 : Nat) (t : Bool), e = .returned (.tuple #[.agg #[.int .i64 (kx : Nat), .slice aX nX.length cX, .slice aX2 fX.length cX2], .bool t]) ∧ (t = true → kx = ka ∧ ka = kb ∧ AutP ka nX fX ∧ (∀ v, accA ka nX fX 0 v ↔ accA ka nA fA 0 v ∧ accA kb nB fB 0 v) ∧ IntsIn w' aX nX ∧ BoolsIn w' aX2 fX) ∧ Below wc.heap.size wc w') := Lib.hid (by
            by_cases hkk : ka = kb
            · subst hkk
              refine (implMeet_any ka nA nB fA fB aA aA2 aB aB2 cA cA2 cB cB2 wc HIA.out.1 HIA.out.2 hA HIB.out.1 HIB.out.2 hB).mono ?_
              rintro e w' (⟨h1, h2⟩ | ⟨aN, nx, cN, aF, fin, cF, h1, h2, h3, h5, h6⟩)
              · exact ⟨0, none, [], 0, none, [], 0, false, h1, fun h => Bool.noConfusion h, h2⟩
              · exact ⟨ka, aN, nx, cN, aF, fin, cF, true, h1, fun _ => ⟨rfl, rfl, h2, h3, h5.ints, h5.bools⟩, h6⟩
            · refine (implMeet_no ka kb nA nB fA fB aA aA2 aB aB2 cA cA2 cB cB2 wc HIA.out.1 hA HIB.out.1 hB hkk).mono ?_
              rintro e w' ⟨h1, h2⟩
              exact ⟨0, none, [], 0, none, [], 0, false, h1, fun h => Bool.noConfusion h, h2⟩)
          obtain ⟨p0, p1, p2⟩ := aut_cells HXA.out
          obtain ⟨q0, q1, q2⟩ := aut_cells HXB.out
          go_wp2_with fail
          refine HMT.out.mono ?_
          rintro e w11 ⟨kx, aX, nX, cX, aX2, fX, cX2, t, rfl, hx, hb⟩
          clear p0 p1 p2 q0 q1 q2 HMT
          replace HBY := Lib.hid (HBY.out.later hb)
          replace HB := Lib.hid (Below.now HB.out hb)
          replace HIA := Lib.hid (And.intro (HIA.out.1.later hb) (HIA.out.2.later hb))
          replace HXA := Lib.hid (blk_later HXA.out hb)
          replace HIB := Lib.hid (And.intro (HIB.out.1.later hb) (HIB.out.2.later hb))
          replace HXB := Lib.hid (blk_later HXB.out hb)
          have HX : Hid (t = true → kx = ka ∧ ka = kb ∧ AutP ka nX fX ∧ ∀ v, accA ka nX fX 0 v ↔ accA ka nA fA 0 v ∧ accA kb nB fB 0 v) := Lib.hid (fun h => ⟨(hx h).1, (hx h).2.1, (hx h).2.2.1, (hx h).2.2.2.1⟩)
          have HIX : Hid (t = true → IntsIn w11 aX nX ∧ BoolsIn w11 aX2 fX) := Lib.hid (fun h => (hx h).2.2.2.2)
          clear hx hb
          have hb0 := alloc_belowS w11 (.cells #[.int .i64 (kx : Nat), .slice aX nX.length cX, .slice aX2 fX.length cX2] 30)
          replace HBY := Lib.hid (HBY.out.later hb0)
          replace HB := Lib.hid (Below.now HB.out hb0)
          replace HIA := Lib.hid (And.intro (HIA.out.1.later hb0) (HIA.out.2.later hb0))
          replace HXA := Lib.hid (blk_later HXA.out hb0)
          replace HIB := Lib.hid (And.intro (HIB.out.1.later hb0) (HIB.out.2.later hb0))
          replace HXB := Lib.hid (blk_later HXB.out hb0)
          replace HIX := Lib.hid (fun h => And.intro ((HIX.out h).1.later hb0) ((HIX.out h).2.later hb0))
          have HXX := Lib.hid (alloc_at w11 (.cells #[.int .i64 (kx : Nat), .slice aX nX.length cX, .slice aX2 fX.length cX2] 30))
          clear hb0
          go_upto_region 22 with fail
          generalize w11.alloc (.cells #[.int .i64 (kx : Nat), .slice aX nX.length cX, .slice aX2 fX.length cX2] 30) = v11 at *
          generalize w11.heap.size = gX at *
          go_cut [169] (fun v wx => v = .bool false ∧ Below v11.heap.size v11 wx)
          case first =>
            cases t
            · clear HX HIX
              refine region_each (fun W => Below v11.heap.size v11 W) (fun W W2 => Below W.heap.size W W2) (fun u => by simp only [fPut, Act.put, List.setIfInBounds_toArray, List.set_cons_succ, List.set_cons_zero, Nat.zero_add, Nat.reduceAdd]; rfl) (by kernel_rfl) (by kernel_rfl) (by kernel_rfl) (Below.drew (Below.refl _ _)) ?_
              apply each_read (fun _ => Below.refl _ _) rfl
              · intro u wv hC hf
                obtain ⟨p0, p1, p2⟩ := aut_cells (blk_later HXA.out hC)
                obtain ⟨q0, q1, q2⟩ := aut_cells (blk_later HXB.out hC)
                obtain ⟨r0, r1, r2⟩ := aut_cells (blk_later HXX.out hC)
                clear hf
                go_simp
                try rfl
              apply each_read (fun _ => Below.refl _ _) rfl
              · intro u wv hC hf
                obtain ⟨p0, p1, p2⟩ := aut_cells (blk_later HXA.out hC)
                obtain ⟨q0, q1, q2⟩ := aut_cells (blk_later HXB.out hC)
                obtain ⟨r0, r1, r2⟩ := aut_cells (blk_later HXX.out hC)
                obtain ⟨d0_0, -⟩ := hf
                have e0 : u 0 = _ := d0_0 rfl
                clear d0_0
                go_simp
                try rfl
              conv => arg 8; simp only [List.cons_append, List.nil_append]
              refine each_off ?_ ?_
              · intro u wv hC hf
                obtain ⟨d1_0, -⟩ := hf
                have e1 : u 1 = _ := d1_0 rfl
                clear d1_0
                exact wanted_at rfl rfl rfl e1 rfl
              conv => arg 8; simp only [List.cons_append, List.nil_append]
              refine each_off ?_ ?_
              · intro u wv hC hf
                obtain ⟨d1_0, -⟩ := hf
                have e1 : u 1 = _ := d1_0 rfl
                clear d1_0
                exact wanted_at rfl rfl rfl e1 rfl
              conv => arg 8; simp only [List.cons_append, List.nil_append]
              refine each_off ?_ ?_
              · intro u wv hC hf
                obtain ⟨d2_0, d3_1, d1_2, d1_3, -⟩ := hf
                have e2 : u 2 = _ := d2_0 rfl
                clear d2_0
                have e3 : u 3 = _ := d3_1 rfl
                clear d3_1
                have e1 : u 1 = _ := d1_2 rfl
                clear d1_2
                clear d1_3
                exact wanted_at rfl rfl rfl e1 rfl
              conv => arg 8; simp only [List.cons_append, List.nil_append]
              refine each_off ?_ ?_
              · intro u wv hC hf
                obtain ⟨d1_0, -⟩ := hf
                have e1 : u 1 = _ := d1_0 rfl
                clear d1_0
                exact wanted_at rfl rfl rfl e1 rfl
              conv => arg 8; simp only [List.cons_append, List.nil_append]
              refine each_off ?_ ?_
              · intro u wv hC hf
                obtain ⟨d1_0, -⟩ := hf
                have e1 : u 1 = _ := d1_0 rfl
                clear d1_0
                exact wanted_at rfl rfl rfl e1 rfl
              conv => arg 8; simp only [List.cons_append, List.nil_append]
              refine each_off ?_ ?_
              · intro u wv hC hf
                obtain ⟨d5_0, d6_1, d4_2, d1_3, -⟩ := hf
                have e5 : u 5 = _ := d5_0 rfl
                clear d5_0
                have e6 : u 6 = _ := d6_1 rfl
                clear d6_1
                have e4 : u 4 = _ := d4_2 rfl
                clear d4_2
                have e1 : u 1 = _ := d1_3 rfl
                clear d1_3
                exact wanted_at rfl rfl rfl e1 rfl
              conv => arg 8; simp only [List.cons_append, List.nil_append]
              refine each_off ?_ ?_
              · intro u wv hC hf
                obtain ⟨d7_0, d7_1, d1_2, -⟩ := hf
                have e7 : u 7 = _ := d7_0 rfl
                clear d7_0
                clear d7_1
                have e1 : u 1 = _ := d1_2 rfl
                clear d1_2
                exact wanted_at rfl rfl rfl e1 rfl
              conv => arg 8; simp only [List.cons_append, List.nil_append]
              refine each_off ?_ ?_
              · intro u wv hC hf
                obtain ⟨d8_0, -⟩ := hf
                have e8 : u 8 = _ := d8_0 rfl
                clear d8_0
                exact wanted_undef rfl rfl rfl e8
              conv => arg 8; simp only [List.cons_append, List.nil_append]
              refine each_off ?_ ?_
              · intro u wv hC hf
                obtain ⟨d8_0, -⟩ := hf
                have e8 : u 8 = _ := d8_0 rfl
                clear d8_0
                exact wanted_undef rfl rfl rfl e8
              conv => arg 8; simp only [List.cons_append, List.nil_append]
              refine each_off ?_ ?_
              · intro u wv hC hf
                obtain ⟨d9_0, d10_1, d8_2, d8_3, -⟩ := hf
                have e9 : u 9 = _ := d9_0 rfl
                clear d9_0
                have e10 : u 10 = _ := d10_1 rfl
                clear d10_1
                have e8 : u 8 = _ := d8_2 rfl
                clear d8_2
                clear d8_3
                exact wanted_undef rfl rfl rfl e8
              conv => arg 8; simp only [List.cons_append, List.nil_append]
              refine each_off ?_ ?_
              · intro u wv hC hf
                obtain ⟨d8_0, d11_1, d1_2, -⟩ := hf
                have e8 : u 8 = _ := d8_0 rfl
                clear d8_0
                have e11 : u 11 = _ := d11_1 rfl
                clear d11_1
                have e1 : u 1 = _ := d1_2 rfl
                clear d1_2
                exact wanted_at rfl rfl rfl e1 rfl
              conv => arg 8; simp only [List.cons_append, List.nil_append]
              refine each_off ?_ ?_
              · intro u wv hC hf
                obtain ⟨d4_0, d12_1, d1_2, -⟩ := hf
                have e4 : u 4 = _ := d4_0 rfl
                clear d4_0
                have e12 : u 12 = _ := d12_1 rfl
                clear d12_1
                have e1 : u 1 = _ := d1_2 rfl
                clear d1_2
                exact wanted_at rfl rfl rfl e1 rfl
              conv => arg 8; simp only [List.cons_append, List.nil_append]
              apply each_read (fun _ => Below.refl _ _) rfl
              · intro u wv hC hf
                obtain ⟨p0, p1, p2⟩ := aut_cells (blk_later HXA.out hC)
                obtain ⟨q0, q1, q2⟩ := aut_cells (blk_later HXB.out hC)
                obtain ⟨r0, r1, r2⟩ := aut_cells (blk_later HXX.out hC)
                obtain ⟨d1_0, d13_1, -⟩ := hf
                have e1 : u 1 = _ := d1_0 rfl
                clear d1_0
                have e13 : u 13 = _ := d13_1 rfl
                clear d13_1
                go_simp
                try rfl
              conv => arg 8; simp only [List.cons_append, List.nil_append]
              apply each_read (fun _ => Below.refl _ _) rfl
              · intro u wv hC hf
                obtain ⟨p0, p1, p2⟩ := aut_cells (blk_later HXA.out hC)
                obtain ⟨q0, q1, q2⟩ := aut_cells (blk_later HXB.out hC)
                obtain ⟨r0, r1, r2⟩ := aut_cells (blk_later HXX.out hC)
                obtain ⟨d14_0, d11_1, -⟩ := hf
                have e14 : u 14 = _ := d14_0 rfl
                clear d14_0
                have e11 : u 11 = _ := d11_1 rfl
                clear d11_1
                go_simp
                try rfl
              conv => arg 8; simp only [List.cons_append, List.nil_append]
              apply each_readG (fun _ => Below.refl _ _)
              · intro u wv hC hf
                obtain ⟨p0, p1, p2⟩ := aut_cells (blk_later HXA.out hC)
                obtain ⟨q0, q1, q2⟩ := aut_cells (blk_later HXB.out hC)
                obtain ⟨r0, r1, r2⟩ := aut_cells (blk_later HXX.out hC)
                obtain ⟨d15_0, -⟩ := hf
                have e15 : u 15 = _ := d15_0 rfl
                clear d15_0
                refine ⟨wanted_at rfl rfl rfl e15 rfl, ?_⟩
                go_simp
                try rfl
              conv => arg 8; simp only [List.cons_append, List.nil_append]
              apply each_readG (fun _ => Below.refl _ _)
              · intro u wv hC hf
                obtain ⟨p0, p1, p2⟩ := aut_cells (blk_later HXA.out hC)
                obtain ⟨q0, q1, q2⟩ := aut_cells (blk_later HXB.out hC)
                obtain ⟨r0, r1, r2⟩ := aut_cells (blk_later HXX.out hC)
                obtain ⟨d16_0, d15_1, d15_2, -⟩ := hf
                have e16 : u 16 = _ := d16_0 rfl
                clear d16_0
                have e15 : u 15 = _ := d15_1 rfl
                clear d15_1
                clear d15_2
                refine ⟨wanted_at rfl rfl rfl e15 rfl, ?_⟩
                go_simp
                try rfl
              conv => arg 8; simp only [List.cons_append, List.nil_append]
              refine each_off ?_ ?_
              · intro u wv hC hf
                obtain ⟨d17_0, -⟩ := hf
                have e17 : u 17 = _ := d17_0 rfl
                clear d17_0
                exact wanted_at rfl rfl rfl e17 rfl
              conv => arg 8; simp only [List.cons_append, List.nil_append]
              refine each_off ?_ ?_
              · intro u wv hC hf
                obtain ⟨d18_0, d17_1, -⟩ := hf
                have e18 : u 18 = _ := d18_0 rfl
                clear d18_0
                have e17 : u 17 = _ := d17_1 rfl
                clear d17_1
                exact wanted_at rfl rfl rfl e17 rfl
              conv => arg 8; simp only [List.cons_append, List.nil_append]
              refine each_off ?_ ?_
              · intro u wv hC hf
                obtain ⟨d17_0, -⟩ := hf
                have e17 : u 17 = _ := d17_0 rfl
                clear d17_0
                exact wanted_at rfl rfl rfl e17 rfl
              conv => arg 8; simp only [List.cons_append, List.nil_append]
              refine each_off ?_ ?_
              · intro u wv hC hf
                obtain ⟨d20_0, d17_1, -⟩ := hf
                have e20 : u 20 = _ := d20_0 rfl
                clear d20_0
                have e17 : u 17 = _ := d17_1 rfl
                clear d17_1
                exact wanted_at rfl rfl rfl e17 rfl
              conv => arg 8; simp only [List.cons_append, List.nil_append]
              refine each_off ?_ ?_
              · intro u wv hC hf
                obtain ⟨d19_0, d21_1, d17_2, -⟩ := hf
                have e19 : u 19 = _ := d19_0 rfl
                clear d19_0
                have e21 : u 21 = _ := d21_1 rfl
                clear d21_1
                have e17 : u 17 = _ := d17_2 rfl
                clear d17_2
                exact wanted_at rfl rfl rfl e17 rfl
              conv => arg 8; simp only [List.cons_append, List.nil_append]
              apply each_readG (fun _ => Below.refl _ _)
              · intro u wv hC hf
                obtain ⟨p0, p1, p2⟩ := aut_cells (blk_later HXA.out hC)
                obtain ⟨q0, q1, q2⟩ := aut_cells (blk_later HXB.out hC)
                obtain ⟨r0, r1, r2⟩ := aut_cells (blk_later HXX.out hC)
                obtain ⟨d17_0, d22_1, d15_2, -⟩ := hf
                have e17 : u 17 = _ := d17_0 rfl
                clear d17_0
                have e22 : u 22 = _ := d22_1 rfl
                clear d22_1
                have e15 : u 15 = _ := d15_2 rfl
                clear d15_2
                refine ⟨wanted_at rfl rfl rfl e15 rfl, ?_⟩
                go_simp
                try rfl
              conv => arg 8; simp only [List.cons_append, List.nil_append]
              apply each_read (fun _ => Below.refl _ _) rfl
              · intro u wv hC hf
                obtain ⟨p0, p1, p2⟩ := aut_cells (blk_later HXA.out hC)
                obtain ⟨q0, q1, q2⟩ := aut_cells (blk_later HXB.out hC)
                obtain ⟨r0, r1, r2⟩ := aut_cells (blk_later HXX.out hC)
                obtain ⟨d15_0, d23_1, -⟩ := hf
                have e15 : u 15 = _ := d15_0 rfl
                clear d15_0
                have e23 : u 23 = _ := d23_1 rfl
                clear d23_1
                go_simp
                try rfl
              intro u v9 d9 hall
              obtain ⟨a0, a1, a2, a3, a4, a5, a6, a7, a8, a9, a10, a11, a12, a13, a14, a15, a16, a17, a18, a19, a20, a21, a22, a23, a24, -⟩ := hall
              have e0 : u 0 = _ := a0
              clear a0
              have e1 : u 1 = _ := a1
              clear a1
              have e2 : u 2 = _ := a2
              clear a2
              have e3 : u 3 = _ := a3
              clear a3
              have e4 : u 4 = _ := a4
              clear a4
              have e5 : u 5 = _ := a5
              clear a5
              have e6 : u 6 = _ := a6
              clear a6
              have e7 : u 7 = _ := a7
              clear a7
              have e8 : u 8 = _ := a8
              clear a8
              have e9 : u 9 = _ := a9
              clear a9
              have e10 : u 10 = _ := a10
              clear a10
              have e11 : u 11 = _ := a11
              clear a11
              have e12 : u 12 = _ := a12
              clear a12
              have e13 : u 13 = _ := a13
              clear a13
              have e14 : u 14 = _ := a14
              clear a14
              have e15 : u 15 = _ := a15
              clear a15
              have e16 : u 16 = _ := a16
              clear a16
              have e17 : u 17 = _ := a17
              clear a17
              have e18 : u 18 = _ := a18
              clear a18
              have e19 : u 19 = _ := a19
              clear a19
              have e20 : u 20 = _ := a20
              clear a20
              have e21 : u 21 = _ := a21
              clear a21
              have e22 : u 22 = _ := a22
              clear a22
              have e23 : u 23 = _ := a23
              clear a23
              have e24 : u 24 = _ := a24
              clear a24
              simp only [e0, e1, e2, e3, e4, e5, e6, e7, e8, e9, e10, e11, e12, e13, e14, e15, e16, e17, e18, e19, e20, e21, e22, e23, e24]
              clear e0 e1 e2 e3 e4 e5 e6 e7 e8 e9 e10 e11 e12 e13 e14 e15 e16 e17 e18 e19 e20 e21 e22 e23 e24
              go_wp2_with fail
              go_meet
              exact ⟨rfl, d9⟩
            · obtain ⟨rfl, rfl, hXP, hXA⟩ := HX.out rfl
              have HVX : Hid (∀ W, Below v11.heap.size v11 W → Calls Tryz.prog 9 #[.agg #[.int .i64 (kx : Nat), .slice aX nX.length cX, .slice aX2 fX.length cX2], .string v] W fun e w' => e = .returned (.bool (pB (accA kx nA fA 0 (ltrs v) ∧ accA kx nB fB 0 (ltrs v)))) ∧ Below W.heap.size W w') := Lib.hid (fun W hW => (implAccepts_any kx nX fX aX aX2 cX cX2 v W ((HIX.out rfl).1.later hW) ((HIX.out rfl).2.later hW) hXP (by unfold maxLen; omega)).mono fun e w' h => RetP.det (two_of (f := accA kx nX fX 0) (g := fun z => accA kx nA fA 0 z ∧ accA kx nB fB 0 z) HV.out (hXA _)) h)
              have HVA : Hid (∀ W, Below v11.heap.size v11 W → Calls Tryz.prog 9 #[.agg #[.int .i64 (kx : Nat), .slice aA nA.length cA, .slice aA2 fA.length cA2], .string v] W fun e w' => e = .returned (.bool (pB (accA kx nA fA 0 (ltrs v)))) ∧ Below W.heap.size W w') := Lib.hid (fun W hW => (implAccepts_any kx nA fA aA aA2 cA cA2 v W (HIA.out.1.later hW) (HIA.out.2.later hW) hA (by unfold maxLen; omega)).mono fun e w' h => RetP.det (two_of (f := accA kx nA fA 0) (g := accA kx nA fA 0) HV.out Iff.rfl) h)
              have HVB : Hid (∀ W, Below v11.heap.size v11 W → Calls Tryz.prog 9 #[.agg #[.int .i64 (kx : Nat), .slice aB nB.length cB, .slice aB2 fB.length cB2], .string v] W fun e w' => e = .returned (.bool (pB (accA kx nB fB 0 (ltrs v)))) ∧ Below W.heap.size W w') := Lib.hid (fun W hW => (implAccepts_any kx nB fB aB aB2 cB cB2 v W (HIB.out.1.later hW) (HIB.out.2.later hW) hB (by unfold maxLen; omega)).mono fun e w' h => RetP.det (two_of (f := accA kx nB fB 0) (g := accA kx nB fB 0) HV.out Iff.rfl) h)
              have hxab : pB (accA kx nA fA 0 (ltrs v) ∧ accA kx nB fB 0 (ltrs v)) = (pB (accA kx nA fA 0 (ltrs v)) && pB (accA kx nB fB 0 (ltrs v))) := by
                rw [Bool.eq_iff_iff, Bool.and_eq_true, pB_iff, pB_iff, pB_iff]
              rw [hxab] at HVX
              clear hxab hXP hXA HX HIX
              generalize pB (accA kx nA fA 0 (ltrs v)) = ba at *
              generalize pB (accA kx nB fB 0 (ltrs v)) = bb at *
              cases ba
              · rw [Bool.false_and] at HVX
                refine region_each (fun W => Below v11.heap.size v11 W) (fun W W2 => Below W.heap.size W W2) (fun u => by simp only [fPut, Act.put, List.setIfInBounds_toArray, List.set_cons_succ, List.set_cons_zero, Nat.zero_add, Nat.reduceAdd]; rfl) (by kernel_rfl) (by kernel_rfl) (by kernel_rfl) (Below.drew (Below.refl _ _)) ?_
                apply each_read (fun _ => Below.refl _ _) rfl
                · intro u wv hC hf
                  obtain ⟨p0, p1, p2⟩ := aut_cells (blk_later HXA.out hC)
                  obtain ⟨q0, q1, q2⟩ := aut_cells (blk_later HXB.out hC)
                  obtain ⟨r0, r1, r2⟩ := aut_cells (blk_later HXX.out hC)
                  clear hf
                  go_simp
                  try rfl
                apply each_read (fun _ => Below.refl _ _) rfl
                · intro u wv hC hf
                  obtain ⟨p0, p1, p2⟩ := aut_cells (blk_later HXA.out hC)
                  obtain ⟨q0, q1, q2⟩ := aut_cells (blk_later HXB.out hC)
                  obtain ⟨r0, r1, r2⟩ := aut_cells (blk_later HXX.out hC)
                  obtain ⟨d0_0, -⟩ := hf
                  have e0 : u 0 = _ := d0_0 rfl
                  clear d0_0
                  go_simp
                  try rfl
                conv => arg 8; simp only [List.cons_append, List.nil_append]
                apply each_readG (fun _ => Below.refl _ _)
                · intro u wv hC hf
                  obtain ⟨p0, p1, p2⟩ := aut_cells (blk_later HXA.out hC)
                  obtain ⟨q0, q1, q2⟩ := aut_cells (blk_later HXB.out hC)
                  obtain ⟨r0, r1, r2⟩ := aut_cells (blk_later HXX.out hC)
                  obtain ⟨d1_0, -⟩ := hf
                  have e1 : u 1 = _ := d1_0 rfl
                  clear d1_0
                  refine ⟨wanted_at rfl rfl rfl e1 rfl, ?_⟩
                  go_simp
                  try rfl
                conv => arg 8; simp only [List.cons_append, List.nil_append]
                apply each_readG (fun _ => Below.refl _ _)
                · intro u wv hC hf
                  obtain ⟨p0, p1, p2⟩ := aut_cells (blk_later HXA.out hC)
                  obtain ⟨q0, q1, q2⟩ := aut_cells (blk_later HXB.out hC)
                  obtain ⟨r0, r1, r2⟩ := aut_cells (blk_later HXX.out hC)
                  obtain ⟨d1_0, -⟩ := hf
                  have e1 : u 1 = _ := d1_0 rfl
                  clear d1_0
                  refine ⟨wanted_at rfl rfl rfl e1 rfl, ?_⟩
                  go_simp
                  try rfl
                conv => arg 8; simp only [List.cons_append, List.nil_append]
                apply each_callRG
                · intro u wv hC hf
                  obtain ⟨p0, p1, p2⟩ := aut_cells (blk_later HXA.out hC)
                  obtain ⟨q0, q1, q2⟩ := aut_cells (blk_later HXB.out hC)
                  obtain ⟨r0, r1, r2⟩ := aut_cells (blk_later HXX.out hC)
                  obtain ⟨d2_0, d3_1, d1_2, d1_3, -⟩ := hf
                  have e2 : u 2 = _ := d2_0 rfl
                  clear d2_0
                  have e3 : u 3 = _ := d3_1 rfl
                  clear d3_1
                  have e1 : u 1 = _ := d1_2 rfl
                  clear d1_2
                  clear d1_3
                  refine ⟨wanted_at rfl rfl rfl e1 rfl, ?_⟩
                  apply Exists.intro; apply Exists.intro; apply And.intro
                  · go_simp; exact ⟨rfl, rfl⟩
                  · refine (HVX.out _ hC).mono ?_
                    rintro e w3 ⟨rfl, hb⟩
                    exact ⟨rfl, Below.now hC hb, hb⟩
                conv => arg 8; simp only [List.cons_append, List.nil_append]
                apply each_readG (fun _ => Below.refl _ _)
                · intro u wv hC hf
                  obtain ⟨p0, p1, p2⟩ := aut_cells (blk_later HXA.out hC)
                  obtain ⟨q0, q1, q2⟩ := aut_cells (blk_later HXB.out hC)
                  obtain ⟨r0, r1, r2⟩ := aut_cells (blk_later HXX.out hC)
                  obtain ⟨d1_0, -⟩ := hf
                  have e1 : u 1 = _ := d1_0 rfl
                  clear d1_0
                  refine ⟨wanted_at rfl rfl rfl e1 rfl, ?_⟩
                  go_simp
                  try rfl
                conv => arg 8; simp only [List.cons_append, List.nil_append]
                apply each_readG (fun _ => Below.refl _ _)
                · intro u wv hC hf
                  obtain ⟨p0, p1, p2⟩ := aut_cells (blk_later HXA.out hC)
                  obtain ⟨q0, q1, q2⟩ := aut_cells (blk_later HXB.out hC)
                  obtain ⟨r0, r1, r2⟩ := aut_cells (blk_later HXX.out hC)
                  obtain ⟨d1_0, -⟩ := hf
                  have e1 : u 1 = _ := d1_0 rfl
                  clear d1_0
                  refine ⟨wanted_at rfl rfl rfl e1 rfl, ?_⟩
                  go_simp
                  try rfl
                conv => arg 8; simp only [List.cons_append, List.nil_append]
                apply each_callRG
                · intro u wv hC hf
                  obtain ⟨p0, p1, p2⟩ := aut_cells (blk_later HXA.out hC)
                  obtain ⟨q0, q1, q2⟩ := aut_cells (blk_later HXB.out hC)
                  obtain ⟨r0, r1, r2⟩ := aut_cells (blk_later HXX.out hC)
                  obtain ⟨d5_0, d6_1, d4_2, d1_3, -⟩ := hf
                  have e5 : u 5 = _ := d5_0 rfl
                  clear d5_0
                  have e6 : u 6 = _ := d6_1 rfl
                  clear d6_1
                  have e4 : u 4 = _ := d4_2 rfl
                  clear d4_2
                  have e1 : u 1 = _ := d1_3 rfl
                  clear d1_3
                  refine ⟨wanted_at rfl rfl rfl e1 rfl, ?_⟩
                  apply Exists.intro; apply Exists.intro; apply And.intro
                  · go_simp; exact ⟨rfl, rfl⟩
                  · refine (HVA.out _ hC).mono ?_
                    rintro e w3 ⟨rfl, hb⟩
                    exact ⟨rfl, Below.now hC hb, hb⟩
                conv => arg 8; simp only [List.cons_append, List.nil_append]
                apply each_readG (fun _ => Below.refl _ _)
                · intro u wv hC hf
                  obtain ⟨p0, p1, p2⟩ := aut_cells (blk_later HXA.out hC)
                  obtain ⟨q0, q1, q2⟩ := aut_cells (blk_later HXB.out hC)
                  obtain ⟨r0, r1, r2⟩ := aut_cells (blk_later HXX.out hC)
                  obtain ⟨d7_0, d7_1, d1_2, -⟩ := hf
                  have e7 : u 7 = _ := d7_0 rfl
                  clear d7_0
                  clear d7_1
                  have e1 : u 1 = _ := d1_2 rfl
                  clear d1_2
                  refine ⟨wanted_at rfl rfl rfl e1 rfl, ?_⟩
                  go_simp
                  try rfl
                conv => arg 8; simp only [List.cons_append, List.nil_append]
                refine each_off ?_ ?_
                · intro u wv hC hf
                  obtain ⟨d8_0, -⟩ := hf
                  have e8 : u 8 = _ := d8_0 rfl
                  clear d8_0
                  exact wanted_at rfl rfl rfl e8 rfl
                conv => arg 8; simp only [List.cons_append, List.nil_append]
                refine each_off ?_ ?_
                · intro u wv hC hf
                  obtain ⟨d8_0, -⟩ := hf
                  have e8 : u 8 = _ := d8_0 rfl
                  clear d8_0
                  exact wanted_at rfl rfl rfl e8 rfl
                conv => arg 8; simp only [List.cons_append, List.nil_append]
                refine each_off ?_ ?_
                · intro u wv hC hf
                  obtain ⟨d9_0, d10_1, d8_2, d8_3, -⟩ := hf
                  have e9 : u 9 = _ := d9_0 rfl
                  clear d9_0
                  have e10 : u 10 = _ := d10_1 rfl
                  clear d10_1
                  have e8 : u 8 = _ := d8_2 rfl
                  clear d8_2
                  clear d8_3
                  exact wanted_at rfl rfl rfl e8 rfl
                conv => arg 8; simp only [List.cons_append, List.nil_append]
                apply each_readG (fun _ => Below.refl _ _)
                · intro u wv hC hf
                  obtain ⟨p0, p1, p2⟩ := aut_cells (blk_later HXA.out hC)
                  obtain ⟨q0, q1, q2⟩ := aut_cells (blk_later HXB.out hC)
                  obtain ⟨r0, r1, r2⟩ := aut_cells (blk_later HXX.out hC)
                  obtain ⟨d8_0, d11_1, d1_2, -⟩ := hf
                  have e8 : u 8 = _ := d8_0 rfl
                  clear d8_0
                  have e11 : u 11 = _ := d11_1 rfl
                  clear d11_1
                  have e1 : u 1 = _ := d1_2 rfl
                  clear d1_2
                  refine ⟨wanted_at rfl rfl rfl e1 rfl, ?_⟩
                  go_simp
                  try rfl
                conv => arg 8; simp only [List.cons_append, List.nil_append]
                apply each_readG (fun _ => Below.refl _ _)
                · intro u wv hC hf
                  obtain ⟨p0, p1, p2⟩ := aut_cells (blk_later HXA.out hC)
                  obtain ⟨q0, q1, q2⟩ := aut_cells (blk_later HXB.out hC)
                  obtain ⟨r0, r1, r2⟩ := aut_cells (blk_later HXX.out hC)
                  obtain ⟨d4_0, d12_1, d1_2, -⟩ := hf
                  have e4 : u 4 = _ := d4_0 rfl
                  clear d4_0
                  have e12 : u 12 = _ := d12_1 rfl
                  clear d12_1
                  have e1 : u 1 = _ := d1_2 rfl
                  clear d1_2
                  refine ⟨wanted_at rfl rfl rfl e1 rfl, ?_⟩
                  go_simp
                  try rfl
                conv => arg 8; simp only [List.cons_append, List.nil_append]
                apply each_read (fun _ => Below.refl _ _) rfl
                · intro u wv hC hf
                  obtain ⟨p0, p1, p2⟩ := aut_cells (blk_later HXA.out hC)
                  obtain ⟨q0, q1, q2⟩ := aut_cells (blk_later HXB.out hC)
                  obtain ⟨r0, r1, r2⟩ := aut_cells (blk_later HXX.out hC)
                  obtain ⟨d1_0, d13_1, -⟩ := hf
                  have e1 : u 1 = _ := d1_0 rfl
                  clear d1_0
                  have e13 : u 13 = _ := d13_1 rfl
                  clear d13_1
                  go_simp
                  try rfl
                conv => arg 8; simp only [List.cons_append, List.nil_append]
                apply each_read (fun _ => Below.refl _ _) rfl
                · intro u wv hC hf
                  obtain ⟨p0, p1, p2⟩ := aut_cells (blk_later HXA.out hC)
                  obtain ⟨q0, q1, q2⟩ := aut_cells (blk_later HXB.out hC)
                  obtain ⟨r0, r1, r2⟩ := aut_cells (blk_later HXX.out hC)
                  obtain ⟨d14_0, d11_1, -⟩ := hf
                  have e14 : u 14 = _ := d14_0 rfl
                  clear d14_0
                  have e11 : u 11 = _ := d11_1 rfl
                  clear d11_1
                  go_simp
                  try rfl
                conv => arg 8; simp only [List.cons_append, List.nil_append]
                apply each_readG (fun _ => Below.refl _ _)
                · intro u wv hC hf
                  obtain ⟨p0, p1, p2⟩ := aut_cells (blk_later HXA.out hC)
                  obtain ⟨q0, q1, q2⟩ := aut_cells (blk_later HXB.out hC)
                  obtain ⟨r0, r1, r2⟩ := aut_cells (blk_later HXX.out hC)
                  obtain ⟨d15_0, -⟩ := hf
                  have e15 : u 15 = _ := d15_0 rfl
                  clear d15_0
                  refine ⟨wanted_at rfl rfl rfl e15 rfl, ?_⟩
                  go_simp
                  try rfl
                conv => arg 8; simp only [List.cons_append, List.nil_append]
                apply each_readG (fun _ => Below.refl _ _)
                · intro u wv hC hf
                  obtain ⟨p0, p1, p2⟩ := aut_cells (blk_later HXA.out hC)
                  obtain ⟨q0, q1, q2⟩ := aut_cells (blk_later HXB.out hC)
                  obtain ⟨r0, r1, r2⟩ := aut_cells (blk_later HXX.out hC)
                  obtain ⟨d16_0, d15_1, d15_2, -⟩ := hf
                  have e16 : u 16 = _ := d16_0 rfl
                  clear d16_0
                  have e15 : u 15 = _ := d15_1 rfl
                  clear d15_1
                  clear d15_2
                  refine ⟨wanted_at rfl rfl rfl e15 rfl, ?_⟩
                  go_simp
                  try rfl
                conv => arg 8; simp only [List.cons_append, List.nil_append]
                apply each_readG (fun _ => Below.refl _ _)
                · intro u wv hC hf
                  obtain ⟨p0, p1, p2⟩ := aut_cells (blk_later HXA.out hC)
                  obtain ⟨q0, q1, q2⟩ := aut_cells (blk_later HXB.out hC)
                  obtain ⟨r0, r1, r2⟩ := aut_cells (blk_later HXX.out hC)
                  obtain ⟨d17_0, -⟩ := hf
                  have e17 : u 17 = _ := d17_0 rfl
                  clear d17_0
                  refine ⟨wanted_at rfl rfl rfl e17 rfl, ?_⟩
                  go_simp
                  try rfl
                conv => arg 8; simp only [List.cons_append, List.nil_append]
                apply each_readG (fun _ => Below.refl _ _)
                · intro u wv hC hf
                  obtain ⟨p0, p1, p2⟩ := aut_cells (blk_later HXA.out hC)
                  obtain ⟨q0, q1, q2⟩ := aut_cells (blk_later HXB.out hC)
                  obtain ⟨r0, r1, r2⟩ := aut_cells (blk_later HXX.out hC)
                  obtain ⟨d18_0, d17_1, -⟩ := hf
                  have e18 : u 18 = _ := d18_0 rfl
                  clear d18_0
                  have e17 : u 17 = _ := d17_1 rfl
                  clear d17_1
                  refine ⟨wanted_at rfl rfl rfl e17 rfl, ?_⟩
                  go_simp
                  try rfl
                conv => arg 8; simp only [List.cons_append, List.nil_append]
                apply each_readG (fun _ => Below.refl _ _)
                · intro u wv hC hf
                  obtain ⟨p0, p1, p2⟩ := aut_cells (blk_later HXA.out hC)
                  obtain ⟨q0, q1, q2⟩ := aut_cells (blk_later HXB.out hC)
                  obtain ⟨r0, r1, r2⟩ := aut_cells (blk_later HXX.out hC)
                  obtain ⟨d17_0, -⟩ := hf
                  have e17 : u 17 = _ := d17_0 rfl
                  clear d17_0
                  refine ⟨wanted_at rfl rfl rfl e17 rfl, ?_⟩
                  go_simp
                  try rfl
                conv => arg 8; simp only [List.cons_append, List.nil_append]
                apply each_readG (fun _ => Below.refl _ _)
                · intro u wv hC hf
                  obtain ⟨p0, p1, p2⟩ := aut_cells (blk_later HXA.out hC)
                  obtain ⟨q0, q1, q2⟩ := aut_cells (blk_later HXB.out hC)
                  obtain ⟨r0, r1, r2⟩ := aut_cells (blk_later HXX.out hC)
                  obtain ⟨d20_0, d17_1, -⟩ := hf
                  have e20 : u 20 = _ := d20_0 rfl
                  clear d20_0
                  have e17 : u 17 = _ := d17_1 rfl
                  clear d17_1
                  refine ⟨wanted_at rfl rfl rfl e17 rfl, ?_⟩
                  go_simp
                  try rfl
                conv => arg 8; simp only [List.cons_append, List.nil_append]
                apply each_readG (fun _ => Below.refl _ _)
                · intro u wv hC hf
                  obtain ⟨p0, p1, p2⟩ := aut_cells (blk_later HXA.out hC)
                  obtain ⟨q0, q1, q2⟩ := aut_cells (blk_later HXB.out hC)
                  obtain ⟨r0, r1, r2⟩ := aut_cells (blk_later HXX.out hC)
                  obtain ⟨d19_0, d21_1, d17_2, -⟩ := hf
                  have e19 : u 19 = _ := d19_0 rfl
                  clear d19_0
                  have e21 : u 21 = _ := d21_1 rfl
                  clear d21_1
                  have e17 : u 17 = _ := d17_2 rfl
                  clear d17_2
                  refine ⟨wanted_at rfl rfl rfl e17 rfl, ?_⟩
                  go_simp
                  try rfl
                conv => arg 8; simp only [List.cons_append, List.nil_append]
                apply each_readG (fun _ => Below.refl _ _)
                · intro u wv hC hf
                  obtain ⟨p0, p1, p2⟩ := aut_cells (blk_later HXA.out hC)
                  obtain ⟨q0, q1, q2⟩ := aut_cells (blk_later HXB.out hC)
                  obtain ⟨r0, r1, r2⟩ := aut_cells (blk_later HXX.out hC)
                  obtain ⟨d17_0, d22_1, d15_2, -⟩ := hf
                  have e17 : u 17 = _ := d17_0 rfl
                  clear d17_0
                  have e22 : u 22 = _ := d22_1 rfl
                  clear d22_1
                  have e15 : u 15 = _ := d15_2 rfl
                  clear d15_2
                  refine ⟨wanted_at rfl rfl rfl e15 rfl, ?_⟩
                  go_simp
                  try rfl
                conv => arg 8; simp only [List.cons_append, List.nil_append]
                apply each_read (fun _ => Below.refl _ _) rfl
                · intro u wv hC hf
                  obtain ⟨p0, p1, p2⟩ := aut_cells (blk_later HXA.out hC)
                  obtain ⟨q0, q1, q2⟩ := aut_cells (blk_later HXB.out hC)
                  obtain ⟨r0, r1, r2⟩ := aut_cells (blk_later HXX.out hC)
                  obtain ⟨d15_0, d23_1, -⟩ := hf
                  have e15 : u 15 = _ := d15_0 rfl
                  clear d15_0
                  have e23 : u 23 = _ := d23_1 rfl
                  clear d23_1
                  go_simp
                  try rfl
                intro u v9 d9 hall
                obtain ⟨a0, a1, a2, a3, a4, a5, a6, a7, a8, a9, a10, a11, a12, a13, a14, a15, a16, a17, a18, a19, a20, a21, a22, a23, a24, -⟩ := hall
                have e0 : u 0 = _ := a0
                clear a0
                have e1 : u 1 = _ := a1
                clear a1
                have e2 : u 2 = _ := a2
                clear a2
                have e3 : u 3 = _ := a3
                clear a3
                have e4 : u 4 = _ := a4
                clear a4
                have e5 : u 5 = _ := a5
                clear a5
                have e6 : u 6 = _ := a6
                clear a6
                have e7 : u 7 = _ := a7
                clear a7
                have e8 : u 8 = _ := a8
                clear a8
                have e9 : u 9 = _ := a9
                clear a9
                have e10 : u 10 = _ := a10
                clear a10
                have e11 : u 11 = _ := a11
                clear a11
                have e12 : u 12 = _ := a12
                clear a12
                have e13 : u 13 = _ := a13
                clear a13
                have e14 : u 14 = _ := a14
                clear a14
                have e15 : u 15 = _ := a15
                clear a15
                have e16 : u 16 = _ := a16
                clear a16
                have e17 : u 17 = _ := a17
                clear a17
                have e18 : u 18 = _ := a18
                clear a18
                have e19 : u 19 = _ := a19
                clear a19
                have e20 : u 20 = _ := a20
                clear a20
                have e21 : u 21 = _ := a21
                clear a21
                have e22 : u 22 = _ := a22
                clear a22
                have e23 : u 23 = _ := a23
                clear a23
                have e24 : u 24 = _ := a24
                clear a24
                simp only [e0, e1, e2, e3, e4, e5, e6, e7, e8, e9, e10, e11, e12, e13, e14, e15, e16, e17, e18, e19, e20, e21, e22, e23, e24]
                clear e0 e1 e2 e3 e4 e5 e6 e7 e8 e9 e10 e11 e12 e13 e14 e15 e16 e17 e18 e19 e20 e21 e22 e23 e24
                go_wp2_with fail
                go_meet
                exact ⟨rfl, d9⟩
              · rw [Bool.true_and] at HVX
                refine region_each (fun W => Below v11.heap.size v11 W) (fun W W2 => Below W.heap.size W W2) (fun u => by simp only [fPut, Act.put, List.setIfInBounds_toArray, List.set_cons_succ, List.set_cons_zero, Nat.zero_add, Nat.reduceAdd]; rfl) (by kernel_rfl) (by kernel_rfl) (by kernel_rfl) (Below.drew (Below.refl _ _)) ?_
                apply each_read (fun _ => Below.refl _ _) rfl
                · intro u wv hC hf
                  obtain ⟨p0, p1, p2⟩ := aut_cells (blk_later HXA.out hC)
                  obtain ⟨q0, q1, q2⟩ := aut_cells (blk_later HXB.out hC)
                  obtain ⟨r0, r1, r2⟩ := aut_cells (blk_later HXX.out hC)
                  clear hf
                  go_simp
                  try rfl
                apply each_read (fun _ => Below.refl _ _) rfl
                · intro u wv hC hf
                  obtain ⟨p0, p1, p2⟩ := aut_cells (blk_later HXA.out hC)
                  obtain ⟨q0, q1, q2⟩ := aut_cells (blk_later HXB.out hC)
                  obtain ⟨r0, r1, r2⟩ := aut_cells (blk_later HXX.out hC)
                  obtain ⟨d0_0, -⟩ := hf
                  have e0 : u 0 = _ := d0_0 rfl
                  clear d0_0
                  go_simp
                  try rfl
                conv => arg 8; simp only [List.cons_append, List.nil_append]
                apply each_readG (fun _ => Below.refl _ _)
                · intro u wv hC hf
                  obtain ⟨p0, p1, p2⟩ := aut_cells (blk_later HXA.out hC)
                  obtain ⟨q0, q1, q2⟩ := aut_cells (blk_later HXB.out hC)
                  obtain ⟨r0, r1, r2⟩ := aut_cells (blk_later HXX.out hC)
                  obtain ⟨d1_0, -⟩ := hf
                  have e1 : u 1 = _ := d1_0 rfl
                  clear d1_0
                  refine ⟨wanted_at rfl rfl rfl e1 rfl, ?_⟩
                  go_simp
                  try rfl
                conv => arg 8; simp only [List.cons_append, List.nil_append]
                apply each_readG (fun _ => Below.refl _ _)
                · intro u wv hC hf
                  obtain ⟨p0, p1, p2⟩ := aut_cells (blk_later HXA.out hC)
                  obtain ⟨q0, q1, q2⟩ := aut_cells (blk_later HXB.out hC)
                  obtain ⟨r0, r1, r2⟩ := aut_cells (blk_later HXX.out hC)
                  obtain ⟨d1_0, -⟩ := hf
                  have e1 : u 1 = _ := d1_0 rfl
                  clear d1_0
                  refine ⟨wanted_at rfl rfl rfl e1 rfl, ?_⟩
                  go_simp
                  try rfl
                conv => arg 8; simp only [List.cons_append, List.nil_append]
                apply each_callRG
                · intro u wv hC hf
                  obtain ⟨p0, p1, p2⟩ := aut_cells (blk_later HXA.out hC)
                  obtain ⟨q0, q1, q2⟩ := aut_cells (blk_later HXB.out hC)
                  obtain ⟨r0, r1, r2⟩ := aut_cells (blk_later HXX.out hC)
                  obtain ⟨d2_0, d3_1, d1_2, d1_3, -⟩ := hf
                  have e2 : u 2 = _ := d2_0 rfl
                  clear d2_0
                  have e3 : u 3 = _ := d3_1 rfl
                  clear d3_1
                  have e1 : u 1 = _ := d1_2 rfl
                  clear d1_2
                  clear d1_3
                  refine ⟨wanted_at rfl rfl rfl e1 rfl, ?_⟩
                  apply Exists.intro; apply Exists.intro; apply And.intro
                  · go_simp; exact ⟨rfl, rfl⟩
                  · refine (HVX.out _ hC).mono ?_
                    rintro e w3 ⟨rfl, hb⟩
                    exact ⟨rfl, Below.now hC hb, hb⟩
                conv => arg 8; simp only [List.cons_append, List.nil_append]
                apply each_readG (fun _ => Below.refl _ _)
                · intro u wv hC hf
                  obtain ⟨p0, p1, p2⟩ := aut_cells (blk_later HXA.out hC)
                  obtain ⟨q0, q1, q2⟩ := aut_cells (blk_later HXB.out hC)
                  obtain ⟨r0, r1, r2⟩ := aut_cells (blk_later HXX.out hC)
                  obtain ⟨d1_0, -⟩ := hf
                  have e1 : u 1 = _ := d1_0 rfl
                  clear d1_0
                  refine ⟨wanted_at rfl rfl rfl e1 rfl, ?_⟩
                  go_simp
                  try rfl
                conv => arg 8; simp only [List.cons_append, List.nil_append]
                apply each_readG (fun _ => Below.refl _ _)
                · intro u wv hC hf
                  obtain ⟨p0, p1, p2⟩ := aut_cells (blk_later HXA.out hC)
                  obtain ⟨q0, q1, q2⟩ := aut_cells (blk_later HXB.out hC)
                  obtain ⟨r0, r1, r2⟩ := aut_cells (blk_later HXX.out hC)
                  obtain ⟨d1_0, -⟩ := hf
                  have e1 : u 1 = _ := d1_0 rfl
                  clear d1_0
                  refine ⟨wanted_at rfl rfl rfl e1 rfl, ?_⟩
                  go_simp
                  try rfl
                conv => arg 8; simp only [List.cons_append, List.nil_append]
                apply each_callRG
                · intro u wv hC hf
                  obtain ⟨p0, p1, p2⟩ := aut_cells (blk_later HXA.out hC)
                  obtain ⟨q0, q1, q2⟩ := aut_cells (blk_later HXB.out hC)
                  obtain ⟨r0, r1, r2⟩ := aut_cells (blk_later HXX.out hC)
                  obtain ⟨d5_0, d6_1, d4_2, d1_3, -⟩ := hf
                  have e5 : u 5 = _ := d5_0 rfl
                  clear d5_0
                  have e6 : u 6 = _ := d6_1 rfl
                  clear d6_1
                  have e4 : u 4 = _ := d4_2 rfl
                  clear d4_2
                  have e1 : u 1 = _ := d1_3 rfl
                  clear d1_3
                  refine ⟨wanted_at rfl rfl rfl e1 rfl, ?_⟩
                  apply Exists.intro; apply Exists.intro; apply And.intro
                  · go_simp; exact ⟨rfl, rfl⟩
                  · refine (HVA.out _ hC).mono ?_
                    rintro e w3 ⟨rfl, hb⟩
                    exact ⟨rfl, Below.now hC hb, hb⟩
                conv => arg 8; simp only [List.cons_append, List.nil_append]
                apply each_readG (fun _ => Below.refl _ _)
                · intro u wv hC hf
                  obtain ⟨p0, p1, p2⟩ := aut_cells (blk_later HXA.out hC)
                  obtain ⟨q0, q1, q2⟩ := aut_cells (blk_later HXB.out hC)
                  obtain ⟨r0, r1, r2⟩ := aut_cells (blk_later HXX.out hC)
                  obtain ⟨d7_0, d7_1, d1_2, -⟩ := hf
                  have e7 : u 7 = _ := d7_0 rfl
                  clear d7_0
                  clear d7_1
                  have e1 : u 1 = _ := d1_2 rfl
                  clear d1_2
                  refine ⟨wanted_at rfl rfl rfl e1 rfl, ?_⟩
                  go_simp
                  try rfl
                conv => arg 8; simp only [List.cons_append, List.nil_append]
                apply each_readG (fun _ => Below.refl _ _)
                · intro u wv hC hf
                  obtain ⟨p0, p1, p2⟩ := aut_cells (blk_later HXA.out hC)
                  obtain ⟨q0, q1, q2⟩ := aut_cells (blk_later HXB.out hC)
                  obtain ⟨r0, r1, r2⟩ := aut_cells (blk_later HXX.out hC)
                  obtain ⟨d8_0, -⟩ := hf
                  have e8 : u 8 = _ := d8_0 rfl
                  clear d8_0
                  refine ⟨wanted_at rfl rfl rfl e8 rfl, ?_⟩
                  go_simp
                  try rfl
                conv => arg 8; simp only [List.cons_append, List.nil_append]
                apply each_readG (fun _ => Below.refl _ _)
                · intro u wv hC hf
                  obtain ⟨p0, p1, p2⟩ := aut_cells (blk_later HXA.out hC)
                  obtain ⟨q0, q1, q2⟩ := aut_cells (blk_later HXB.out hC)
                  obtain ⟨r0, r1, r2⟩ := aut_cells (blk_later HXX.out hC)
                  obtain ⟨d8_0, -⟩ := hf
                  have e8 : u 8 = _ := d8_0 rfl
                  clear d8_0
                  refine ⟨wanted_at rfl rfl rfl e8 rfl, ?_⟩
                  go_simp
                  try rfl
                conv => arg 8; simp only [List.cons_append, List.nil_append]
                apply each_callRG
                · intro u wv hC hf
                  obtain ⟨p0, p1, p2⟩ := aut_cells (blk_later HXA.out hC)
                  obtain ⟨q0, q1, q2⟩ := aut_cells (blk_later HXB.out hC)
                  obtain ⟨r0, r1, r2⟩ := aut_cells (blk_later HXX.out hC)
                  obtain ⟨d9_0, d10_1, d8_2, d8_3, -⟩ := hf
                  have e9 : u 9 = _ := d9_0 rfl
                  clear d9_0
                  have e10 : u 10 = _ := d10_1 rfl
                  clear d10_1
                  have e8 : u 8 = _ := d8_2 rfl
                  clear d8_2
                  clear d8_3
                  refine ⟨wanted_at rfl rfl rfl e8 rfl, ?_⟩
                  apply Exists.intro; apply Exists.intro; apply And.intro
                  · go_simp; exact ⟨rfl, rfl⟩
                  · refine (HVB.out _ hC).mono ?_
                    rintro e w3 ⟨rfl, hb⟩
                    exact ⟨rfl, Below.now hC hb, hb⟩
                conv => arg 8; simp only [List.cons_append, List.nil_append]
                apply each_readG (fun _ => Below.refl _ _)
                · intro u wv hC hf
                  obtain ⟨p0, p1, p2⟩ := aut_cells (blk_later HXA.out hC)
                  obtain ⟨q0, q1, q2⟩ := aut_cells (blk_later HXB.out hC)
                  obtain ⟨r0, r1, r2⟩ := aut_cells (blk_later HXX.out hC)
                  obtain ⟨d8_0, d11_1, d1_2, -⟩ := hf
                  have e8 : u 8 = _ := d8_0 rfl
                  clear d8_0
                  have e11 : u 11 = _ := d11_1 rfl
                  clear d11_1
                  have e1 : u 1 = _ := d1_2 rfl
                  clear d1_2
                  refine ⟨wanted_at rfl rfl rfl e1 rfl, ?_⟩
                  go_simp
                  try rfl
                conv => arg 8; simp only [List.cons_append, List.nil_append]
                apply each_readG (fun _ => Below.refl _ _)
                · intro u wv hC hf
                  obtain ⟨p0, p1, p2⟩ := aut_cells (blk_later HXA.out hC)
                  obtain ⟨q0, q1, q2⟩ := aut_cells (blk_later HXB.out hC)
                  obtain ⟨r0, r1, r2⟩ := aut_cells (blk_later HXX.out hC)
                  obtain ⟨d4_0, d12_1, d1_2, -⟩ := hf
                  have e4 : u 4 = _ := d4_0 rfl
                  clear d4_0
                  have e12 : u 12 = _ := d12_1 rfl
                  clear d12_1
                  have e1 : u 1 = _ := d1_2 rfl
                  clear d1_2
                  refine ⟨wanted_at rfl rfl rfl e1 rfl, ?_⟩
                  go_simp
                  try rfl
                conv => arg 8; simp only [List.cons_append, List.nil_append]
                apply each_read (fun _ => Below.refl _ _) rfl
                · intro u wv hC hf
                  obtain ⟨p0, p1, p2⟩ := aut_cells (blk_later HXA.out hC)
                  obtain ⟨q0, q1, q2⟩ := aut_cells (blk_later HXB.out hC)
                  obtain ⟨r0, r1, r2⟩ := aut_cells (blk_later HXX.out hC)
                  obtain ⟨d1_0, d13_1, -⟩ := hf
                  have e1 : u 1 = _ := d1_0 rfl
                  clear d1_0
                  have e13 : u 13 = _ := d13_1 rfl
                  clear d13_1
                  go_simp
                  try rfl
                conv => arg 8; simp only [List.cons_append, List.nil_append]
                apply each_read (fun _ => Below.refl _ _) rfl
                · intro u wv hC hf
                  obtain ⟨p0, p1, p2⟩ := aut_cells (blk_later HXA.out hC)
                  obtain ⟨q0, q1, q2⟩ := aut_cells (blk_later HXB.out hC)
                  obtain ⟨r0, r1, r2⟩ := aut_cells (blk_later HXX.out hC)
                  obtain ⟨d14_0, d11_1, -⟩ := hf
                  have e14 : u 14 = _ := d14_0 rfl
                  clear d14_0
                  have e11 : u 11 = _ := d11_1 rfl
                  clear d11_1
                  go_simp
                  try rfl
                conv => arg 8; simp only [List.cons_append, List.nil_append]
                apply each_readG (fun _ => Below.refl _ _)
                · intro u wv hC hf
                  obtain ⟨p0, p1, p2⟩ := aut_cells (blk_later HXA.out hC)
                  obtain ⟨q0, q1, q2⟩ := aut_cells (blk_later HXB.out hC)
                  obtain ⟨r0, r1, r2⟩ := aut_cells (blk_later HXX.out hC)
                  obtain ⟨d15_0, -⟩ := hf
                  have e15 : u 15 = _ := d15_0 rfl
                  clear d15_0
                  refine ⟨wanted_at rfl rfl rfl e15 rfl, ?_⟩
                  go_simp
                  try rfl
                conv => arg 8; simp only [List.cons_append, List.nil_append]
                apply each_readG (fun _ => Below.refl _ _)
                · intro u wv hC hf
                  obtain ⟨p0, p1, p2⟩ := aut_cells (blk_later HXA.out hC)
                  obtain ⟨q0, q1, q2⟩ := aut_cells (blk_later HXB.out hC)
                  obtain ⟨r0, r1, r2⟩ := aut_cells (blk_later HXX.out hC)
                  obtain ⟨d16_0, d15_1, d15_2, -⟩ := hf
                  have e16 : u 16 = _ := d16_0 rfl
                  clear d16_0
                  have e15 : u 15 = _ := d15_1 rfl
                  clear d15_1
                  clear d15_2
                  refine ⟨wanted_at rfl rfl rfl e15 rfl, ?_⟩
                  go_simp
                  try rfl
                conv => arg 8; simp only [List.cons_append, List.nil_append]
                apply each_readG (fun _ => Below.refl _ _)
                · intro u wv hC hf
                  obtain ⟨p0, p1, p2⟩ := aut_cells (blk_later HXA.out hC)
                  obtain ⟨q0, q1, q2⟩ := aut_cells (blk_later HXB.out hC)
                  obtain ⟨r0, r1, r2⟩ := aut_cells (blk_later HXX.out hC)
                  obtain ⟨d17_0, -⟩ := hf
                  have e17 : u 17 = _ := d17_0 rfl
                  clear d17_0
                  refine ⟨wanted_at rfl rfl rfl e17 rfl, ?_⟩
                  go_simp
                  try rfl
                conv => arg 8; simp only [List.cons_append, List.nil_append]
                apply each_readG (fun _ => Below.refl _ _)
                · intro u wv hC hf
                  obtain ⟨p0, p1, p2⟩ := aut_cells (blk_later HXA.out hC)
                  obtain ⟨q0, q1, q2⟩ := aut_cells (blk_later HXB.out hC)
                  obtain ⟨r0, r1, r2⟩ := aut_cells (blk_later HXX.out hC)
                  obtain ⟨d18_0, d17_1, -⟩ := hf
                  have e18 : u 18 = _ := d18_0 rfl
                  clear d18_0
                  have e17 : u 17 = _ := d17_1 rfl
                  clear d17_1
                  refine ⟨wanted_at rfl rfl rfl e17 rfl, ?_⟩
                  go_simp
                  try rfl
                conv => arg 8; simp only [List.cons_append, List.nil_append]
                apply each_readG (fun _ => Below.refl _ _)
                · intro u wv hC hf
                  obtain ⟨p0, p1, p2⟩ := aut_cells (blk_later HXA.out hC)
                  obtain ⟨q0, q1, q2⟩ := aut_cells (blk_later HXB.out hC)
                  obtain ⟨r0, r1, r2⟩ := aut_cells (blk_later HXX.out hC)
                  obtain ⟨d17_0, -⟩ := hf
                  have e17 : u 17 = _ := d17_0 rfl
                  clear d17_0
                  refine ⟨wanted_at rfl rfl rfl e17 rfl, ?_⟩
                  go_simp
                  try rfl
                conv => arg 8; simp only [List.cons_append, List.nil_append]
                apply each_readG (fun _ => Below.refl _ _)
                · intro u wv hC hf
                  obtain ⟨p0, p1, p2⟩ := aut_cells (blk_later HXA.out hC)
                  obtain ⟨q0, q1, q2⟩ := aut_cells (blk_later HXB.out hC)
                  obtain ⟨r0, r1, r2⟩ := aut_cells (blk_later HXX.out hC)
                  obtain ⟨d20_0, d17_1, -⟩ := hf
                  have e20 : u 20 = _ := d20_0 rfl
                  clear d20_0
                  have e17 : u 17 = _ := d17_1 rfl
                  clear d17_1
                  refine ⟨wanted_at rfl rfl rfl e17 rfl, ?_⟩
                  go_simp
                  try rfl
                conv => arg 8; simp only [List.cons_append, List.nil_append]
                apply each_readG (fun _ => Below.refl _ _)
                · intro u wv hC hf
                  obtain ⟨p0, p1, p2⟩ := aut_cells (blk_later HXA.out hC)
                  obtain ⟨q0, q1, q2⟩ := aut_cells (blk_later HXB.out hC)
                  obtain ⟨r0, r1, r2⟩ := aut_cells (blk_later HXX.out hC)
                  obtain ⟨d19_0, d21_1, d17_2, -⟩ := hf
                  have e19 : u 19 = _ := d19_0 rfl
                  clear d19_0
                  have e21 : u 21 = _ := d21_1 rfl
                  clear d21_1
                  have e17 : u 17 = _ := d17_2 rfl
                  clear d17_2
                  refine ⟨wanted_at rfl rfl rfl e17 rfl, ?_⟩
                  go_simp
                  try rfl
                conv => arg 8; simp only [List.cons_append, List.nil_append]
                apply each_readG (fun _ => Below.refl _ _)
                · intro u wv hC hf
                  obtain ⟨p0, p1, p2⟩ := aut_cells (blk_later HXA.out hC)
                  obtain ⟨q0, q1, q2⟩ := aut_cells (blk_later HXB.out hC)
                  obtain ⟨r0, r1, r2⟩ := aut_cells (blk_later HXX.out hC)
                  obtain ⟨d17_0, d22_1, d15_2, -⟩ := hf
                  have e17 : u 17 = _ := d17_0 rfl
                  clear d17_0
                  have e22 : u 22 = _ := d22_1 rfl
                  clear d22_1
                  have e15 : u 15 = _ := d15_2 rfl
                  clear d15_2
                  refine ⟨wanted_at rfl rfl rfl e15 rfl, ?_⟩
                  go_simp
                  try rfl
                conv => arg 8; simp only [List.cons_append, List.nil_append]
                apply each_read (fun _ => Below.refl _ _) rfl
                · intro u wv hC hf
                  obtain ⟨p0, p1, p2⟩ := aut_cells (blk_later HXA.out hC)
                  obtain ⟨q0, q1, q2⟩ := aut_cells (blk_later HXB.out hC)
                  obtain ⟨r0, r1, r2⟩ := aut_cells (blk_later HXX.out hC)
                  obtain ⟨d15_0, d23_1, -⟩ := hf
                  have e15 : u 15 = _ := d15_0 rfl
                  clear d15_0
                  have e23 : u 23 = _ := d23_1 rfl
                  clear d23_1
                  go_simp
                  try rfl
                intro u v9 d9 hall
                obtain ⟨a0, a1, a2, a3, a4, a5, a6, a7, a8, a9, a10, a11, a12, a13, a14, a15, a16, a17, a18, a19, a20, a21, a22, a23, a24, -⟩ := hall
                have e0 : u 0 = _ := a0
                clear a0
                have e1 : u 1 = _ := a1
                clear a1
                have e2 : u 2 = _ := a2
                clear a2
                have e3 : u 3 = _ := a3
                clear a3
                have e4 : u 4 = _ := a4
                clear a4
                have e5 : u 5 = _ := a5
                clear a5
                have e6 : u 6 = _ := a6
                clear a6
                have e7 : u 7 = _ := a7
                clear a7
                have e8 : u 8 = _ := a8
                clear a8
                have e9 : u 9 = _ := a9
                clear a9
                have e10 : u 10 = _ := a10
                clear a10
                have e11 : u 11 = _ := a11
                clear a11
                have e12 : u 12 = _ := a12
                clear a12
                have e13 : u 13 = _ := a13
                clear a13
                have e14 : u 14 = _ := a14
                clear a14
                have e15 : u 15 = _ := a15
                clear a15
                have e16 : u 16 = _ := a16
                clear a16
                have e17 : u 17 = _ := a17
                clear a17
                have e18 : u 18 = _ := a18
                clear a18
                have e19 : u 19 = _ := a19
                clear a19
                have e20 : u 20 = _ := a20
                clear a20
                have e21 : u 21 = _ := a21
                clear a21
                have e22 : u 22 = _ := a22
                clear a22
                have e23 : u 23 = _ := a23
                clear a23
                have e24 : u 24 = _ := a24
                clear a24
                simp only [e0, e1, e2, e3, e4, e5, e6, e7, e8, e9, e10, e11, e12, e13, e14, e15, e16, e17, e18, e19, e20, e21, e22, e23, e24]
                clear e0 e1 e2 e3 e4 e5 e6 e7 e8 e9 e10 e11 e12 e13 e14 e15 e16 e17 e18 e19 e20 e21 e22 e23 e24
                go_wp2_with fail
                go_meet
                exact ⟨rfl, d9⟩
          case rest =>
            obtain ⟨rfl, hb⟩ := hcut
            replace HBY := Lib.hid (HBY.out.later hb)
            replace HB := Lib.hid (Below.now HB.out hb)
            replace HIA := Lib.hid (And.intro (HIA.out.1.later hb) (HIA.out.2.later hb))
            replace HXA := Lib.hid (blk_later HXA.out hb)
            replace HIB := Lib.hid (And.intro (HIB.out.1.later hb) (HIB.out.2.later hb))
            replace HXB := Lib.hid (blk_later HXB.out hb)
            clear hb HX HIX HXX HIB HXB hB hlB
            have HSH := Lib.hid (fun W h1 h2 => implShortest_any ka nA fA aA aA2 cA cA2 W h1 h2 hA)
            obtain ⟨p0, p1, p2⟩ := aut_cells HXA.out
            go_wp2_with fail
            refine (HSH.out _ HIA.out.1 HIA.out.2).mono ?_
            rintro e w12 ⟨u2, found, rfl, hf1, hf2, hu2z, hb⟩
            clear p0 p1 p2 HSH
            replace HBY := Lib.hid (HBY.out.later hb)
            replace HB := Lib.hid (Below.now HB.out hb)
            replace HIA := Lib.hid (And.intro (HIA.out.1.later hb) (HIA.out.2.later hb))
            replace HXA := Lib.hid (blk_later HXA.out hb)
            clear hb
            have HF2 := Lib.hid hf2
            have HAU : Hid (∀ W, Below w12.heap.size w12 W → Calls Tryz.prog 9 #[.agg #[.int .i64 (ka : Nat), .slice aA nA.length cA, .slice aA2 fA.length cA2], .string u2] W fun e w' => e = .returned (.bool found) ∧ Below W.heap.size W w') := Lib.hid (fun W hW => (implAccepts_any ka nA fA aA aA2 cA cA2 u2 W (HIA.out.1.later hW) (HIA.out.2.later hW) hA (by unfold maxLen; omega)).mono fun e w' ⟨b, hb, he, hw⟩ => ⟨by rw [he]; congr 2; rw [Bool.eq_iff_iff, hb, hf1], hw⟩)
            have HVA : Hid (∀ W, Below w12.heap.size w12 W → Calls Tryz.prog 9 #[.agg #[.int .i64 (ka : Nat), .slice aA nA.length cA, .slice aA2 fA.length cA2], .string v] W fun e w' => e = .returned (.bool (pB (accA ka nA fA 0 (ltrs v)))) ∧ Below W.heap.size W w') := Lib.hid (fun W hW => (implAccepts_any ka nA fA aA aA2 cA cA2 v W (HIA.out.1.later hW) (HIA.out.2.later hW) hA (by unfold maxLen; omega)).mono fun e w' h => RetP.det (two_of (f := accA ka nA fA 0) (g := accA ka nA fA 0) HV.out Iff.rfl) h)
            have HAA : Hid (pB (accA ka nA fA 0 (ltrs v)) = true → found = true → lessS v u2 = false) := Lib.hid (fun h hf => hf2 hf v HV.out (pB_iff.1 h))
            have HIL := Lib.hid (fun W => implIsLess_any v u2 W)
            clear hf1 hf2 HF2
            generalize pB (accA ka nA fA 0 (ltrs v)) = ba at *
            obtain ⟨p0, p1, p2⟩ := aut_cells HXA.out
            cases found
            · go_wp2_with fail
              refine (HAU.out _ (Below.refl _ _)).mono ?_
              rintro e w13 ⟨rfl, hb⟩
              have HB13 := Lib.hid (Below.now HB.out hb)
              clear hb p0 p1 p2
              go_wp2_with fail
              go_ret
              exact ⟨rfl, HB13.out⟩
            · go_wp2_with fail
              refine (HAU.out _ (Below.refl _ _)).mono ?_
              rintro e w13 ⟨rfl, hb13⟩
              have HB13 := Lib.hid (Below.now HB.out hb13)
              have HXA13 := Lib.hid (blk_later HXA.out hb13)
              have HB13b := Lib.hid hb13
              clear hb13 p0 p1 p2
              obtain ⟨p0, p1, p2⟩ := aut_cells HXA13.out
              go_wp2_with fail
              refine (HVA.out _ HB13b.out).mono ?_
              rintro e w14 ⟨rfl, hb⟩
              have HB14 := Lib.hid (Below.now HB13.out hb)
              clear hb p0 p1 p2
              cases ba
              · go_wp2_with fail
                go_ret
                exact ⟨rfl, HB14.out⟩
              · have hless := HAA.out (by first | trivial | rfl) (by first | trivial | rfl)
                rw [hless] at HIL
                clear hless HAA
                go_wp2_with fail
                refine (HIL.out _).mono ?_
                rintro e w15 ⟨rfl, hb⟩
                have HB15 := Lib.hid (Below.now HB14.out hb)
                clear hb
                go_wp2_with fail
                go_ret
                exact ⟨rfl, HB15.out⟩
set_option maxRecDepth 20000 in
theorem walkBig (a : Option Addr) (n cap : Nat) (w : World) (h63 : n ≤ 9223372036854775807) (hn : 1048576 < n) :
    Calls Tryz.prog 3 #[.slice a n cap] w fun e w' => e = .returned (.bool true) ∧ Below w.heap.size w w' := by
  have hq : (1048576 : Int) < (n : Int) := by omega
  go_enter Tryz.func3, Tryz.ntmps3
  go_wp2_with fail
  go_ret
  exact ⟨rfl, Below.refl _ _⟩
end Go.Proofs.YtoddpmdjjgnpgaaGreatDoor.fnAutomata
