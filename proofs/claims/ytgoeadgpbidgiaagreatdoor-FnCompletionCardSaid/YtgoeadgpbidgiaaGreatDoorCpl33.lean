/-
  'FnCompletion' holds: for every argument the law answers true and leaves its argument as it was. No condition.
-/
import Derived.Test.YtgoeadgpbidgiaaGreatDoorCpl29
import Derived.Test.YtgoeadgpbidgiaaGreatDoorCpl31
import Derived.Test.YtgoeadgpbidgiaaGreatDoorCpl32
import Derived.Test.YtgoeadgpbidgiaaGreatDoorCpl19
import Derived.Test.YtgoeadgpbidgiaaGreatDoorCpl04
import Derived.Test.YtgoeadgpbidgiaaGreatDoorCpl26
import Derived.Handed
import Derived.SevenTiedAt
import Derived.ChangeSame
import Derived.Shelf.Vars
import Derived.Test.YtgoeadgpbidgiaaGreatDoorTie
import Derived.Test.YtgoeadgpbidgiaaGreatDoorCards
import Derived.LaidMore
import Derived.Lib.LaidTab
import Derived.Stop.Joined
import Derived.Stop.LaidErr
namespace Go.Proofs.YtgoeadgpbidgiaaGreatDoor.fnCompletion
open Go.RowKit
set_option linter.unusedVariables false
set_option maxRecDepth 100000 in
set_option maxHeartbeats 8000000 in
theorem walkSmall (a : Option Addr) (l : List UInt8) (cap : Nat) (w : World) (hl : BytesIn w a l) (hlen : l.length ≤ 1048576) (ht : Tab10 w) (hmx : MaxL w) :
    Calls Tryz.prog 4 #[.slice a l.length cap] w fun e w' => e = .returned (.bool true) ∧ Below w.heap.size w w' := by
  have hq0 : ¬ (1048576 : Int) < (l.length : Int) := by omega
  have HM := Lib.hid (makeEquations_any a l cap 0 w hl (by omega) (by omega))
  have HTB := Lib.hid ht
  have HMX := Lib.hid hmx
  clear hl ht hmx
  go_enter Tryz.func4, Tryz.ntmps4
  go_wp2_with fail
  refine HM.out.mono ?_
  rintro e w1 ⟨k, E, aE, cE, hst, rfl, hE, hb1⟩
  have hE12 : E.length ≤ 12 := hst.2.1
  have hSzE : SzR E := fun j hj => by have h := (hst.2.2 _ (nthR_mem hj)).2; unfold maxLen; omega
  have HST := Lib.hid hst
  have HCO := Lib.hid (fun W h1 h2 => implComplete_any (k : Int) E aE cE W h1 (by omega) hSzE h2)
  have HTF := Lib.hid (fun W h1 h2 => implTurnsFor_any (k : Int) E aE cE W h1 (by omega) hSzE h2 hst)
  have HCLN := Lib.hid (fun W h1 h2 h3 => implCompleteLine_any (k : Int) E aE cE W h1 (by omega) hSzE h2 h3)
  have HB1 := Lib.hid hb1
  have HXE : Hid (∀ W, Below w1.heap.size w1 W → RulesIn W aE E ∧ Tab10 W ∧ MaxL W) := Lib.hid (fun W hW => ⟨hE.later hW, (HTB.out.later hb1).later hW, (HMX.out.later hb1).later hW⟩)
  obtain ⟨hE1, hT1, hM1⟩ := HXE.out w1 (Below.refl _ _)
  have HE1 := Lib.hid hE1
  have HM1 := Lib.hid hM1
  clear hst hE hb1 hE1 hT1 hM1 HTB HMX hSzE
  go_wp2_with fail
  refine (HCO.out _ HE1.out HM1.out).mono ?_
  rintro e w2 hr
  obtain ⟨_, c, R, Q, T, aR, cR, hrun, rfl, hR, hb2⟩ := Or.resolve_right hr (fun h => absurd HST.out h.1)
  have HRUN := Lib.hid hrun
  have hsys : sysP (k : Int) R := (hrun.work HST.out.work).1.sys
  have hR12 : R.length ≤ 12 := hsys.1.1.2
  have hSzR : SzR R := szR_of hsys
  have HSYS := Lib.hid hsys
  have HB3 := Lib.hid (Below.now hb2 (alloc_belowS w2 (.cells #[.int .i64 (k : Int), .slice aR R.length cR] 33)))
  have HXS : Hid (∀ W, Below (w2.alloc (.cells #[.int .i64 (k : Int), .slice aR R.length cR] 33)).heap.size (w2.alloc (.cells #[.int .i64 (k : Int), .slice aR R.length cR] 33)) W → ((W.cell? ⟨w2.heap.size, 0, none⟩ = some (.int .i64 (k : Int)) ∧ W.cell? ⟨w2.heap.size, 1, none⟩ = some (.slice aR R.length cR)) ∧ RulesIn W aR R) ∧ RulesIn W aE E ∧ Tab10 W ∧ MaxL W) := Lib.hid (fun W hW => ⟨⟨⟨by rw [hW.cell (by simp)]; simp, by rw [hW.cell (by simp)]; simp⟩, (hR.later (alloc_belowS w2 _)).later hW⟩, HXE.out W (Below.now HB3.out hW)⟩)
  have HSO : Hid (∀ W, RulesIn W aR R → Calls Tryz.prog 14 #[.agg #[.int .i64 (k : Int), .slice aR R.length cR]] W fun e w' => e = .returned (.bool true) ∧ Below W.heap.size W w') := Lib.hid (fun W hW => by
    refine (implSystemOk_any (k : Int) R aR cR W hW (by omega) hSzR).mono ?_
    rintro e w' ⟨b, hb, rfl, hb2⟩
    rw [hb.2 hsys]
    exact ⟨rfl, hb2⟩)
  have HNF : Hid (∀ u W, RulesIn W aR R → wordOkB (k : Int) u = true → Calls Tryz.prog 15 #[.agg #[.int .i64 (k : Int), .slice aR R.length cR], .string u] W fun e w' => e = .returned (.tuple #[.string (nfC R u), .bool true]) ∧ Below W.heap.size W w') := Lib.hid (fun u W h hw => (implNormalForm_ok (k : Int) R aR cR u W h hsys hw).mono fun e w' ⟨x, hx, he, hb⟩ => ⟨by rw [nfC_eq hx]; exact he, hb⟩)
  have HIC := Lib.hid (fun W h => implIsComplete_any (k : Int) R aR cR W h (by omega) hSzR)
  have HII := Lib.hid (fun W h hi hm => implIsInterreduced_any (k : Int) R aR cR W h hsys hi hm)
  have HFS := Lib.hid (fun W h ht => implFormatSystem_any (k : Int) R aR cR W h (by omega) hSzR ht)
  clear hrun hsys hSzR hR hb2 HM HCO HE1 HM1
  go_upto_region 5 with fail
  generalize hg2 : w2.heap.size = g2 at *
  clear hg2
  generalize (w2.alloc (.cells #[.int .i64 (k : Int), .slice aR R.length cR] 33)) = w3 at *
  obtain ⟨-, hE3, -, hM3⟩ := HXS.out w3 (Below.refl _ _)
  have HE3 := Lib.hid hE3
  have HM3 := Lib.hid hM3
  clear hE3 hM3
  go_wp2_with fail
  refine (HTF.out _ HE3.out HM3.out).mono ?_
  rintro e w4 ⟨c2, R2, Q2, T2, hr2, rfl, hb4⟩
  obtain ⟨rfl, rfl, rfl, rfl⟩ := HRUN.out.uniq hr2
  have HB4 := Lib.hid hb4
  clear hr2 hb4 HE3 HM3 HTF
  obtain ⟨⟨⟨s0, s1⟩, hR4⟩, -⟩ := HXS.out w4 HB4.out
  have HR4 := Lib.hid hR4
  clear hR4
  by_cases hc : c = 0
  · have htz : turnsZ c T = (T : Int) := if_pos hc
    rw [htz]
    subst hc
    have hT0 : (0 : Int) ≤ (T : Int) := Int.natCast_nonneg _
    have hcz : ((0 : Nat) : Int) = 0 := rfl
    rw [hcz]
    clear htz hcz
    obtain ⟨hcomp, heqs⟩ := run_comp HST.out.work HRUN.out
    obtain ⟨hint, hturn⟩ := run_inter HRUN.out HST.out.work InterP.nil
    have hQ0 : Q = [] := (HRUN.out.work HST.out.work).2.2 rfl
    have hTE : (E.length : Int) ≤ (T : Int) := by rw [hQ0] at hturn; simp at hturn; omega
    have HEQ : Hid (∀ i, i < E.length → nfC R (nthR E i).1 = nfC R (nthR E i).2) := Lib.hid (fun i hi => by
      have hm := nthR_mem hi
      have hs := (HST.out.2.2 _ hm).1
      exact heqs _ hm _ _ (nfC_is HSYS.out.weak hs.1) (nfC_is HSYS.out.weak hs.2))
    have HWO : Hid (∀ i, i < E.length → wordOkB (k : Int) (nthR E i).1 = true ∧ wordOkB (k : Int) (nthR E i).2 = true) := Lib.hid (fun i hi => (HST.out.2.2 _ (nthR_mem hi)).1)
    have HCT : Hid (∀ W, RulesIn W aR R → Calls Tryz.prog 16 #[.agg #[.int .i64 (k : Int), .slice aR R.length cR]] W fun e w' => e = .returned (.bool true) ∧ Below W.heap.size W w') := Lib.hid (fun W hW => by
      refine (HIC.out W hW).mono ?_
      rintro e w' ⟨b, hb, rfl, hb2⟩
      rw [hb.2 hcomp]
      exact ⟨rfl, hb2⟩)
    have HIT := Lib.hid (fun W h hm => HII.out W h hint hm)
    have HCL : Hid (∀ W, RulesIn W aE E → MaxL W → Tab10 W → Calls Tryz.prog 9 #[.int .i64 (k : Int), .slice aE E.length cE] W fun e w' => e = .returned (.string (sysT0 (k : Int) R)) ∧ Below W.heap.size W w') := Lib.hid (fun W h1 h2 h3 => by
      refine (HCLN.out W h1 h2 h3).mono ?_
      rintro e w' ⟨s, hs, rfl, hb⟩
      have h0 : CLine (k : Int) E (sysT0 (k : Int) R) := .inl ⟨HST.out, 0, R, Q, T, HRUN.out, (lineC_zero (k : Int) R).symm⟩
      rw [hs.uniq h0]
      exact ⟨rfl, hb⟩)
    clear hcomp heqs hint hturn hQ0 HIC HII HCLN
    go_wp2_with fail
    refine (HSO.out _ HR4.out).mono ?_
    rintro e w5 ⟨rfl, hb5⟩
    have HB5 := Lib.hid (Below.now HB4.out hb5)
    clear s0 s1 hb5 HR4 HSO
    go_wp2_with fail
    go_loopw [45] (fun c wr => ∃ j : Nat, j ≤ E.length ∧ c = .int .i64 (j : Nat) ∧ Hid (Below w3.heap.size w3 wr)) (fun c _ => E.length - (intOf c).toNat)
    case atStart => exact ⟨0, Nat.zero_le _, rfl, HB5⟩
    case round =>
      clear HB5
      obtain ⟨j, hj, rfl, HBR⟩ := hrel
      by_cases hlt : j < E.length
      · obtain ⟨⟨⟨s0, s1⟩, hRr⟩, hEr, -⟩ := HXS.out wr HBR.out
        obtain ⟨b, off, hbe, hb, hcc⟩ := hEr.cell hlt
        obtain ⟨c0, c1⟩ := hcc j hlt
        have heq := HEQ.out j hlt
        obtain ⟨hw1, hw2⟩ := HWO.out j hlt
        have hjl : (j : Int) < (E.length : Int) := by omega
        have HN1 := Lib.hid (fun W h => HNF.out (nthR E j).1 W h hw1)
        have HN2 := Lib.hid (fun W h => HNF.out (nthR E j).2 W h hw2)
        rw [← heq] at HN2
        clear heq hcc hEr hRr s0 s1 hw1 hw2
        generalize nfC R (nthR E j).1 = x at *
        generalize (nthR E j).1 = u at *
        generalize (nthR E j).2 = v at *
        subst hbe
        go_upto_region 13 with fail
        have HB6 := Lib.hid (Below.now HBR.out (alloc_belowS wr (.cells #[.string u, .string v] 39)))
        have HY : Hid (∀ W, Below (wr.alloc (.cells #[.string u, .string v] 39)).heap.size (wr.alloc (.cells #[.string u, .string v] 39)) W → W.cell? ⟨wr.heap.size, 0, none⟩ = some (.string u) ∧ W.cell? ⟨wr.heap.size, 1, none⟩ = some (.string v)) := Lib.hid (fun W hW => ⟨by rw [hW.cell (by simp)]; simp, by rw [hW.cell (by simp)]; simp⟩)
        generalize hg4 : wr.heap.size = g4 at *
        clear hg4 c0 c1
        generalize wr.alloc (.cells #[.string u, .string v] 39) = w6 at *
        obtain ⟨y0, y1⟩ := HY.out w6 (Below.refl _ _)
        obtain ⟨⟨⟨s0, s1⟩, hR6⟩, -⟩ := HXS.out w6 HB6.out
        have HR6 := Lib.hid hR6
        clear hR6
        go_wp2_with fail
        refine (HN1.out _ HR6.out).mono ?_
        rintro e w7 ⟨rfl, hb7⟩
        have HB7 := Lib.hid hb7
        clear s0 s1 y0 y1 hb7
        obtain ⟨y0, y1⟩ := HY.out w7 HB7.out
        obtain ⟨⟨⟨s0, s1⟩, hR7⟩, -⟩ := HXS.out w7 (Below.now HB6.out HB7.out)
        have HR7 := Lib.hid hR7
        clear hR7
        go_wp2_with fail
        refine (HN2.out _ HR7.out).mono ?_
        rintro e w8 ⟨rfl, hb8⟩
        have HB8 := Lib.hid (Below.now HB6.out (Below.now HB7.out hb8))
        clear s0 s1 y0 y1 hb8
        go_wp2_with fail
        go_roundw
        case rel => exact ⟨j + 1, by omega, by go_num, HB8⟩
        case measure => simp [intOf]; omega
      · go_upto_region 18 with fail
        refine region_each (fun W => Below wr.heap.size wr W) (fun W W2 => Below W.heap.size W W2) (fun u => by simp only [fPut, Act.put, List.setIfInBounds_toArray, List.set_cons_succ, List.set_cons_zero, Nat.zero_add, Nat.reduceAdd]; rfl) (by kernel_rfl) (by kernel_rfl) (by kernel_rfl) (Below.drew (Below.refl _ _)) ?_
        apply each_read (fun _ => Below.refl _ _) rfl
        · intro u wv hC hf
          obtain ⟨⟨⟨s0, s1⟩, hRW⟩, hEW, hTW, hMW⟩ := HXS.out wv (Below.now HBR.out hC)
          clear hf
          go_simp
          try rfl
        apply each_callR rfl
        · intro u wv hC hf
          obtain ⟨⟨⟨s0, s1⟩, hRW⟩, hEW, hTW, hMW⟩ := HXS.out wv (Below.now HBR.out hC)
          obtain ⟨d0_0, -⟩ := hf
          have e0 : u 0 = _ := d0_0 rfl
          clear d0_0
          apply Exists.intro; apply Exists.intro; apply And.intro
          · go_simp; exact ⟨rfl, rfl⟩
          · refine (HCT.out _ hRW).mono ?_
            rintro e wx ⟨rfl, hb⟩
            exact ⟨rfl, Below.now hC hb, hb⟩
        conv => arg 8; simp only [List.cons_append, List.nil_append]
        apply each_read (fun _ => Below.refl _ _) rfl
        · intro u wv hC hf
          obtain ⟨⟨⟨s0, s1⟩, hRW⟩, hEW, hTW, hMW⟩ := HXS.out wv (Below.now HBR.out hC)
          obtain ⟨d1_0, d1_1, -⟩ := hf
          have e1 : u 1 = _ := d1_0 rfl
          clear d1_0
          clear d1_1
          go_simp
          try rfl
        conv => arg 8; simp only [List.cons_append, List.nil_append]
        apply each_readG (fun _ => Below.refl _ _)
        · intro u wv hC hf
          obtain ⟨⟨⟨s0, s1⟩, hRW⟩, hEW, hTW, hMW⟩ := HXS.out wv (Below.now HBR.out hC)
          obtain ⟨d2_0, -⟩ := hf
          have e2 : u 2 = _ := d2_0 rfl
          clear d2_0
          refine ⟨wanted_at rfl rfl rfl e2 rfl, ?_⟩
          go_simp
          try rfl
        conv => arg 8; simp only [List.cons_append, List.nil_append]
        apply each_callRG
        · intro u wv hC hf
          obtain ⟨⟨⟨s0, s1⟩, hRW⟩, hEW, hTW, hMW⟩ := HXS.out wv (Below.now HBR.out hC)
          obtain ⟨d3_0, d2_1, d2_2, -⟩ := hf
          have e3 : u 3 = _ := d3_0 rfl
          clear d3_0
          have e2 : u 2 = _ := d2_1 rfl
          clear d2_1
          clear d2_2
          refine ⟨wanted_at rfl rfl rfl e2 rfl, ?_⟩
          apply Exists.intro; apply Exists.intro; apply And.intro
          · go_simp; exact ⟨rfl, rfl⟩
          · refine (HIT.out _ hRW hMW).mono ?_
            rintro e wx ⟨rfl, hb⟩
            exact ⟨rfl, Below.now hC hb, hb⟩
        conv => arg 8; simp only [List.cons_append, List.nil_append]
        apply each_read (fun _ => Below.refl _ _) rfl
        · intro u wv hC hf
          obtain ⟨⟨⟨s0, s1⟩, hRW⟩, hEW, hTW, hMW⟩ := HXS.out wv (Below.now HBR.out hC)
          obtain ⟨d2_0, d4_1, -⟩ := hf
          have e2 : u 2 = _ := d2_0 rfl
          clear d2_0
          have e4 : u 4 = _ := d4_1 rfl
          clear d4_1
          go_simp
          try rfl
        conv => arg 8; simp only [List.cons_append, List.nil_append]
        apply each_read (fun _ => Below.refl _ _) rfl
        · intro u wv hC hf
          obtain ⟨⟨⟨s0, s1⟩, hRW⟩, hEW, hTW, hMW⟩ := HXS.out wv (Below.now HBR.out hC)
          obtain ⟨d5_0, d4_1, -⟩ := hf
          have e5 : u 5 = _ := d5_0 rfl
          clear d5_0
          have e4 : u 4 = _ := d4_1 rfl
          clear d4_1
          go_simp
          try rfl
        conv => arg 8; simp only [List.cons_append, List.nil_append]
        apply each_readG (fun _ => Below.refl _ _)
        · intro u wv hC hf
          obtain ⟨⟨⟨s0, s1⟩, hRW⟩, hEW, hTW, hMW⟩ := HXS.out wv (Below.now HBR.out hC)
          obtain ⟨d6_0, -⟩ := hf
          have e6 : u 6 = _ := d6_0 rfl
          clear d6_0
          refine ⟨wanted_at rfl rfl rfl e6 rfl, ?_⟩
          go_simp
          try rfl
        conv => arg 8; simp only [List.cons_append, List.nil_append]
        apply each_readG (fun _ => Below.refl _ _)
        · intro u wv hC hf
          obtain ⟨⟨⟨s0, s1⟩, hRW⟩, hEW, hTW, hMW⟩ := HXS.out wv (Below.now HBR.out hC)
          obtain ⟨d6_0, -⟩ := hf
          have e6 : u 6 = _ := d6_0 rfl
          clear d6_0
          refine ⟨wanted_at rfl rfl rfl e6 rfl, ?_⟩
          go_simp
          try rfl
        conv => arg 8; simp only [List.cons_append, List.nil_append]
        apply each_readG (fun _ => Below.refl _ _)
        · intro u wv hC hf
          obtain ⟨⟨⟨s0, s1⟩, hRW⟩, hEW, hTW, hMW⟩ := HXS.out wv (Below.now HBR.out hC)
          obtain ⟨d8_0, d6_1, -⟩ := hf
          have e8 : u 8 = _ := d8_0 rfl
          clear d8_0
          have e6 : u 6 = _ := d6_1 rfl
          clear d6_1
          refine ⟨wanted_at rfl rfl rfl e6 rfl, ?_⟩
          go_simp
          try rfl
        conv => arg 8; simp only [List.cons_append, List.nil_append]
        apply each_readG (fun _ => Below.refl _ _)
        · intro u wv hC hf
          obtain ⟨⟨⟨s0, s1⟩, hRW⟩, hEW, hTW, hMW⟩ := HXS.out wv (Below.now HBR.out hC)
          obtain ⟨d7_0, d9_1, d6_2, -⟩ := hf
          have e7 : u 7 = _ := d7_0 rfl
          clear d7_0
          have e9 : u 9 = _ := d9_1 rfl
          clear d9_1
          have e6 : u 6 = _ := d6_2 rfl
          clear d6_2
          refine ⟨wanted_at rfl rfl rfl e6 rfl, ?_⟩
          go_simp
          try rfl
        conv => arg 8; simp only [List.cons_append, List.nil_append]
        apply each_read (fun _ => Below.refl _ _) rfl
        · intro u wv hC hf
          obtain ⟨⟨⟨s0, s1⟩, hRW⟩, hEW, hTW, hMW⟩ := HXS.out wv (Below.now HBR.out hC)
          obtain ⟨d6_0, d10_1, -⟩ := hf
          have e6 : u 6 = _ := d6_0 rfl
          clear d6_0
          have e10 : u 10 = _ := d10_1 rfl
          clear d10_1
          go_simp
          try rfl
        conv => arg 8; simp only [List.cons_append, List.nil_append]
        apply each_read (fun _ => Below.refl _ _) rfl
        · intro u wv hC hf
          obtain ⟨⟨⟨s0, s1⟩, hRW⟩, hEW, hTW, hMW⟩ := HXS.out wv (Below.now HBR.out hC)
          obtain ⟨d11_0, d6_1, -⟩ := hf
          have e11 : u 11 = _ := d11_0 rfl
          clear d11_0
          have e6 : u 6 = _ := d6_1 rfl
          clear d6_1
          go_simp
          try rfl
        conv => arg 8; simp only [List.cons_append, List.nil_append]
        apply each_readG (fun _ => Below.refl _ _)
        · intro u wv hC hf
          obtain ⟨⟨⟨s0, s1⟩, hRW⟩, hEW, hTW, hMW⟩ := HXS.out wv (Below.now HBR.out hC)
          obtain ⟨d12_0, -⟩ := hf
          have e12 : u 12 = _ := d12_0 rfl
          clear d12_0
          refine ⟨wanted_at rfl rfl rfl e12 rfl, ?_⟩
          go_simp
          try rfl
        conv => arg 8; simp only [List.cons_append, List.nil_append]
        apply each_readG (fun _ => Below.refl _ _)
        · intro u wv hC hf
          obtain ⟨⟨⟨s0, s1⟩, hRW⟩, hEW, hTW, hMW⟩ := HXS.out wv (Below.now HBR.out hC)
          obtain ⟨d13_0, d12_1, -⟩ := hf
          have e13 : u 13 = _ := d13_0 rfl
          clear d13_0
          have e12 : u 12 = _ := d12_1 rfl
          clear d12_1
          refine ⟨wanted_at rfl rfl rfl e12 rfl, ?_⟩
          go_simp
          try rfl
        conv => arg 8; simp only [List.cons_append, List.nil_append]
        apply each_readG (fun _ => Below.refl _ _)
        · intro u wv hC hf
          obtain ⟨⟨⟨s0, s1⟩, hRW⟩, hEW, hTW, hMW⟩ := HXS.out wv (Below.now HBR.out hC)
          obtain ⟨d12_0, -⟩ := hf
          have e12 : u 12 = _ := d12_0 rfl
          clear d12_0
          refine ⟨wanted_at rfl rfl rfl e12 rfl, ?_⟩
          go_simp
          try rfl
        conv => arg 8; simp only [List.cons_append, List.nil_append]
        apply each_readG (fun _ => Below.refl _ _)
        · intro u wv hC hf
          obtain ⟨⟨⟨s0, s1⟩, hRW⟩, hEW, hTW, hMW⟩ := HXS.out wv (Below.now HBR.out hC)
          obtain ⟨d14_0, d15_1, d12_2, -⟩ := hf
          have e14 : u 14 = _ := d14_0 rfl
          clear d14_0
          have e15 : u 15 = _ := d15_1 rfl
          clear d15_1
          have e12 : u 12 = _ := d12_2 rfl
          clear d12_2
          refine ⟨wanted_at rfl rfl rfl e12 rfl, ?_⟩
          go_simp
          try rfl
        conv => arg 8; simp only [List.cons_append, List.nil_append]
        apply each_read (fun _ => Below.refl _ _) rfl
        · intro u wv hC hf
          obtain ⟨⟨⟨s0, s1⟩, hRW⟩, hEW, hTW, hMW⟩ := HXS.out wv (Below.now HBR.out hC)
          obtain ⟨d12_0, d16_1, -⟩ := hf
          have e12 : u 12 = _ := d12_0 rfl
          clear d12_0
          have e16 : u 16 = _ := d16_1 rfl
          clear d16_1
          go_simp
          try rfl
        conv => arg 8; simp only [List.cons_append, List.nil_append]
        apply each_read (fun _ => Below.refl _ _) rfl
        · intro u wv hC hf
          obtain ⟨⟨⟨s0, s1⟩, hRW⟩, hEW, hTW, hMW⟩ := HXS.out wv (Below.now HBR.out hC)
          obtain ⟨d17_0, d12_1, -⟩ := hf
          have e17 : u 17 = _ := d17_0 rfl
          clear d17_0
          have e12 : u 12 = _ := d12_1 rfl
          clear d12_1
          go_simp
          try rfl
        conv => arg 8; simp only [List.cons_append, List.nil_append]
        apply each_readG (fun _ => Below.refl _ _)
        · intro u wv hC hf
          obtain ⟨⟨⟨s0, s1⟩, hRW⟩, hEW, hTW, hMW⟩ := HXS.out wv (Below.now HBR.out hC)
          obtain ⟨d18_0, -⟩ := hf
          have e18 : u 18 = _ := d18_0 rfl
          clear d18_0
          refine ⟨wanted_at rfl rfl rfl e18 rfl, ?_⟩
          go_simp
          try rfl
        conv => arg 8; simp only [List.cons_append, List.nil_append]
        apply each_readG (fun _ => Below.refl _ _)
        · intro u wv hC hf
          obtain ⟨⟨⟨s0, s1⟩, hRW⟩, hEW, hTW, hMW⟩ := HXS.out wv (Below.now HBR.out hC)
          obtain ⟨d18_0, -⟩ := hf
          have e18 : u 18 = _ := d18_0 rfl
          clear d18_0
          refine ⟨wanted_at rfl rfl rfl e18 rfl, ?_⟩
          go_simp
          try rfl
        conv => arg 8; simp only [List.cons_append, List.nil_append]
        apply each_callRG
        · intro u wv hC hf
          obtain ⟨⟨⟨s0, s1⟩, hRW⟩, hEW, hTW, hMW⟩ := HXS.out wv (Below.now HBR.out hC)
          obtain ⟨d19_0, d20_1, d18_2, d18_3, -⟩ := hf
          have e19 : u 19 = _ := d19_0 rfl
          clear d19_0
          have e20 : u 20 = _ := d20_1 rfl
          clear d20_1
          have e18 : u 18 = _ := d18_2 rfl
          clear d18_2
          clear d18_3
          refine ⟨wanted_at rfl rfl rfl e18 rfl, ?_⟩
          apply Exists.intro; apply Exists.intro; apply And.intro
          · go_simp; exact ⟨rfl, rfl⟩
          · refine (HCL.out _ hEW hMW hTW).mono ?_
            rintro e wx ⟨rfl, hb⟩
            exact ⟨rfl, Below.now hC hb, hb⟩
        conv => arg 8; simp only [List.cons_append, List.nil_append]
        apply each_readG (fun _ => Below.refl _ _)
        · intro u wv hC hf
          obtain ⟨⟨⟨s0, s1⟩, hRW⟩, hEW, hTW, hMW⟩ := HXS.out wv (Below.now HBR.out hC)
          obtain ⟨d18_0, -⟩ := hf
          have e18 : u 18 = _ := d18_0 rfl
          clear d18_0
          refine ⟨wanted_at rfl rfl rfl e18 rfl, ?_⟩
          go_simp
          try rfl
        conv => arg 8; simp only [List.cons_append, List.nil_append]
        apply each_callRG
        · intro u wv hC hf
          obtain ⟨⟨⟨s0, s1⟩, hRW⟩, hEW, hTW, hMW⟩ := HXS.out wv (Below.now HBR.out hC)
          obtain ⟨d22_0, d21_1, d18_2, -⟩ := hf
          have e22 : u 22 = _ := d22_0 rfl
          clear d22_0
          have e21 : u 21 = _ := d21_1 rfl
          clear d21_1
          have e18 : u 18 = _ := d18_2 rfl
          clear d18_2
          refine ⟨wanted_at rfl rfl rfl e18 rfl, ?_⟩
          apply Exists.intro; apply Exists.intro; apply And.intro
          · go_simp; exact ⟨rfl, rfl⟩
          · refine (HFS.out _ hRW hTW).mono ?_
            rintro e wx ⟨rfl, hb⟩
            exact ⟨rfl, Below.now hC hb, hb⟩
        conv => arg 8; simp only [List.cons_append, List.nil_append]
        apply each_readG (fun _ => Below.refl _ _)
        · intro u wv hC hf
          obtain ⟨⟨⟨s0, s1⟩, hRW⟩, hEW, hTW, hMW⟩ := HXS.out wv (Below.now HBR.out hC)
          obtain ⟨d21_0, d23_1, d18_2, -⟩ := hf
          have e21 : u 21 = _ := d21_0 rfl
          clear d21_0
          have e23 : u 23 = _ := d23_1 rfl
          clear d23_1
          have e18 : u 18 = _ := d18_2 rfl
          clear d18_2
          refine ⟨wanted_at rfl rfl rfl e18 rfl, ?_⟩
          go_simp
          try rfl
        conv => arg 8; simp only [List.cons_append, List.nil_append]
        apply each_read (fun _ => Below.refl _ _) rfl
        · intro u wv hC hf
          obtain ⟨⟨⟨s0, s1⟩, hRW⟩, hEW, hTW, hMW⟩ := HXS.out wv (Below.now HBR.out hC)
          obtain ⟨d18_0, d24_1, -⟩ := hf
          have e18 : u 18 = _ := d18_0 rfl
          clear d18_0
          have e24 : u 24 = _ := d24_1 rfl
          clear d24_1
          go_simp
          try rfl
        conv => arg 8; simp only [List.cons_append, List.nil_append]
        apply each_read (fun _ => Below.refl _ _) rfl
        · intro u wv hC hf
          obtain ⟨⟨⟨s0, s1⟩, hRW⟩, hEW, hTW, hMW⟩ := HXS.out wv (Below.now HBR.out hC)
          obtain ⟨d25_0, d23_1, d0_2, d1_3, d2_4, d3_5, d4_6, d5_7, d6_8, d7_9, d8_10, d9_11, d10_12, d11_13, d12_14, d13_15, d14_16, d15_17, d16_18, d17_19, d18_20, d19_21, d20_22, d21_23, d22_24, d23_25, d24_26, d25_27, -⟩ := hf
          have e25 : u 25 = _ := d25_0 rfl
          clear d25_0
          have e23 : u 23 = _ := d23_1 rfl
          clear d23_1
          have e0 : u 0 = _ := d0_2 rfl
          clear d0_2
          have e1 : u 1 = _ := d1_3 rfl
          clear d1_3
          have e2 : u 2 = _ := d2_4 rfl
          clear d2_4
          have e3 : u 3 = _ := d3_5 rfl
          clear d3_5
          have e4 : u 4 = _ := d4_6 rfl
          clear d4_6
          have e5 : u 5 = _ := d5_7 rfl
          clear d5_7
          have e6 : u 6 = _ := d6_8 rfl
          clear d6_8
          have e7 : u 7 = _ := d7_9 rfl
          clear d7_9
          have e8 : u 8 = _ := d8_10 rfl
          clear d8_10
          have e9 : u 9 = _ := d9_11 rfl
          clear d9_11
          have e10 : u 10 = _ := d10_12 rfl
          clear d10_12
          have e11 : u 11 = _ := d11_13 rfl
          clear d11_13
          have e12 : u 12 = _ := d12_14 rfl
          clear d12_14
          have e13 : u 13 = _ := d13_15 rfl
          clear d13_15
          have e14 : u 14 = _ := d14_16 rfl
          clear d14_16
          have e15 : u 15 = _ := d15_17 rfl
          clear d15_17
          have e16 : u 16 = _ := d16_18 rfl
          clear d16_18
          have e17 : u 17 = _ := d17_19 rfl
          clear d17_19
          have e18 : u 18 = _ := d18_20 rfl
          clear d18_20
          have e19 : u 19 = _ := d19_21 rfl
          clear d19_21
          have e20 : u 20 = _ := d20_22 rfl
          clear d20_22
          have e21 : u 21 = _ := d21_23 rfl
          clear d21_23
          have e22 : u 22 = _ := d22_24 rfl
          clear d22_24
          clear d23_25
          have e24 : u 24 = _ := d24_26 rfl
          clear d24_26
          clear d25_27
          go_simp
          try rfl
        intro u wv hC hall
        obtain ⟨a0, a1, a2, a3, a4, a5, a6, a7, a8, a9, a10, a11, a12, a13, a14, a15, a16, a17, a18, a19, a20, a21, a22, a23, a24, a25, a26, -⟩ := hall
        have e0 : u 0 = _ := a0
        clear a0
        have e1 : u 1 = _ := a1
        clear a1
        have e2 : u 2 = _ := a2
        clear a2
        have e3 : u 3 = _ := a3
        clear a3
        have e4 : u 4 = _ := a4
        clear a4
        have e5 : u 5 = _ := a5
        clear a5
        have e6 : u 6 = _ := a6
        clear a6
        have e7 : u 7 = _ := a7
        clear a7
        have e8 : u 8 = _ := a8
        clear a8
        have e9 : u 9 = _ := a9
        clear a9
        have e10 : u 10 = _ := a10
        clear a10
        have e11 : u 11 = _ := a11
        clear a11
        have e12 : u 12 = _ := a12
        clear a12
        have e13 : u 13 = _ := a13
        clear a13
        have e14 : u 14 = _ := a14
        clear a14
        have e15 : u 15 = _ := a15
        clear a15
        have e16 : u 16 = _ := a16
        clear a16
        have e17 : u 17 = _ := a17
        clear a17
        have e18 : u 18 = _ := a18
        clear a18
        have e19 : u 19 = _ := a19
        clear a19
        have e20 : u 20 = _ := a20
        clear a20
        have e21 : u 21 = _ := a21
        clear a21
        have e22 : u 22 = _ := a22
        clear a22
        have e23 : u 23 = _ := a23
        clear a23
        have e24 : u 24 = _ := a24
        clear a24
        have e25 : u 25 = _ := a25
        clear a25
        have e26 : u 26 = _ := a26
        clear a26
        simp only [e0, e1, e2, e3, e4, e5, e6, e7, e8, e9, e10, e11, e12, e13, e14, e15, e16, e17, e18, e19, e20, e21, e22, e23, e24, e25, e26]
        clear e0 e1 e2 e3 e4 e5 e6 e7 e8 e9 e10 e11 e12 e13 e14 e15 e16 e17 e18 e19 e20 e21 e22 e23 e24 e25 e26
        have HBF := Lib.hid (Below.now HB1.out (Below.now HB3.out (Below.now HBR.out hC)))
        clear hC
        go_wp2_with fail
        go_ret
        exact ⟨rfl, HBF.out⟩
  · have htz : turnsZ c T = -1 := if_neg hc
    rw [htz]
    have hc2 : (((c : Nat) : Int) == 0) = false := by rw [beq_eq_false_iff_ne]; omega
    have hc3 : (((c : Nat) : Int) != 0) = true := by rw [bne_iff_ne]; omega
    have hc4 : ¬ ((c : Nat) : Int) = 0 := by omega
    clear htz
    go_wp2_with fail
    refine (HSO.out _ HR4.out).mono ?_
    rintro e w5 ⟨rfl, hb5⟩
    have HB5 := Lib.hid (Below.now HB1.out (Below.now HB3.out (Below.now HB4.out hb5)))
    clear s0 s1 hb5
    go_wp2_with fail
    go_ret
    exact ⟨rfl, HB5.out⟩
set_option maxRecDepth 100000 in
theorem walkBig (a : Option Addr) (n cap : Nat) (w : World) (hn : n ≤ 9223372036854775807) (hlen : 1048576 < n) :
    Calls Tryz.prog 4 #[.slice a n cap] w fun e w' => e = .returned (.bool true) ∧ Below w.heap.size w w' := by
  have hq0 : (1048576 : Int) < (n : Int) := by omega
  go_enter Tryz.func4, Tryz.ntmps4
  go_wp2_with fail
  go_ret
  exact ⟨rfl, Below.refl _ _⟩
end Go.Proofs.YtgoeadgpbidgiaaGreatDoor.fnCompletion
namespace Go.Proofs.YtgoeadgpbidgiaaGreatDoor
open Go.ChangeShapes Go.WideShapes Go.ChangeAt Go.RowKit Go.Joins Go.Deep
set_option linter.unusedVariables false
theorem open_bytesIn {H : Type} {enc : TypeId × Value → H} {P : Program} {w : World} {r : Go.Reach} {b0 : Nat} {t e : TypeId} {v : Value} {d : DataW H} {p : List MemPlace} (ht : P.underlying t = some (.slice e)) (he : P.underlying e = some (.int .u8)) (hc : P.cellsOf e = 1)
    (hv : Value.okWide P w r b0 t v) (h : DataW.Trod enc P w 0 (fun _ => true) true t v d p) : ∃ a l cap, v = .slice a (List.length (α := UInt8) l) cap ∧ BytesIn w a l ∧ l.length ≤ 9223372036854775807 := by
  obtain ⟨a0, len0, cap0, rfl⟩ := okWide_slice ht hv
  obtain ⟨fuel, hf⟩ := h
  rcases open_ints ht he hc hf with ⟨hcs, _⟩ | ⟨a, len, cap, zs, hcs, _, hl, hm, hz, _, hcell, hwz⟩
  · have e : (Value.slice a0 len0 cap0) = .slice none 0 0 := by simpa [Value.cells] using hcs
    rw [e]
    exact ⟨none, [], 0, rfl, .inl rfl, by simp⟩
  · have e : (Value.slice a0 len0 cap0) = .slice (some a) len cap := by simpa [Value.cells] using hcs
    rw [e]
    simp only [if_true] at hz
    have hlen : ((zs.take len).map fun n => UInt8.ofNat n.toNat).length = len := by rw [List.length_map, List.length_take]; omega
    refine ⟨some a, (zs.take len).map fun n => UInt8.ofNat n.toNat, cap, by rw [hlen], ?_, by rw [hlen]; unfold maxLen at hm; omega⟩
    by_cases h0 : len = 0
    · left; subst h0; simp
    · obtain ⟨b, off, rfl, hc'⟩ := ints_at hcell (by omega)
      right
      refine ⟨b, off, rfl, fun i hi => ?_⟩
      rw [List.length_map, hlen] at hi
      rw [hc' i (by omega)]
      have hb := range_u8 hwz i
      rw [List.getElem?_eq_getElem (show i < zs.length by omega), Option.getD_some] at hb
      have e : zs.getD i 0 = zs[i]'(by omega) := by simp [List.getD, List.getElem?_eq_getElem (show i < zs.length by omega)]
      simp only [List.getElem_map, List.getElem_take]
      rw [e]
      congr 2
      simp only [UInt8.toNat_ofNat']
      omega
end Go.Proofs.YtgoeadgpbidgiaaGreatDoor
namespace Go.Proofs.YtgoeadgpbidgiaaGreatDoor
open Go
set_option linter.unusedVariables false
theorem ret_shaped {H : Type} {enc : TypeId × Value → H} {a : Assume} {C : Checked} {os : Os} {f : FuncId} {fn : Func} {s : ChangeSpec} {conds : List PathCond} {apart fresh handsOn again : Bool} {X : World → Array Value → Prop}
    (hX : ∀ (w w' : World) (args : Array Value), w.heap = w'.heap → X w args → X w' args)
    (own : ownKnob C.prog.godebug = none) (started : os.Started) (noInit : C.prog.inits.idxOf? f = none) (hfn : C.prog.funcs[f]? = some fn)
    (witness : ∃ (w : World) (tape : Tape) (i : Input), w.os = os ∧ (w.forCall tape i).Shaped C.prog ∧ i.vars = [] ∧ Input.okWide C.prog (w.forCall tape i) .any w.heap.size f i ∧
      ((s.pre enc C.prog fn conds apart (w.forCall tape i).memory i.args ∧ X (w.forCall tape i).memory i.args) ∧ sizedMet enc C.prog fn (OpenSpec.ofChange s) apart (w.forCall tape i).memory i.args) ∧ a.holds C.prog (lone (Frame.enter C.prog f i.args .normal) [] (w.forCall tape i)))
    (contract : ∀ (W : World) (base : Nat) (args : Array Value) (ds gs : List (DataW H)) (before : List MemPlace),
      (∀ (j : Nat) t v, fn.params[j]? = some t → args[j]? = some v → Value.okWide C.prog W .any base t v) →
      DataW.Whole enc C.prog fn.params.toList s.vars apart W args.toList ds gs before → X W args → W.ShapedOpen C.prog →
      Calls C.prog f args W fun e W' => ∃ v, e = .returned v ∧ s.post enc C.prog fn apart fresh handsOn again W args v W') :
    ReturnsInHanded a C os f .any (fun w args => (s.pre enc C.prog fn conds apart w args ∧ X w args) ∧ sizedMet enc C.prog fn (OpenSpec.ofChange s) apart w args) (s.post enc C.prog fn apart fresh handsOn again) := by
  refine returnsInHanded_of_calls own started noInit witness ?_
  intro w tape i _ hsh _ hok hpre hholds
  obtain ⟨_, _, _, fn', hfn', _, _, _, _, hval⟩ := hok
  have e : fn' = fn := Option.some.inj (hfn'.symm.trans hfn)
  subst e
  obtain ⟨⟨⟨ds, gs, before, hw, hc⟩, hx⟩, hz⟩ := hpre
  have hw' := DataW.Whole.of_heap (w' := w.forCall tape i) (by rfl) hw
  refine (contract (w.forCall tape i) w.heap.size i.args ds gs before hval hw' (hX _ _ _ (by rfl) hx) hsh).mono fun e W' ⟨v, he, hp⟩ => ?_
  subst he
  exact ChangeSpec.post_blind hp
end Go.Proofs.YtgoeadgpbidgiaaGreatDoor
namespace Go.Proofs.YtgoeadgpbidgiaaGreatDoor.fnCompletion
open Go.ChangeShapes Go.WideShapes Go.ChangeAt Go.RowKit Go.Joins
open Go.ChangeMaps (open_string shut_string)
set_option linter.unusedVariables false
theorem own : ownKnob Tryz.prog.godebug = none := by kernel_rfl
theorem cellsB : Tryz.prog.cellsOf 5 = 1 := by kernel_rfl
theorem laidOut : laidOutB Tryz.prog = true := by kernel_rfl
theorem rdT : Tryz.prog.readableRec 29 = true ∧ 29 < Tryz.prog.types.size := ⟨by kernel_rfl, of_decide_eq_true (by kernel_rfl)⟩
theorem rd : ∀ t ∈ Tryz.f4.params.toList, Tryz.prog.readableRec t = true ∧ t < Tryz.prog.types.size := by
  rw [Tryz.params4]
  intro t ht
  simp at ht
  subst ht
  exact rdT
theorem door_met (os : Os) (args : Array Value) : laidMetH Tryz.prog Rows.fnCompletionRow.laid ((World.doorLaid Tryz.prog 24 os).forCall (fun _ _ => 0) ⟨#[], args, []⟩).memory :=
  laidMetH_of_parts3 (fuel := 8) (laidMet_of_run' 8 (by kernel_rfl) (by kernel_rfl)) (by kernel_rfl) (by kernel_rfl)
theorem tab_laid {W : World} (h : laidMetH Tryz.prog Rows.fnCompletionRow.laid W) : Tab10 W := by
  rw [MakeChecks.laidMetH_plain _ _ _ (by kernel_rfl)] at h
  have h3 : laidMet Tryz.prog [("internal/strconv.uint64pow10", Lib.tabData .u64 Lib.pow10Tab)] W := by
    have e : (Rows.laid_internal_strconv_uint64pow10 : DataW Unit) = Lib.tabData .u64 Lib.pow10Tab := by kernel_rfl
    rw [← e]
    exact laidMet.tail (laidMet.tail h)
  exact Lib.tabIs_of_head (rest := []) (g := 1) (by kernel_rfl) (by kernel_rfl) Tryz.underlying220 Tryz.underlying189 (by kernel_rfl) (by kernel_rfl) h3
theorem walk (a : Option Addr) (l : List UInt8) (cap : Nat) (w : World) (hl : BytesIn w a l) (hn : l.length ≤ 9223372036854775807) (ht : Tab10 w) (hmx : MaxL w) :
    Calls Tryz.prog 4 #[.slice a l.length cap] w fun e w' => e = .returned (.bool true) ∧ Below w.heap.size w w' := by
  by_cases h : l.length ≤ 1048576
  · exact walkSmall a l cap w hl h ht hmx
  · exact walkBig a l.length cap w hn (by omega)
set_option maxRecDepth 100000 in
theorem lifted (os : Os) (started : os.Started) (H : Type) (enc : TypeId × Value → H) :
    ReturnsInHanded {} Tryz.checked os 4 .any (fun w args => (Rows.fnCompletionSpec.pre enc Tryz.prog Tryz.f4 [] false w args ∧ laidMetH Tryz.prog Rows.fnCompletionRow.laid w) ∧ sizedMet enc Tryz.prog Tryz.f4 (OpenSpec.ofChange Rows.fnCompletionSpec) false w args)
      (Rows.fnCompletionSpec.post enc Tryz.prog Tryz.f4 false true false false) := by
  refine ret_shaped (C := Tryz.checked) (X := fun w _ => laidMetH Tryz.prog Rows.fnCompletionRow.laid w) (fun _ _ _ hh h => h.of_heap hh) own started (by kernel_rfl) Tryz.func4
    (ChangeSpec.witness_shaped (enc := enc) (C := Tryz.checked) (os := os) (X := fun w _ => laidMetH Tryz.prog Rows.fnCompletionRow.laid w) false (World.doorLaid Tryz.prog 24 os) #[.slice none 0 0] 8 rfl (World.shaped_of_RefB (by kernel_rfl) (by kernel_rfl)) (by kernel_rfl) (by kernel_rfl) (by kernel_rfl) (door_met os _)) ?_
  intro W base args ds gs before hval0 hW hL hsh
  have ht := tab_laid hL
  have hmx : MaxL W := cell_of_shapedOpen_int (P := Tryz.prog) (g := 0) (t := 3) (zero := #[.int .i64 0]) hsh (of_decide_eq_true (by kernel_rfl)) (by kernel_rfl) rfl (by kernel_rfl) (by kernel_rfl) Tryz.underlying3
  have hval : ∀ (j : Nat) t v, Tryz.f4.params[j]? = some t → args[j]? = some v → Value.okWide Tryz.prog W .any base t v := hval0
  have hW' := hW
  obtain ⟨p, q, hA0, hV, rfl, hfz, hnd⟩ := hW
  have hA : DataW.TrodAll enc Tryz.prog W 0 (fun _ => true) true Tryz.f4.params.toList args.toList ds p := hA0
  rw [Tryz.params4] at hA hval
  obtain ⟨v0, vs0, d0, ds0, p0, q0, hargs, rfl, rfl, h0, r0⟩ := trodAll_cons hA
  obtain ⟨rfl, rfl, rfl⟩ := trodAll_nil r0
  obtain rfl : args = #[v0] := by cases args; simp_all
  obtain ⟨rfl, rfl⟩ := trodVars_none hV
  obtain ⟨a0, l0, c0, rfl, hl0, hn0⟩ := open_bytesIn Tryz.underlying29 Tryz.underlying5 cellsB (hval 0 29 v0 rfl rfl) h0
  clear hA0 hval0
  refine (walk a0 l0 c0 W hl0 hn0 ht hmx).mono fun e W' ⟨he, hg⟩ => ?_
  subst he
  exact ⟨_, rfl, law_post laidOut rd rfl hW' rfl Tryz.underlying4 rfl hg⟩
theorem over : Rows.fnCompletionRow.holds Tryz.pinned (OpenSpec.ofChange Rows.fnCompletionSpec) :=
  OpenClaim.holds_of_wide 4 Tryz.f4 rfl rfl rfl rfl rfl rfl rfl ⟨rfl, rfl, rfl, rfl, rfl⟩ rfl rfl rfl rfl rfl (by kernel_rfl) Tryz.func4 (by kernel_rfl)
    (of_decide_eq_true (by kernel_rfl)) (by unfold Func.isWrapper; first | (rw [if_pos (by decide +kernel)]; kernel_rfl) | (rw [if_neg (by decide +kernel)]; exact ⟨rfl, rfl⟩))
    (fun os started H enc _ => lifted os started H enc)
theorem proved : Rows.FnCompletionCardSaid :=
  Claim7.holds_tied_plain_at .later [] [.data, .data, .data] true (true, "c1ec443601b15ba1e16138eb6a85af96c7ec492aca355bb50602483afd159751") false
    over (fun _ h => by cases h) (by kernel_rfl) (fun _ h => by cases h) fnCompletion_row_tie rfl ⟨rfl, rfl⟩ (by kernel_rfl) rfl
    (fun f fn hf hfn => by
      obtain rfl : f = 4 := Option.some.inj ((show Tryz.prog.funcNamed "loop.example/g03201/laws.FnCompletion" = some 4 by kernel_rfl).symm.trans hf) |>.symm
      obtain rfl : fn = Tryz.f4 := (Option.some.inj (Tryz.func4.symm.trans hfn)).symm
      exact ⟨by kernel_rfl, fun j t ht => by
        rw [Tryz.params4] at ht
        have hm : t ∈ [29] := by simpa using Array.mem_of_getElem? ht
        have hall : ([29].all fun u => !Tryz.prog.wantsStandIn u) = true := by kernel_rfl
        exact (show Tryz.prog.wantsStandIn t = false by simpa using List.all_eq_true.1 hall t hm)⟩)
    (by kernel_rfl)
#print axioms proved
end Go.Proofs.YtgoeadgpbidgiaaGreatDoor.fnCompletion
