/-
  The walk of 'FnRepeats'.
-/
import Derived.Test.YtnnboeeogbgmdaaRepLaw
import Derived.Test.YtnnboeeogbgmdaaCur
import Derived.Test.YtnnboeeogbgmdaaLift
import Derived.Deep.DeepCutAuto
namespace Go.Proofs.Ytnnboeeogbgmdaa.fnRepeats
open Go.RowKit
set_option linter.unusedVariables false
theorem empty_of {s : ByteArray} (h : s.size = 0) : s = ⟨#[]⟩ := by
  have hb : bl s = [] := List.eq_nil_of_length_eq_zero (by rw [bl_len]; exact h)
  rw [← tx_bl s, hb]; rfl
theorem z2 : powR 2 ⟨#[]⟩ = none := by decide +kernel
theorem z3 : powR 3 ⟨#[]⟩ = none := by decide +kernel
theorem n2 : noRep (powR 2 ⟨#[]⟩) ⟨#[]⟩ = true := by decide +kernel
theorem n3 : noRep (powR 3 ⟨#[]⟩) ⟨#[]⟩ = true := by decide +kernel
theorem nO : noRep (ovR ⟨#[]⟩) ⟨#[]⟩ = true := by decide +kernel
theorem a2 : avoidB ⟨#[88, 88]⟩ ⟨#[]⟩ = true := by decide +kernel
theorem a3 : avoidB ⟨#[88, 88, 88]⟩ ⟨#[]⟩ = true := by decide +kernel
theorem a5 : avoidB ⟨#[88, 89, 88, 89, 88]⟩ ⟨#[]⟩ = true := by decide +kernel
set_option maxRecDepth 20000 in
set_option maxHeartbeats 4000000 in
theorem walkSmall (a : Option Addr) (l : List UInt8) (cap : Nat) (w : World) (hl : BytesIn w a l) (hlen : l.length ≤ 1048576) :
    Calls Try.prog 5 #[.slice a l.length cap] w fun e w' => e = .returned (.bool true) ∧ Below w.heap.size w w' := by
  have hq0 : ¬ (1048576 : Int) < (l.length : Int) := by omega
  have HP : Hid (Calls Try.prog 20 #[.slice a l.length cap, .int .i64 0] w fun e w' => ∃ s, longOkB 4 s = true ∧ e = .returned (.string s) ∧ Below w.heap.size w w') := Lib.hid (makeLong_any a l cap 0 w hl (by omega) (by omega))
  clear hl
  go_enter Try.func5, Try.ntmps5
  go_wp2_with fail
  refine HP.out.mono ?_
  rintro e w1 ⟨s, hok, rfl, hb1⟩
  have B1 := Lib.hid hb1
  have HOK := Lib.hid hok
  have hsz := longOk_size hok
  clear hb1 HP
  have HF2 := Lib.hid (fun W => firstSquare_any s W (by unfold maxLen; omega))
  have HS2 := Lib.hid (fun W => isSquareFree_any s W (by unfold maxLen; omega))
  have HS3 := Lib.hid (fun W => isCubeFree_any s W (by unfold maxLen; omega))
  have HSO := Lib.hid (fun W => isOverlapFree_any s W (by unfold maxLen; omega))
  have HF3 : Hid (∀ W, Calls Try.prog 25 #[.string s, .int .i64 3] W (RetRep (powR 3 s) W)) := Lib.hid (fun W => firstPower_any 3 s W (by unfold maxLen; omega) (by omega) (by omega))
  unfold RetRep at HF2 HF3
  have HSQ := Lib.hid (fun h => sqFacts hok h)
  have HCU := Lib.hid (cubFacts hok)
  have HSF := Lib.hid (sf_iff hok)
  rcases Nat.eq_zero_or_pos s.size with h0 | h0
  · obtain rfl := empty_of h0
    clear HF2 HS2 HS3 HSO HF3 HSQ HCU HSF
    have HF2 : Hid (∀ W, Calls Try.prog 21 #[.string ⟨#[]⟩] W fun e w' => e = .returned (.tuple #[.int .i64 0, .int .i64 0]) ∧ Below W.heap.size W w') := Lib.hid (fun W => by have h := firstSquare_any ⟨#[]⟩ W (by decide); unfold RetRep at h; rw [z2] at h; exact h)
    have HF3 : Hid (∀ W, Calls Try.prog 25 #[.string ⟨#[]⟩, .int .i64 3] W fun e w' => e = .returned (.tuple #[.int .i64 0, .int .i64 0]) ∧ Below W.heap.size W w') := Lib.hid (fun W => by have h := firstPower_any 3 ⟨#[]⟩ W (by decide) (by omega) (by omega); unfold RetRep at h; rw [z3] at h; exact h)
    have HGP := Lib.hid (fun W => greatestPower_empty W)
    have HS2 := Lib.hid (fun W => isSquareFree_any ⟨#[]⟩ W (by decide))
    have HS3 := Lib.hid (fun W => isCubeFree_any ⟨#[]⟩ W (by decide))
    have HSO := Lib.hid (fun W => isOverlapFree_any ⟨#[]⟩ W (by decide))
    have HA2 := Lib.hid (fun W => implAvoidsPattern_any ⟨#[88, 88]⟩ ⟨#[]⟩ W (by decide) (by decide))
    have HA3 := Lib.hid (fun W => implAvoidsPattern_any ⟨#[88, 88, 88]⟩ ⟨#[]⟩ W (by decide) (by decide))
    have HA5 := Lib.hid (fun W => implAvoidsPattern_any ⟨#[88, 89, 88, 89, 88]⟩ ⟨#[]⟩ W (by decide) (by decide))
    rw [n2] at HS2
    rw [n3] at HS3
    rw [nO] at HSO
    rw [a2] at HA2
    rw [a3] at HA3
    rw [a5] at HA5
    clear hok h0 hsz
    have B0 := B1
    go_wp2_with fail
    refine (HF2.out _).mono ?_
    rintro e z1 ⟨rfl, hz1⟩
    have Z1 := Lib.hid (Below.now B0.out hz1)
    clear hz1
    go_wp2_with fail
    refine (HGP.out _).mono ?_
    rintro e z2 ⟨rfl, rfl⟩
    go_wp2_with fail
    refine (HS2.out _).mono ?_
    rintro e z3 ⟨rfl, hz3⟩
    have Z3 := Lib.hid (Below.now Z1.out hz3)
    clear hz3
    go_wp2_with fail
    refine (HS2.out _).mono ?_
    rintro e z4 ⟨rfl, hz4⟩
    have Z4 := Lib.hid (Below.now Z3.out hz4)
    clear hz4
    go_wp2_with fail
    refine (HSO.out _).mono ?_
    rintro e z5 ⟨rfl, hz5⟩
    have Z5 := Lib.hid (Below.now Z4.out hz5)
    clear hz5
    go_wp2_with fail
    refine (HF3.out _).mono ?_
    rintro e z6 ⟨rfl, hz6⟩
    have Z6 := Lib.hid (Below.now Z5.out hz6)
    clear hz6
    go_wp2_with fail
    refine (HS3.out _).mono ?_
    rintro e z7 ⟨rfl, hz7⟩
    have Z7 := Lib.hid (Below.now Z6.out hz7)
    clear hz7
    go_wp2_with fail
    refine (HA2.out _).mono ?_
    rintro e z8 ⟨rfl, hz8⟩
    have Z8 := Lib.hid (Below.now Z7.out hz8)
    clear hz8
    go_wp2_with fail
    refine (HS2.out _).mono ?_
    rintro e z9 ⟨rfl, hz9⟩
    have Z9 := Lib.hid (Below.now Z8.out hz9)
    clear hz9
    go_wp2_with fail
    refine (HA3.out _).mono ?_
    rintro e z10 ⟨rfl, hz10⟩
    have Z10 := Lib.hid (Below.now Z9.out hz10)
    clear hz10
    go_wp2_with fail
    refine (HS3.out _).mono ?_
    rintro e z11 ⟨rfl, hz11⟩
    have Z11 := Lib.hid (Below.now Z10.out hz11)
    clear hz11
    go_wp2_with fail
    refine (HA5.out _).mono ?_
    rintro e z12 ⟨rfl, hz12⟩
    have Z12 := Lib.hid (Below.now Z11.out hz12)
    clear hz12
    go_wp2_with fail
    refine (HA3.out _).mono ?_
    rintro e z13 ⟨rfl, hz13⟩
    have Z13 := Lib.hid (Below.now Z12.out hz13)
    clear hz13
    go_wp2_with fail
    refine (HSO.out _).mono ?_
    rintro e z14 ⟨rfl, hz14⟩
    have Z14 := Lib.hid (Below.now Z13.out hz14)
    clear hz14
    go_wp2_with fail
    go_ret
    exact ⟨rfl, Z14.out⟩
  · have hs0 : (s.toList == ([] : List UInt8)) = false := by
      rw [ByteArray.toList_eq]
      cases h : s.data.toList with
      | nil =>
        have : s.data.toList.length = 0 := by rw [h]; rfl
        rw [Array.length_toList, ByteArray.size_data] at this; omega
      | cons => rfl
    have hs1 : s.toList ≠ ([] : List UInt8) := by
      intro h; rw [h] at hs0; cases hs0
    have HGP := Lib.hid (fun W => greatestPower_any s W hok h0)
    clear hok
    generalize hE2 : repE (powR 2 s) = e2 at *
    generalize hH2 : repH (powR 2 s) = h2 at *
    generalize hE3 : repE (powR 3 s) = e3 at *
    generalize hH3 : repH (powR 3 s) = h3 at *
    generalize hsf : noRep (powR 2 s) s = sf at *
    generalize hcf : noRep (powR 3 s) s = cf at *
    generalize hov : noRep (ovR s) s = ov at *
    clear hE2 hH2 hE3 hH3
    go_wp2_with fail
    refine (HF2.out _).mono ?_
    rintro e w2 ⟨rfl, hb2⟩
    have B2 := Lib.hid (Below.now B1.out hb2)
    clear hb2
    go_wp2_with fail
    refine (HGP.out _).mono ?_
    rintro e w3 ⟨p, ⟨_, hp⟩, rfl, hb3⟩
    have B3 := Lib.hid (Below.now B2.out hb3)
    have HPF := pFacts HOK.out hp
    rw [hsf, hcf, hov] at HPF
    have HPF := Lib.hid HPF
    clear hb3 hp hsf hcf hov
    go_upto_region 6 with fail
    go_cut [57] (fun v wx => v = .bool false ∧ Below w3.heap.size w3 wx)
    case first =>
      cases sf
      · have he : ¬ e2 = 0 := by have := HSF.out; simpa using this
        have e1 : ¬ (e2 : Int) = 0 := by omega
        have e1' : ((e2 : Int) == 0) = false := by rw [beq_eq_false_iff_ne]; exact e1
        have p2 : (2 : Int) ≤ (p : Int) := by have := HPF.out.2.1 rfl; omega
        cases cf
        · have p3 : (3 : Int) ≤ (p : Int) := by have := HPF.out.2.2.2 rfl; omega
          go_wp2_with fail
          refine (HS2.out _).mono ?_
          rintro e w4 ⟨rfl, hb4⟩
          have C4 := Lib.hid hb4
          clear hb4
          go_wp2_with fail
          refine (HS3.out _).mono ?_
          rintro e w5 ⟨rfl, hb5⟩
          have C5 := Lib.hid (Below.now C4.out hb5)
          clear hb5
          go_wp2_with fail
          refine (HS2.out _).mono ?_
          rintro e w6 ⟨rfl, hb6⟩
          have C6 := Lib.hid (Below.now C5.out hb6)
          clear hb6
          go_wp2_with fail
          go_meet
          exact ⟨rfl, C6.out⟩
        · have p3 : ¬ (3 : Int) ≤ (p : Int) := by have := HPF.out.2.2.1 rfl; omega
          go_wp2_with fail
          refine (HS2.out _).mono ?_
          rintro e w4 ⟨rfl, hb4⟩
          have C4 := Lib.hid hb4
          clear hb4
          go_wp2_with fail
          refine (HS3.out _).mono ?_
          rintro e w5 ⟨rfl, hb5⟩
          have C5 := Lib.hid (Below.now C4.out hb5)
          clear hb5
          go_wp2_with fail
          refine (HS2.out _).mono ?_
          rintro e w6 ⟨rfl, hb6⟩
          have C6 := Lib.hid (Below.now C5.out hb6)
          clear hb6
          go_wp2_with fail
          go_meet
          exact ⟨by simp; omega, C6.out⟩
      · have he : e2 = 0 := by have := HSF.out; simpa using this.symm
        obtain ⟨p2, c3, c4⟩ := HPF.out.1 rfl
        have p3 : ¬ (3 : Int) ≤ (p : Int) := by omega
        have p2' : ¬ (2 : Int) ≤ (p : Int) := by omega
        subst he c3 c4
        go_wp2_with fail
        refine (HS2.out _).mono ?_
        rintro e w4 ⟨rfl, hb4⟩
        have C4 := Lib.hid hb4
        clear hb4
        go_wp2_with fail
        refine (HS3.out _).mono ?_
        rintro e w5 ⟨rfl, hb5⟩
        have C5 := Lib.hid (Below.now C4.out hb5)
        clear hb5
        go_wp2_with fail
        refine (HS2.out _).mono ?_
        rintro e w6 ⟨rfl, hb6⟩
        have C6 := Lib.hid (Below.now C5.out hb6)
        clear hb6
        go_wp2_with fail
        refine (HSO.out _).mono ?_
        rintro e w7 ⟨rfl, hb7⟩
        have C7 := Lib.hid (Below.now C6.out hb7)
        clear hb7
        go_wp2_with fail
        go_meet
        exact ⟨by simp; omega, C7.out⟩
    case rest =>
      obtain ⟨rfl, hbc⟩ := hcut
      have B5 := Lib.hid (Below.now B3.out hbc)
      clear hbc HPF HSO HGP HS2 HF2 B1 B2 B3
      by_cases he : e2 = 0
      · subst he
        clear HSQ
        have B6 := B5
        go_wp2_with fail
        refine (HF3.out _).mono ?_
        rintro e w7 ⟨rfl, hb7⟩
        have B7 := Lib.hid (Below.now B6.out hb7)
        clear hb7 HF3
        go_upto_region 12 with fail
        go_cut [118] (fun v wx => v = .bool false ∧ Below w7.heap.size w7 wx)
        case first =>
          cases cf
          · obtain ⟨c1, c2⟩ := HCU.out.2 rfl
            have c3 : (0 : Int) < (e3 : Int) := by omega
            have c4 : ¬ (h3 : Int) < 1 := by omega
            go_wp2_with fail
            refine (HS3.out _).mono ?_
            rintro e w8 ⟨rfl, hb8⟩
            have C8 := Lib.hid hb8
            clear hb8
            go_wp2_with fail
            go_meet
            exact ⟨by simp; try omega, C8.out⟩
          · have c1 := HCU.out.1 rfl
            subst c1
            go_wp2_with fail
            refine (HS3.out _).mono ?_
            rintro e w8 ⟨rfl, hb8⟩
            have C8 := Lib.hid hb8
            clear hb8
            go_wp2_with fail
            go_meet
            exact ⟨by simp, C8.out⟩
        case rest =>
          obtain ⟨rfl, hbc⟩ := hcut
          have X1 := Lib.hid (Below.now B7.out hbc)
          clear hbc HCU HS3 HSF
          by_cases h12 : s.size ≤ 12
          · have z12 : ¬ (12 : Int) < (s.size : Int) := by omega
            have hv16 : s.size ≤ 16 := by omega
            have hvok : longOkB 4 s = true := HOK.out
            obtain ⟨k2, k3, k5⟩ := vFacts hvok hv16
            have HA2 := Lib.hid (fun W => implAvoidsPattern_any ⟨#[88, 88]⟩ s W (by decide) (by unfold maxLen; omega))
            have HA3 := Lib.hid (fun W => implAvoidsPattern_any ⟨#[88, 88, 88]⟩ s W (by decide) (by unfold maxLen; omega))
            have HA5 := Lib.hid (fun W => implAvoidsPattern_any ⟨#[88, 89, 88, 89, 88]⟩ s W (by decide) (by unfold maxLen; omega))
            have HV2 := Lib.hid (fun W => isSquareFree_any s W (by unfold maxLen; omega))
            have HV3 := Lib.hid (fun W => isCubeFree_any s W (by unfold maxLen; omega))
            have HVO := Lib.hid (fun W => isOverlapFree_any s W (by unfold maxLen; omega))
            rw [k5, k3] at HVO
            rw [k3] at HA3
            rw [k2] at HA2
            clear k2 k3 k5 hvok
            generalize noRep (powR 2 s) s = q2 at *
            generalize noRep (powR 3 s) s = q3 at *
            generalize avoidB ⟨#[88, 89, 88, 89, 88]⟩ s = q5 at *
            go_wp2_with fail
            refine (HA2.out _).mono ?_
            rintro e x2 ⟨rfl, hx2⟩
            have X2 := Lib.hid (Below.now X1.out hx2)
            clear hx2
            go_wp2_with fail
            refine (HV2.out _).mono ?_
            rintro e x3 ⟨rfl, hx3⟩
            have X3 := Lib.hid (Below.now X2.out hx3)
            clear hx3
            go_wp2_with fail
            refine (HA3.out _).mono ?_
            rintro e x4 ⟨rfl, hx4⟩
            have X4 := Lib.hid (Below.now X3.out hx4)
            clear hx4
            go_wp2_with fail
            refine (HV3.out _).mono ?_
            rintro e x5 ⟨rfl, hx5⟩
            have X5 := Lib.hid (Below.now X4.out hx5)
            clear hx5
            cases q5
            · go_wp2_with fail
              refine (HA5.out _).mono ?_
              rintro e x6 ⟨rfl, hx6⟩
              have X6 := Lib.hid (Below.now X5.out hx6)
              clear hx6
              go_wp2_with fail
              refine (HVO.out _).mono ?_
              rintro e x7 ⟨rfl, hx7⟩
              have X7 := Lib.hid (Below.now X6.out hx7)
              clear hx7
              go_wp2_with fail
              go_ret
              exact ⟨by simp, X7.out⟩
            · go_wp2_with fail
              refine (HA5.out _).mono ?_
              rintro e x6 ⟨rfl, hx6⟩
              have X6 := Lib.hid (Below.now X5.out hx6)
              clear hx6
              go_wp2_with fail
              refine (HA3.out _).mono ?_
              rintro e x7 ⟨rfl, hx7⟩
              have X7 := Lib.hid (Below.now X6.out hx7)
              clear hx7
              go_wp2_with fail
              refine (HVO.out _).mono ?_
              rintro e x8 ⟨rfl, hx8⟩
              have X8 := Lib.hid (Below.now X7.out hx8)
              clear hx8
              go_wp2_with fail
              go_ret
              exact ⟨by simp, X8.out⟩
          · have z12 : (12 : Int) < (s.size : Int) := by omega
            have hvl : (s.extract 0 12).size = 12 := by rw [ByteArray.size_extract]; omega
            have hvk : longOkB 4 (s.extract 0 12) = true := longOk_cut HOK.out _ _
            have HVK := Lib.hid hvk
            have HVL := Lib.hid hvl
            have HVX : ∃ v, s.extract 0 12 = v := ⟨_, rfl⟩
            obtain ⟨v, hvx⟩ := HVX
            rw [hvx] at HVK HVL
            clear hvl hvk
            have hvl := HVL.out
            have hv16 : v.size ≤ 16 := by omega
            have hvok : longOkB 4 v = true := HVK.out
            obtain ⟨k2, k3, k5⟩ := vFacts hvok hv16
            have HA2 := Lib.hid (fun W => implAvoidsPattern_any ⟨#[88, 88]⟩ v W (by decide) (by unfold maxLen; omega))
            have HA3 := Lib.hid (fun W => implAvoidsPattern_any ⟨#[88, 88, 88]⟩ v W (by decide) (by unfold maxLen; omega))
            have HA5 := Lib.hid (fun W => implAvoidsPattern_any ⟨#[88, 89, 88, 89, 88]⟩ v W (by decide) (by unfold maxLen; omega))
            have HV2 := Lib.hid (fun W => isSquareFree_any v W (by unfold maxLen; omega))
            have HV3 := Lib.hid (fun W => isCubeFree_any v W (by unfold maxLen; omega))
            have HVO := Lib.hid (fun W => isOverlapFree_any v W (by unfold maxLen; omega))
            rw [k5, k3] at HVO
            rw [k3] at HA3
            rw [k2] at HA2
            clear k2 k3 k5 hvok
            generalize noRep (powR 2 v) v = q2 at *
            generalize noRep (powR 3 v) v = q3 at *
            generalize avoidB ⟨#[88, 89, 88, 89, 88]⟩ v = q5 at *
            clear hvl
            go_wp2_with fail
            refine (HA2.out _).mono ?_
            rintro e x2 ⟨rfl, hx2⟩
            have X2 := Lib.hid (Below.now X1.out hx2)
            clear hx2
            go_wp2_with fail
            refine (HV2.out _).mono ?_
            rintro e x3 ⟨rfl, hx3⟩
            have X3 := Lib.hid (Below.now X2.out hx3)
            clear hx3
            go_wp2_with fail
            refine (HA3.out _).mono ?_
            rintro e x4 ⟨rfl, hx4⟩
            have X4 := Lib.hid (Below.now X3.out hx4)
            clear hx4
            go_wp2_with fail
            refine (HV3.out _).mono ?_
            rintro e x5 ⟨rfl, hx5⟩
            have X5 := Lib.hid (Below.now X4.out hx5)
            clear hx5
            cases q5
            · go_wp2_with fail
              refine (HA5.out _).mono ?_
              rintro e x6 ⟨rfl, hx6⟩
              have X6 := Lib.hid (Below.now X5.out hx6)
              clear hx6
              go_wp2_with fail
              refine (HVO.out _).mono ?_
              rintro e x7 ⟨rfl, hx7⟩
              have X7 := Lib.hid (Below.now X6.out hx7)
              clear hx7
              go_wp2_with fail
              go_ret
              exact ⟨by simp, X7.out⟩
            · go_wp2_with fail
              refine (HA5.out _).mono ?_
              rintro e x6 ⟨rfl, hx6⟩
              have X6 := Lib.hid (Below.now X5.out hx6)
              clear hx6
              go_wp2_with fail
              refine (HA3.out _).mono ?_
              rintro e x7 ⟨rfl, hx7⟩
              have X7 := Lib.hid (Below.now X6.out hx7)
              clear hx7
              go_wp2_with fail
              refine (HVO.out _).mono ?_
              rintro e x8 ⟨rfl, hx8⟩
              have X8 := Lib.hid (Below.now X7.out hx8)
              clear hx8
              go_wp2_with fail
              go_ret
              exact ⟨by simp, X8.out⟩
      · obtain ⟨r1, r2, r3, r4, r5⟩ := HSQ.out (by omega)
        obtain ⟨a2, ha2⟩ : ∃ a2, a2 = e2 - 2 * h2 := ⟨_, rfl⟩
        obtain ⟨b2, hb2⟩ : ∃ b2, b2 = e2 - h2 := ⟨_, rfl⟩
        obtain ⟨d2, hd2⟩ : ∃ d2, d2 = e2 - 1 := ⟨_, rfl⟩
        rw [← ha2, ← hb2] at r4
        rw [← hd2] at r5
        have HQ5 := Lib.hid (fun W => isSquareFree_any (s.extract 0 d2) W (by rw [ByteArray.size_extract]; unfold maxLen; omega))
        rw [r5] at HQ5
        clear r5 HSQ
        have y0 : (0 : Int) < (e2 : Int) := by omega
        have y1 : ¬ (h2 : Int) < 1 := by omega
        have y2 : ¬ (s.size : Int) < (e2 : Int) := by omega
        have y3a : IntKind.i64.wrap (2 * (h2 : Int)) = 2 * (h2 : Int) := by rw [IntWalk.i64_in _ (by omega)]
        have y3 : IntKind.i64.wrap ((e2 : Int) - 2 * (h2 : Int)) = (a2 : Int) := by rw [IntWalk.i64_in _ (by omega)]; omega
        have y4 : IntKind.i64.wrap ((e2 : Int) - (h2 : Int)) = (b2 : Int) := by rw [IntWalk.i64_in _ (by omega)]; omega
        have y5 : IntKind.i64.wrap ((e2 : Int) - 1) = (d2 : Int) := by rw [IntWalk.i64_in _ (by omega)]; omega
        have y6 : ¬ (a2 : Int) < 0 := by omega
        have y7 : (a2 : Int) ≤ (b2 : Int) := by omega
        have y8 : (b2 : Int) ≤ (e2 : Int) := by omega
        have y9 : (b2 : Int) ≤ (s.size : Int) := by omega
        have y11 : (d2 : Int) ≤ (s.size : Int) := by omega
        have y13 : (e2 : Int) ≤ (s.size : Int) := by omega
        clear ha2 hb2 hd2 he
        go_upto_region 9 with fail
        go_cut [100] (fun v wx => v = .bool false ∧ Below wc.heap.size wc wx)
        case first =>
          have kr5 : Hid (Below wc.heap.size wc wc) := Lib.hid (Below.refl _ _)
          go_region_held3 (fun w' => Hid (Below wc.heap.size wc w')) (exact Lib.hid (by repeat (first | exact kr6 | exact kr5.out | refine Below.drew ?_ | refine below_drewN ?_ _))) (first
            | (go_at_call 8; refine (HQ5.out _).mono ?_; rintro e w6 ⟨rfl, hb6⟩; have kr6 : Below wc.heap.size wc w6 := Below.now (by repeat (first | exact kr5.out | refine Below.drew ?_ | refine below_drewN ?_ _)) hb6; clear hb6))
          go_wp2_with fail
          go_meet
          exact ⟨by simp, kr6⟩
        case rest =>
          obtain ⟨rfl, hbc⟩ := hcut
          have B6 := Lib.hid (Below.now B5.out hbc)
          clear hbc HQ5 y3a y3 y4 y5 y6 y7 y8 y9 y11 y13 r4
          go_wp2_with fail
          refine (HF3.out _).mono ?_
          rintro e w7 ⟨rfl, hb7⟩
          have B7 := Lib.hid (Below.now B6.out hb7)
          clear hb7 HF3
          go_upto_region 12 with fail
          go_cut [118] (fun v wx => v = .bool false ∧ Below w7.heap.size w7 wx)
          case first =>
            cases cf
            · obtain ⟨c1, c2⟩ := HCU.out.2 rfl
              have c3 : (0 : Int) < (e3 : Int) := by omega
              have c4 : ¬ (h3 : Int) < 1 := by omega
              go_wp2_with fail
              refine (HS3.out _).mono ?_
              rintro e w8 ⟨rfl, hb8⟩
              have C8 := Lib.hid hb8
              clear hb8
              go_wp2_with fail
              go_meet
              exact ⟨by simp; try omega, C8.out⟩
            · have c1 := HCU.out.1 rfl
              subst c1
              go_wp2_with fail
              refine (HS3.out _).mono ?_
              rintro e w8 ⟨rfl, hb8⟩
              have C8 := Lib.hid hb8
              clear hb8
              go_wp2_with fail
              go_meet
              exact ⟨by simp, C8.out⟩
          case rest =>
            obtain ⟨rfl, hbc⟩ := hcut
            have X1 := Lib.hid (Below.now B7.out hbc)
            clear hbc HCU HS3 HSF
            by_cases h12 : s.size ≤ 12
            · have z12 : ¬ (12 : Int) < (s.size : Int) := by omega
              have hv16 : s.size ≤ 16 := by omega
              have hvok : longOkB 4 s = true := HOK.out
              obtain ⟨k2, k3, k5⟩ := vFacts hvok hv16
              have HA2 := Lib.hid (fun W => implAvoidsPattern_any ⟨#[88, 88]⟩ s W (by decide) (by unfold maxLen; omega))
              have HA3 := Lib.hid (fun W => implAvoidsPattern_any ⟨#[88, 88, 88]⟩ s W (by decide) (by unfold maxLen; omega))
              have HA5 := Lib.hid (fun W => implAvoidsPattern_any ⟨#[88, 89, 88, 89, 88]⟩ s W (by decide) (by unfold maxLen; omega))
              have HV2 := Lib.hid (fun W => isSquareFree_any s W (by unfold maxLen; omega))
              have HV3 := Lib.hid (fun W => isCubeFree_any s W (by unfold maxLen; omega))
              have HVO := Lib.hid (fun W => isOverlapFree_any s W (by unfold maxLen; omega))
              rw [k5, k3] at HVO
              rw [k3] at HA3
              rw [k2] at HA2
              clear k2 k3 k5 hvok
              generalize noRep (powR 2 s) s = q2 at *
              generalize noRep (powR 3 s) s = q3 at *
              generalize avoidB ⟨#[88, 89, 88, 89, 88]⟩ s = q5 at *
              go_wp2_with fail
              refine (HA2.out _).mono ?_
              rintro e x2 ⟨rfl, hx2⟩
              have X2 := Lib.hid (Below.now X1.out hx2)
              clear hx2
              go_wp2_with fail
              refine (HV2.out _).mono ?_
              rintro e x3 ⟨rfl, hx3⟩
              have X3 := Lib.hid (Below.now X2.out hx3)
              clear hx3
              go_wp2_with fail
              refine (HA3.out _).mono ?_
              rintro e x4 ⟨rfl, hx4⟩
              have X4 := Lib.hid (Below.now X3.out hx4)
              clear hx4
              go_wp2_with fail
              refine (HV3.out _).mono ?_
              rintro e x5 ⟨rfl, hx5⟩
              have X5 := Lib.hid (Below.now X4.out hx5)
              clear hx5
              cases q5
              · go_wp2_with fail
                refine (HA5.out _).mono ?_
                rintro e x6 ⟨rfl, hx6⟩
                have X6 := Lib.hid (Below.now X5.out hx6)
                clear hx6
                go_wp2_with fail
                refine (HVO.out _).mono ?_
                rintro e x7 ⟨rfl, hx7⟩
                have X7 := Lib.hid (Below.now X6.out hx7)
                clear hx7
                go_wp2_with fail
                go_ret
                exact ⟨by simp, X7.out⟩
              · go_wp2_with fail
                refine (HA5.out _).mono ?_
                rintro e x6 ⟨rfl, hx6⟩
                have X6 := Lib.hid (Below.now X5.out hx6)
                clear hx6
                go_wp2_with fail
                refine (HA3.out _).mono ?_
                rintro e x7 ⟨rfl, hx7⟩
                have X7 := Lib.hid (Below.now X6.out hx7)
                clear hx7
                go_wp2_with fail
                refine (HVO.out _).mono ?_
                rintro e x8 ⟨rfl, hx8⟩
                have X8 := Lib.hid (Below.now X7.out hx8)
                clear hx8
                go_wp2_with fail
                go_ret
                exact ⟨by simp, X8.out⟩
            · have z12 : (12 : Int) < (s.size : Int) := by omega
              have hvl : (s.extract 0 12).size = 12 := by rw [ByteArray.size_extract]; omega
              have hvk : longOkB 4 (s.extract 0 12) = true := longOk_cut HOK.out _ _
              have HVK := Lib.hid hvk
              have HVL := Lib.hid hvl
              have HVX : ∃ v, s.extract 0 12 = v := ⟨_, rfl⟩
              obtain ⟨v, hvx⟩ := HVX
              rw [hvx] at HVK HVL
              clear hvl hvk
              have hvl := HVL.out
              have hv16 : v.size ≤ 16 := by omega
              have hvok : longOkB 4 v = true := HVK.out
              obtain ⟨k2, k3, k5⟩ := vFacts hvok hv16
              have HA2 := Lib.hid (fun W => implAvoidsPattern_any ⟨#[88, 88]⟩ v W (by decide) (by unfold maxLen; omega))
              have HA3 := Lib.hid (fun W => implAvoidsPattern_any ⟨#[88, 88, 88]⟩ v W (by decide) (by unfold maxLen; omega))
              have HA5 := Lib.hid (fun W => implAvoidsPattern_any ⟨#[88, 89, 88, 89, 88]⟩ v W (by decide) (by unfold maxLen; omega))
              have HV2 := Lib.hid (fun W => isSquareFree_any v W (by unfold maxLen; omega))
              have HV3 := Lib.hid (fun W => isCubeFree_any v W (by unfold maxLen; omega))
              have HVO := Lib.hid (fun W => isOverlapFree_any v W (by unfold maxLen; omega))
              rw [k5, k3] at HVO
              rw [k3] at HA3
              rw [k2] at HA2
              clear k2 k3 k5 hvok
              generalize noRep (powR 2 v) v = q2 at *
              generalize noRep (powR 3 v) v = q3 at *
              generalize avoidB ⟨#[88, 89, 88, 89, 88]⟩ v = q5 at *
              clear hvl
              go_wp2_with fail
              refine (HA2.out _).mono ?_
              rintro e x2 ⟨rfl, hx2⟩
              have X2 := Lib.hid (Below.now X1.out hx2)
              clear hx2
              go_wp2_with fail
              refine (HV2.out _).mono ?_
              rintro e x3 ⟨rfl, hx3⟩
              have X3 := Lib.hid (Below.now X2.out hx3)
              clear hx3
              go_wp2_with fail
              refine (HA3.out _).mono ?_
              rintro e x4 ⟨rfl, hx4⟩
              have X4 := Lib.hid (Below.now X3.out hx4)
              clear hx4
              go_wp2_with fail
              refine (HV3.out _).mono ?_
              rintro e x5 ⟨rfl, hx5⟩
              have X5 := Lib.hid (Below.now X4.out hx5)
              clear hx5
              cases q5
              · go_wp2_with fail
                refine (HA5.out _).mono ?_
                rintro e x6 ⟨rfl, hx6⟩
                have X6 := Lib.hid (Below.now X5.out hx6)
                clear hx6
                go_wp2_with fail
                refine (HVO.out _).mono ?_
                rintro e x7 ⟨rfl, hx7⟩
                have X7 := Lib.hid (Below.now X6.out hx7)
                clear hx7
                go_wp2_with fail
                go_ret
                exact ⟨by simp, X7.out⟩
              · go_wp2_with fail
                refine (HA5.out _).mono ?_
                rintro e x6 ⟨rfl, hx6⟩
                have X6 := Lib.hid (Below.now X5.out hx6)
                clear hx6
                go_wp2_with fail
                refine (HA3.out _).mono ?_
                rintro e x7 ⟨rfl, hx7⟩
                have X7 := Lib.hid (Below.now X6.out hx7)
                clear hx7
                go_wp2_with fail
                refine (HVO.out _).mono ?_
                rintro e x8 ⟨rfl, hx8⟩
                have X8 := Lib.hid (Below.now X7.out hx8)
                clear hx8
                go_wp2_with fail
                go_ret
                exact ⟨by simp, X8.out⟩
set_option maxHeartbeats 400000 in
theorem walkBig (a : Option Addr) (n cap : Nat) (w : World) (hn : n ≤ 9223372036854775807) (hlen : 1048576 < n) :
    Calls Try.prog 5 #[.slice a n cap] w fun e w' => e = .returned (.bool true) ∧ Below w.heap.size w w' := by
  have hq0 : (1048576 : Int) < (n : Int) := by omega
  go_enter Try.func5, Try.ntmps5
  go_wp2_with fail
  go_ret
  exact ⟨rfl, Below.refl _ _⟩
end Go.Proofs.Ytnnboeeogbgmdaa.fnRepeats
