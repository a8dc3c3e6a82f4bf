/-
  The walk of 'FnPatterns'.
-/
import Derived.Test.YtnnboeeogbgmdaaPatL
import Derived.Test.YtnnboeeogbgmdaaCur
import Derived.Test.YtnnboeeogbgmdaaFillI
import Derived.Test.YtnnboeeogbgmdaaLift
namespace Go.Proofs.Ytnnboeeogbgmdaa.fnPatterns
open Go.RowKit
set_option linter.unusedVariables false
theorem fpV_good (p s : ByteArray) (h : fpOk p s = true) : (∀ v ∈ fpV p s, goodV v) ∧ (fpV p s).length ≤ 3 := by
  unfold fpV
  rw [if_pos h]
  simp only [fpOk, Bool.and_eq_true, decide_eq_true_eq] at h
  obtain ⟨hf, hpos⟩ := h
  obtain ⟨h1, h2, hp8, hs16⟩ := fitOk_out hf
  have hl : ∀ c ∈ bl s, letB 4 c = true := by
    rw [wordOk_all (by decide) hs16] at h2
    exact List.all_eq_true.1 h2
  have hx := fitH_mem hpos
  unfold fitL at hx
  have hx' : fitH p s ∈ fits (bl (varsOf p)) ((bl p).drop 0) (bl s) [] := by rw [List.drop_zero]; exact hx
  obtain ⟨e1, e2, e3⟩ := fits_sound p p.size 0 (bl s) [] _ (by omega) rfl (by rw [bl_len]; exact hs16) hl (fun v hv => by cases hv) hx'
  exact ⟨e3, by rw [e2]; exact varsOf_three p⟩
set_option maxRecDepth 20000 in
set_option maxHeartbeats 4000000 in
theorem walkSmall (a : Option Addr) (l : List UInt8) (cap : Nat) (w : World) (hl : BytesIn w a l) (hlen : l.length ≤ 1048576) :
    Calls Try.prog 4 #[.slice a l.length cap] w fun e w' => e = .returned (.bool true) ∧ Below w.heap.size w w' := by
  have hq0 : ¬ (1048576 : Int) < (l.length : Int) := by omega
  have HP : Hid (Calls Try.prog 11 #[.slice a l.length cap, .int .i64 0] w fun e w' => ∃ p, patternOkB p = true ∧ e = .returned (.string p) ∧ Below w.heap.size w w') := Lib.hid (makePattern_any a l cap 0 w hl (by omega) (by omega))
  have HM1 : Hid (∀ (j : Nat) (W : World), j < 3 → Below w.heap.size w W → Calls Try.prog 13 #[.slice a l.length cap, .int .i64 (20 + 10 * (j : Int)), .int .i64 2, .int .i64 1] W fun e w' => ∃ s, (allB (letB 4) s = true ∧ s.size ≤ 1) ∧ e = .returned (.string s) ∧ Below W.heap.size W w') := Lib.hid (fun j W hj hW => by
    have h := makeWord1_any a l cap (20 + 10 * j) W (hl.later hW) (by omega) (by omega)
    rw [show (((20 + 10 * j : Nat) : Int)) = 20 + 10 * (j : Int) by omega] at h
    exact h)
  have HM7 : Hid (∀ (W : World), Below w.heap.size w W → Calls Try.prog 13 #[.slice a l.length cap, .int .i64 60, .int .i64 2, .int .i64 7] W fun e w' => ∃ s, (allB (letB 4) s = true ∧ s.size ≤ 7) ∧ e = .returned (.string s) ∧ Below W.heap.size W w') := Lib.hid (fun W hW => makeWord7_any a l cap 60 W (hl.later hW) (by omega) (by omega))
  clear hl
  go_enter Try.func4, Try.ntmps4
  go_wp2_with fail
  refine HP.out.mono ?_
  rintro e w1 ⟨p, hp, rfl, hb1⟩
  have B1 := Lib.hid hb1
  have HPO := Lib.hid hp
  have hp8 := patOk_size hp
  clear hb1 HP
  have HV := Lib.hid (fun W => implVariablesOf_any p W (by unfold maxLen; omega))
  have hv3 := varsOf_three p
  rw [varsF_yes hp] at HV
  clear hp
  generalize hvo : varsOf p = vo at *
  go_wp2_with fail
  refine (HV.out _).mono ?_
  rintro e w2 ⟨rfl, hb2⟩
  have B2 := Lib.hid (Below.now B1.out hb2)
  clear hb2 HV B1
  go_wp2_with fail
  have HS : Hid (∃ V : List ByteArray, V.length = 0 ∧ (∀ v ∈ V, goodV v) ∧ Bld 9 1 w (w2.alloc (.cells #[] 9)) (.slice (some ⟨w2.heap.size, 0, none⟩) 0 0) 0 (strVals V)) := Lib.hid ⟨[], rfl, by simp, (Bld.empty 9 1 w2).since B2.out⟩
  clear B2
  go_loopw [5, 6] (fun v i wr => ∃ j : Nat, j ≤ vo.size ∧ i = .int .i64 j ∧ ∃ V : List ByteArray, V.length = j ∧ (∀ v ∈ V, goodV v) ∧ Bld 9 1 w wr v j (strVals V)) (fun _ i _ => vo.size - (intOf i).toNat)
  case atStart => exact ⟨0, Nat.zero_le _, rfl, HS.out⟩
  case round =>
    clear HS
    obtain ⟨j, hj, rfl, V, hVl, hVg, hbd⟩ := hrel
    obtain ⟨a3, c3, rfl⟩ := owns_form hbd.1
    have HB := Lib.hid hbd
    have HG := Lib.hid hVg
    clear hbd hVg
    by_cases hlt : j < vo.size
    · have hj3 : (j : Int) < 3 := by omega
      have hjv : (j : Int) < (vo.size : Int) := by omega
      have e1 : IntKind.i64.wrap (10 * (j : Int)) = 10 * (j : Int) := by simp [IntKind.wrap, IntKind.signed, IntKind.bits]; omega
      have e2 : IntKind.i64.wrap (20 + 10 * (j : Int)) = 20 + 10 * (j : Int) := by simp [IntKind.wrap, IntKind.signed, IntKind.bits]; omega
      have HMJ := Lib.hid (HM1.out j wr (by omega) HB.out.2)
      go_wp2_with fail
      refine HMJ.out.mono ?_
      rintro e w4 ⟨s, ⟨hs, hs1⟩, rfl, hb4⟩
      have HB4 := Lib.hid (HB.out.later hb4)
      have HGs := Lib.hid (good_drawn hs hs1)
      have hsum : ¬ 9223372036854775807 < s.size + (⟨#[98]⟩ : ByteArray).size := by
        rw [show (⟨#[98]⟩ : ByteArray).size = 1 from rfl]; omega
      have hsum2 : ¬ 9223372036854775807 < s.size + 1 := by omega
      clear hb4 hs HB HMJ
      go_wp2_with (at_builtin; refine wpList_app1 rfl _ _ rfl Try.underlying33 Try.infoStr rfl (by decide) rfl HB4.out rfl rfl ?c1 ?c2 ?c3 ?c4)
      case c1 => simp [Value.oneCell']
      case c2 => unfold maxLen; omega
      case c3 => omega
      intro v2 w5 hb5
      have F2 : Hid (∃ U : List ByteArray, U.length = j + 1 ∧ (∀ v ∈ U, goodV v) ∧ Bld 9 1 w w5 v2 (j + 1) (strVals U)) := Lib.hid ⟨V ++ [s ++ ⟨#[98]⟩], by simp [hVl], fun v hv => by
        rcases List.mem_append.1 hv with h | h
        · exact HG.out v h
        · rw [List.mem_singleton.1 h]; exact HGs.out, by
        rw [show strVals (V ++ [s ++ ⟨#[98]⟩]) = strVals V ++ [.string (s ++ ⟨#[98]⟩)] by simp [strVals]]
        exact hb5⟩
      clear hb5
      go_wp2_with fail
      go_roundw
      case rel => exact ⟨j + 1, by omega, by go_num, F2.out⟩
      case measure => simp [intOf]; omega
    · obtain rfl : j = vo.size := by omega
      have hsV : strSum V ≤ 2 ^ 40 := by have := strSum_good HG.out; omega
      have HF := Lib.hid (fun W h => implFillPattern_any p V a3 c3 W (by unfold maxLen; omega) h (by omega) hsV)
      have HOK : fillOk p V = true := fillOk_good HPO.out (by rw [hvo]; exact hVl) HG.out
      have HFL := Lib.hid (fun h => filled HPO.out (by rw [hvo]; exact hVl) HG.out h)
      have HSB := Lib.hid (owns_strsIn HB.out.1)
      have hfs : (fillF p V).size ≤ 16 * p.size := by
        rw [fillF_yes HOK]
        exact fillTo_size (by rw [hvo]; exact hVl) (by rw [List.any_eq_false]; intro v hv; simp [goodV_not (HG.out v hv)]) _ (Nat.le_refl _)
      rw [HOK] at HF
      rw [hVl] at HF
      have HFW := Lib.hid (HF.out wr HSB.out)
      have BW := Lib.hid HB.out.2
      have HPK := Lib.hid (fun W => implPatternOk_any p W (by unfold maxLen; omega))
      rw [HPO.out] at HPK
      clear HF HB HG HSB HM1 hVl hsV HOK hlt hj
      generalize fillF p V = q at *
      clear hvo
      go_wp2_with fail
      refine HFW.out.mono ?_
      rintro e w3 ⟨rfl, hb3⟩
      have B3 := Lib.hid (Below.now BW.out hb3)
      clear hb3 BW HFW
      go_wp2_with fail
      refine (HPK.out _).mono ?_
      rintro e w4 ⟨rfl, rfl⟩
      clear HPK
      by_cases hq : q.size ≤ 16
      · obtain ⟨h1, h2, h3, h4, h5⟩ := HFL.out hq
        have hq16 : (q.size : Int) ≤ 16 := by omega
        have HIM := Lib.hid (fun W => implFitsPattern_any p q W (by unfold maxLen; omega) (by unfold maxLen; omega))
        unfold RetFP at HIM
        rw [h1] at HIM
        have HFB := Lib.hid (fun a c W h => implFillPattern_any p (fpV p q) a c W (by unfold maxLen; omega) h (by have := (fpV_good p q h1).2; omega) (by have := strSum_good (fpV_good p q h1).1; have := (fpV_good p q h1).2; omega))
        rw [h2, h3] at HFB
        have HC := Lib.hid (fun W => implCountFits_any p q W (by unfold maxLen; omega) (by unfold maxLen; omega))
        have HA := Lib.hid (fun W => implAvoidsPattern_any p q W (by unfold maxLen; omega) (by unfold maxLen; omega))
        rw [h5] at HA
        have hc1 : ¬ cntV p q < 1 := by omega
        clear h1 h2 h3 h4 h5
        generalize fpV p q = X at *
        generalize cntV p q = cq at *
        go_wp2_with fail
        refine (HIM.out _).mono ?_
        rintro e w5 ⟨ax, cx, rfl, hox, hb5⟩
        have HX := Lib.hid (owns_strsIn hox)
        have B5 := Lib.hid (Below.now B3.out hb5)
        clear hox hb5
        go_wp2_with fail
        refine (HFB.out _ _ _ HX.out).mono ?_
        rintro e w6 ⟨rfl, hb6⟩
        have B6 := Lib.hid (Below.now B5.out hb6)
        clear hb6
        go_wp2_with fail
        refine (HC.out _).mono ?_
        rintro e w7 ⟨rfl, hb7⟩
        have B7 := Lib.hid (Below.now B6.out hb7)
        clear hb7
        go_wp2_with fail
        refine (HA.out _).mono ?_
        rintro e w8 ⟨rfl, hb8⟩
        have B8 := Lib.hid (Below.now B7.out hb8)
        clear hb8 HIM HFB HC HA HFL HX B3 B5 B6 B7
        go_wp2_with fail
        refine (HM7.out _ B8.out).mono ?_
        rintro e w9 ⟨u, ⟨hu, hu7⟩, rfl, hb9⟩
        have B9 := Lib.hid (Below.now B8.out hb9)
        clear hb9 B8 hq hq16
        have hfu : fitOkB p u = true := fitOk_yes HPO.out (by rw [wordOk_all (by decide) (by omega)]; exact hu)
        have HFF := Lib.hid (fun W => implFirstFit_any p u W (by unfold maxLen; omega) (by unfold maxLen; omega))
        have HAV := Lib.hid (fun W => implAvoidsPattern_any p u W (by unfold maxLen; omega) (by unfold maxLen; omega))
        clear HM7
        cases hav : avoidB p u
        · obtain ⟨i, k, hik, hku, e1, e2, e3⟩ := meetU hfu hav
          rw [hav] at HAV
          rw [e1, e2] at HFF
          have HCE := Lib.hid (fun W => implCountFits_any p (u.extract i k) W (by unfold maxLen; omega) (by rw [ByteArray.size_extract]; unfold maxLen; omega))
          generalize cntV p (u.extract i k) = cu at *
          have hw1 : IntKind.i64.wrap ((i : Int) + ((k : Int) - (i : Int))) = (k : Int) := by simp [IntKind.wrap, IntKind.signed, IntKind.bits]; omega
          have hk0 : ¬ ((k : Int) - (i : Int)) < 0 := by omega
          have hk1 : ¬ (u.size : Int) < (k : Int) := by omega
          have hk2 : ¬ (u.size : Int) < (i : Int) := by omega
          have hk3 : (i : Int) ≤ (k : Int) := by omega
          have hk4 : (k : Int) ≤ (u.size : Int) := by omega
          clear e1 e2 hav hfu hu HPO hv3
          go_wp2_with fail
          refine (HFF.out _).mono ?_
          rintro e w10 ⟨rfl, hb10⟩
          have B10 := Lib.hid (Below.now B9.out hb10)
          clear hb10
          go_wp2_with fail
          refine (HAV.out _).mono ?_
          rintro e w11 ⟨rfl, hb11⟩
          have B11 := Lib.hid (Below.now B10.out hb11)
          clear hb11
          go_wp2_with fail
          refine (HCE.out _).mono ?_
          rintro e w12 ⟨rfl, hb12⟩
          have B12 := Lib.hid (Below.now B11.out hb12)
          clear hb12
          go_wp2_with fail
          go_ret
          exact ⟨by simp, B12.out⟩
        · obtain ⟨e1, e2, e3⟩ := avoidU hfu hav
          rw [hav] at HAV
          rw [e1, e2] at HFF
          have HCE := Lib.hid (fun W => implCountFits_any p u W (by unfold maxLen; omega) (by unfold maxLen; omega))
          rw [e3] at HCE
          clear e1 e2 e3 hav hfu hu HPO hv3
          go_wp2_with fail
          refine (HFF.out _).mono ?_
          rintro e w10 ⟨rfl, hb10⟩
          have B10 := Lib.hid (Below.now B9.out hb10)
          clear hb10
          go_wp2_with fail
          refine (HAV.out _).mono ?_
          rintro e w11 ⟨rfl, hb11⟩
          have B11 := Lib.hid (Below.now B10.out hb11)
          clear hb11
          go_wp2_with fail
          refine (HCE.out _).mono ?_
          rintro e w12 ⟨rfl, hb12⟩
          have B12 := Lib.hid (Below.now B11.out hb12)
          clear hb12
          go_wp2_with fail
          go_ret
          exact ⟨by simp, B12.out⟩
      · have hq16 : ¬ (q.size : Int) ≤ 16 := by omega
        clear HFL
        go_wp2_with fail
        refine (HM7.out _ B3.out).mono ?_
        rintro e w9 ⟨u, ⟨hu, hu7⟩, rfl, hb9⟩
        have B9 := Lib.hid (Below.now B3.out hb9)
        clear hb9 B3 hq hq16
        have hfu : fitOkB p u = true := fitOk_yes HPO.out (by rw [wordOk_all (by decide) (by omega)]; exact hu)
        have HFF := Lib.hid (fun W => implFirstFit_any p u W (by unfold maxLen; omega) (by unfold maxLen; omega))
        have HAV := Lib.hid (fun W => implAvoidsPattern_any p u W (by unfold maxLen; omega) (by unfold maxLen; omega))
        clear HM7
        cases hav : avoidB p u
        · obtain ⟨i, k, hik, hku, e1, e2, e3⟩ := meetU hfu hav
          rw [hav] at HAV
          rw [e1, e2] at HFF
          have HCE := Lib.hid (fun W => implCountFits_any p (u.extract i k) W (by unfold maxLen; omega) (by rw [ByteArray.size_extract]; unfold maxLen; omega))
          generalize cntV p (u.extract i k) = cu at *
          have hw1 : IntKind.i64.wrap ((i : Int) + ((k : Int) - (i : Int))) = (k : Int) := by simp [IntKind.wrap, IntKind.signed, IntKind.bits]; omega
          have hk0 : ¬ ((k : Int) - (i : Int)) < 0 := by omega
          have hk1 : ¬ (u.size : Int) < (k : Int) := by omega
          have hk2 : ¬ (u.size : Int) < (i : Int) := by omega
          have hk3 : (i : Int) ≤ (k : Int) := by omega
          have hk4 : (k : Int) ≤ (u.size : Int) := by omega
          clear e1 e2 hav hfu hu HPO hv3
          go_wp2_with fail
          refine (HFF.out _).mono ?_
          rintro e w10 ⟨rfl, hb10⟩
          have B10 := Lib.hid (Below.now B9.out hb10)
          clear hb10
          go_wp2_with fail
          refine (HAV.out _).mono ?_
          rintro e w11 ⟨rfl, hb11⟩
          have B11 := Lib.hid (Below.now B10.out hb11)
          clear hb11
          go_wp2_with fail
          refine (HCE.out _).mono ?_
          rintro e w12 ⟨rfl, hb12⟩
          have B12 := Lib.hid (Below.now B11.out hb12)
          clear hb12
          go_wp2_with fail
          go_ret
          exact ⟨by simp, B12.out⟩
        · obtain ⟨e1, e2, e3⟩ := avoidU hfu hav
          rw [hav] at HAV
          rw [e1, e2] at HFF
          have HCE := Lib.hid (fun W => implCountFits_any p u W (by unfold maxLen; omega) (by unfold maxLen; omega))
          rw [e3] at HCE
          clear e1 e2 e3 hav hfu hu HPO hv3
          go_wp2_with fail
          refine (HFF.out _).mono ?_
          rintro e w10 ⟨rfl, hb10⟩
          have B10 := Lib.hid (Below.now B9.out hb10)
          clear hb10
          go_wp2_with fail
          refine (HAV.out _).mono ?_
          rintro e w11 ⟨rfl, hb11⟩
          have B11 := Lib.hid (Below.now B10.out hb11)
          clear hb11
          go_wp2_with fail
          refine (HCE.out _).mono ?_
          rintro e w12 ⟨rfl, hb12⟩
          have B12 := Lib.hid (Below.now B11.out hb12)
          clear hb12
          go_wp2_with fail
          go_ret
          exact ⟨by simp, B12.out⟩
set_option maxHeartbeats 400000 in
theorem walkBig (a : Option Addr) (n cap : Nat) (w : World) (hn : n ≤ 9223372036854775807) (hlen : 1048576 < n) :
    Calls Try.prog 4 #[.slice a n cap] w fun e w' => e = .returned (.bool true) ∧ Below w.heap.size w w' := by
  have hq0 : (1048576 : Int) < (n : Int) := by omega
  go_enter Try.func4, Try.ntmps4
  go_wp2_with fail
  go_ret
  exact ⟨rfl, Below.refl _ _⟩
end Go.Proofs.Ytnnboeeogbgmdaa.fnPatterns
