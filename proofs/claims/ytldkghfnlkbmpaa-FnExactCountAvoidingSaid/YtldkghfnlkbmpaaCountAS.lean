/-
  The reference's CountAvoiding.
-/
import Derived.Test.YtldkghfnlkbmpaaCountAI
namespace Go.Proofs.Ytldkghfnlkbmpaa
open Go.RowKit
set_option linter.unusedVariables false
theorem l28Power_any (k n : Nat) (w : World) (hk : k ≤ 4) (hn : n ≤ 8) : Calls Try.prog 71 #[.int .i64 (k : Nat), .int .i64 (n : Nat)] w fun e w' => e = .returned (.int .i64 ((k ^ n : Nat) : Int)) ∧ w = w' := by
  go_enter Try.func71, Try.ntmps71
  go_wp2_with fail
  go_loop [5, 6] (fun v i => ∃ (j q : Nat), j ≤ n ∧ i = .int .i64 j ∧ v = .int .i64 q ∧ q = k ^ j) (fun _ i => n - (intOf i).toNat)
  case atStart => exact ⟨0, 1, Nat.zero_le _, rfl, rfl, rfl⟩
  case round =>
    obtain ⟨j, q, hj, rfl, rfl, hq⟩ := hrel
    have hpl := pow_le hk (show j ≤ 8 by omega)
    rw [← hq] at hpl
    have HQ := Lib.hid hq
    clear hq
    by_cases hlt : j < n
    · obtain ⟨q2, hq2⟩ : ∃ q2, q2 = q * k := ⟨_, rfl⟩
      have hm : (q : Int) * (k : Int) = (q2 : Int) := by rw [hq2]; simp
      have hq2b : q2 ≤ 262144 := by rw [hq2]; exact Nat.le_trans (Nat.mul_le_mul hpl hk) (by decide)
      have HQ2 : Hid (q2 = k ^ (j + 1)) := Lib.hid (by rw [hq2, HQ.out, Nat.pow_succ])
      clear hq2
      go_wp2_with fail
      go_round
      case rel => exact ⟨j + 1, q2, by omega, by go_num, rfl, HQ2.out⟩
      case measure => simp [intOf]; omega
    · obtain rfl : j = n := by omega
      go_wp2_with fail
      go_ret
      exact ⟨ret_int (by rw [HQ.out]; simp), rfl⟩
set_option maxRecDepth 20000 in
set_option maxHeartbeats 4000000 in
theorem specCountAvoiding_any (p : ByteArray) (k n : Int) (w : World) (hp : p.size ≤ maxLen) :
    Calls Try.prog 36 #[.string p, .int .i64 k, .int .i64 n] w fun e w' => e = .returned (.int .i64 (caV p k n)) ∧ Below w.heap.size w w' := by
  cases h1 : patternOkB p
  · have F := Lib.hid (caV_not (k := k) (n := n) (ca_not1 h1))
    go_enter Try.func36, Try.ntmps36
    go_wp2_with (go_at_call 47; refine (specPatternOk_any _ _ hp).mono ?_; rintro e w' ⟨h9, rfl⟩; rw [h1] at h9; subst h9)
    go_ret
    exact ⟨ret_int F.out.symm, Below.refl _ _⟩
  cases h2 : inB k 1 4
  · have F := Lib.hid (caV_not (p := p) (n := n) (ca_not2 h2))
    go_enter Try.func36, Try.ntmps36
    go_wp2_with (first
      | (go_at_call 47; refine (specPatternOk_any _ _ hp).mono ?_; rintro e w' ⟨h9, rfl⟩; rw [h1] at h9; subst h9)
      | (go_at_call 70; refine (l01In_any _ _ _ _).mono ?_; rintro e w' ⟨h9, rfl⟩; rw [h2] at h9; subst h9))
    go_ret
    exact ⟨ret_int F.out.symm, Below.refl _ _⟩
  cases h3 : inB n 0 8
  · have F := Lib.hid (caV_not (p := p) (k := k) (ca_not3 h3))
    go_enter Try.func36, Try.ntmps36
    go_wp2_with (first
      | (go_at_call 47; refine (specPatternOk_any _ _ hp).mono ?_; rintro e w' ⟨h9, rfl⟩; rw [h1] at h9; subst h9)
      | (go_at_call 70; refine (l01In_any _ _ _ _).mono ?_; rintro e w' ⟨h9, rfl⟩; (first | rw [h2] at h9 | rw [h3] at h9); subst h9))
    go_ret
    exact ⟨ret_int F.out.symm, Below.refl _ _⟩
  obtain ⟨kk, nn, rfl, rfl, hk1, hk2, hn2, hok⟩ := ca_nat h1 h2 h3
  have HOK := Lib.hid hok
  have P1 := Lib.hid h1
  have P2 := Lib.hid h2
  have P3 := Lib.hid h3
  have HPW := Lib.hid (fun W => l28Power_any kk nn W hk2 hn2)
  have HQ : Hid (∃ q : Nat, q = kk ^ nn) := Lib.hid ⟨_, rfl⟩
  obtain ⟨q, hq⟩ := HQ.out
  rw [← hq] at HPW
  have HQQ := Lib.hid hq
  clear hok h1 h2 h3 hq HQ
  by_cases hbig : 1024 < q
  · have F : Hid (caV p (kk : Nat) (nn : Nat) = -1) := Lib.hid (caV_not (by rw [HOK.out, decide_eq_false_iff_not, ← HQQ.out]; omega))
    go_enter Try.func36, Try.ntmps36
    go_wp2_with (first
      | (go_at_call 47; refine (specPatternOk_any _ _ hp).mono ?_; rintro e w' ⟨h9, rfl⟩; rw [P1.out] at h9; subst h9)
      | (go_at_call 70; refine (l01In_any _ _ _ _).mono ?_; rintro e w' ⟨h9, rfl⟩; (first | rw [P2.out] at h9 | rw [P3.out] at h9); subst h9)
      | (go_at_call 71; refine (HPW.out _).mono ?_; rintro e w' ⟨rfl, rfl⟩))
    go_ret
    exact ⟨ret_int F.out.symm, Below.refl _ _⟩
  have hcok : caOk p (kk : Nat) (nn : Nat) = true := by rw [HOK.out, decide_eq_true_eq, ← HQQ.out]; omega
  have F : Hid (caV p (kk : Nat) (nn : Nat) = (((lev kk nn).filter (avoidB p)).length : Nat)) := Lib.hid (by rw [caV_yes hcok]; rfl)
  have hb0 := Below.refl w.heap.size w
  clear hcok
  go_enter Try.func36, Try.ntmps36
  go_wp2_with (first
    | (go_at_call 47; refine (specPatternOk_any _ _ hp).mono ?_; rintro e w' ⟨h9, hw9⟩; rw [P1.out] at h9; subst h9; obtain rfl := hw9)
    | (go_at_call 70; refine (l01In_any _ _ _ _).mono ?_; rintro e w' ⟨h9, hw9⟩; (first | rw [P2.out] at h9 | rw [P3.out] at h9); subst h9; obtain rfl := hw9)
    | (go_at_call 71; refine (HPW.out _).mono ?_; rintro e w' ⟨rfl, hw9⟩; obtain rfl := hw9))
  have hbA : Below w.heap.size w (w.alloc (.cells #[.string ⟨#[]⟩] 9)) := (Below.refl _ _).alloc (Nat.le_refl _) _
  have hL1 : StrsIn (w.alloc (.cells #[.string ⟨#[]⟩] 9)) (some ⟨w.heap.size, 0, none⟩) (lev kk 0) := by
    refine .inr ⟨_, _, rfl, fun i hi => ?_⟩
    obtain rfl : i = 0 := by simp [lev] at hi; omega
    show (w.alloc (.cells #[.string ⟨#[]⟩] 9)).cell? ⟨w.heap.size, 0, none⟩ = _
    rw [World.cell?_alloc_new]; rfl
  have HBA := Lib.hid hbA
  have HL1 := Lib.hid hL1
  clear hbA hL1 hb0
  go_loopw [7, 8] (fun lv i wr0 => ∃ (j : Nat) (a : Option Addr) (c : Nat), j ≤ nn ∧ i = .int .i64 j ∧ lv = .slice a (lev kk j).length c ∧ StrsIn wr0 a (lev kk j) ∧ Below w.heap.size w wr0) (fun _ i _ => nn - (intOf i).toNat)
  case atStart => exact ⟨0, some ⟨w.heap.size, 0, none⟩, 1, Nat.zero_le _, rfl, rfl, HL1.out, HBA.out⟩
  case round =>
    clear HBA HL1
    obtain ⟨j, a, c, hj, rfl, rfl, hs, hbw⟩ := hrel
    generalize hW0 : wr = wr0 at *
    clear hW0
    have hpl := pow_le hk2 (show j ≤ 8 by omega)
    have hll : (lev kk j).length ≤ 65536 := by rw [lev_len]; exact hpl
    have HSZ := Lib.hid (lev_size kk j)
    have HW := Lib.hid hbw
    have HSS := Lib.hid hs
    clear hbw hs hpl
    by_cases hlt : j < nn
    · have HLV : Hid (lev kk (j + 1) = longer kk (lev kk j)) := Lib.hid rfl
      have HS0 : Hid (Bld 9 1 wr0 (wr0.alloc (.cells #[] 9)) (.slice (some ⟨wr0.heap.size, 0, none⟩) 0 0) (longTo kk (lev kk j) 0).length (strVals (longTo kk (lev kk j) 0))) := Lib.hid (by rw [longTo_zero]; exact Bld.empty _ _ _)
      generalize lev kk j = l at *
      go_wp2_with fail
      go_loopw [9, 44] (fun v i wr => ∃ t : Nat, t ≤ l.length ∧ i = .int .i64 t ∧ Bld 9 1 wr0 wr v (longTo kk l t).length (strVals (longTo kk l t))) (fun _ i _ => l.length - (intOf i).toNat)
      case atStart => exact ⟨0, Nat.zero_le _, rfl, HS0.out⟩
      case round =>
        clear HS0
        obtain ⟨t, ht, rfl, hb⟩ := hrel
        have hle := longTo_len kk l t ht
        have hjk : t * kk ≤ 262144 := Nat.le_trans (Nat.mul_le_mul (Nat.le_trans ht hll) hk2) (by decide)
        have HB := Lib.hid hb
        clear hb
        by_cases htl : t < l.length
        · obtain ⟨b, off, hab, hcz⟩ := strs_cell HSS.out htl
          subst hab
          have hc := hcz _ HB.out.2
          have hvs : (nthS l t).size ≤ 8 := by have := HSZ.out (nthS l t) (by rw [nthS_lt htl]; exact List.getElem_mem _); omega
          have HX := Lib.hid (longTo_succ (k := kk) htl)
          have hB0 := HB.out
          rw [show longTo kk l t = longTo kk l t ++ exts (nthS l t) 0 by rw [exts_zero, List.append_nil]] at hB0
          have HB0 := Lib.hid hB0
          clear hB0 hcz
          generalize nthS l t = v at *
          generalize hqq : longTo kk l t = qq at *
          clear hqq
          go_wp2_with fail
          clear hc HB
          go_loopw [9, 12] (fun u i wr => ∃ x : Nat, x ≤ kk ∧ i = .int .i64 x ∧ Bld 9 1 wr0 wr u (qq ++ exts v x).length (strVals (qq ++ exts v x))) (fun _ i _ => kk - (intOf i).toNat)
          case atStart => exact ⟨0, Nat.zero_le _, rfl, HB0.out⟩
          case round =>
            clear HB0
            obtain ⟨x, hx, rfl, hb⟩ := hrel
            have hll2 : (qq ++ exts v x).length ≤ 262148 := by rw [List.length_append, exts_len]; omega
            have HB := Lib.hid hb
            have HY : Hid (qq ++ exts v (x + 1) = (qq ++ exts v x) ++ [v ++ letterN x]) := Lib.hid (by rw [exts_succ, List.append_assoc])
            have HFin : Hid (x = kk → longTo kk l (t + 1) = qq ++ exts v x) := Lib.hid (fun h => by rw [HX.out, h])
            clear hb
            generalize qq ++ exts v x = r at *
            by_cases hxk : x < kk
            · have hsum : ¬ 9223372036854775807 < v.size + (letterN x).size := by rw [letterN_size]; omega
              have HLe := Lib.hid (fun W => l13Letter_any x W (by omega))
              generalize letterN x = y at *
              go_wp2_with fail
              refine (HLe.out _).mono ?_
              rintro e w2 ⟨rfl, hb2⟩
              have HB2 := Lib.hid (HB.out.later hb2)
              clear hb2
              go_wp2_with (at_builtin; refine wpList_app1 rfl _ _ rfl Try.underlying29 Try.infoStr rfl (by decide) rfl HB2.out rfl rfl ?c1 ?c2 ?c3 ?c4)
              case c1 => simp [Value.oneCell']
              case c2 => unfold maxLen; omega
              case c3 => omega
              intro v3 w3 hb3
              have F3 : Hid (Bld 9 1 wr0 w3 v3 (qq ++ exts v (x + 1)).length (strVals (qq ++ exts v (x + 1)))) := Lib.hid (by
                rw [HY.out, List.length_append, strVals_app, strVals_one]; exact hb3)
              clear hb3 hsum
              go_wp2_with fail
              go_roundw
              case rel => exact ⟨x + 1, by omega, by go_num, F3.out⟩
              case measure => simp [intOf]; omega
            · have F3 := Lib.hid (HFin.out (by omega))
              go_wp2_with fail
              go_roundw
              case rel => exact ⟨t + 1, by omega, by go_num, by rw [F3.out]; exact HB.out⟩
              case measure => simp [intOf]; omega
        · obtain rfl : t = l.length := by omega
          obtain ⟨va, vc, rfl⟩ := owns_form HB.out.1
          have HE : Hid (longTo kk l l.length = lev kk (j + 1)) := Lib.hid (by rw [longTo_full, HLV.out])
          have HS9 : Hid (StrsIn wr va (lev kk (j + 1))) := Lib.hid (by rw [← HE.out]; exact owns_strsIn HB.out.1)
          have HB9 := Lib.hid (Below.now HW.out HB.out.2)
          clear hle
          go_wp2_with fail
          go_roundw
          case rel => exact ⟨j + 1, va, vc, by omega, by go_num, by rw [HE.out], HS9.out, HB9.out⟩
          case measure => simp [intOf]; omega
    · obtain rfl : j = nn := by omega
      have hb00 := Below.refl wr0.heap.size wr0
      generalize lev kk j = L at *
      go_wp2_with fail
      go_loopw [13, 64] (fun v i wr => ∃ t : Nat, t ≤ L.length ∧ i = .int .i64 t ∧ v = .int .i64 ((cntTo (avoidB p) L t : Nat) : Int) ∧ Below wr0.heap.size wr0 wr) (fun _ i _ => L.length - (intOf i).toNat)
      case atStart => exact ⟨0, Nat.zero_le _, rfl, by rw [cntTo_zero]; rfl, hb00⟩
      case round =>
        clear hb00
        obtain ⟨t, ht, rfl, rfl, hbw⟩ := hrel
        have hcl := cntTo_le (avoidB p) L t
        by_cases htl : t < L.length
        · obtain ⟨b, off, hab, hcz⟩ := strs_cell HSS.out htl
          subst hab
          have hcell := hcz _ hbw
          have hvs : (nthS L t).size ≤ 8 := by have := HSZ.out (nthS L t) (by rw [nthS_lt htl]; exact List.getElem_mem _); omega
          have HY := Lib.hid (cntTo_yes (q := avoidB p) htl)
          have HN := Lib.hid (cntTo_no (q := avoidB p) htl)
          generalize nthS L t = v at *
          generalize cntTo (avoidB p) L t = c at *
          clear hcz
          have HV := Lib.hid (fun W => specAvoidsPattern_any p v W hp (by unfold maxLen; omega))
          go_wp2_with fail
          refine (HV.out _).mono ?_
          rintro e w3 ⟨h3, hb3⟩
          have hbw3 := Below.now hbw hb3
          clear hb3 hbw HV
          cases hav : avoidB p v
          · rw [hav] at h3
            subst h3
            have F3 := Lib.hid (HN.out hav)
            go_wp2_with fail
            go_roundw
            case rel => exact ⟨t + 1, by omega, by go_num, by rw [F3.out], hbw3⟩
            case measure => simp [intOf]; omega
          · rw [hav] at h3
            subst h3
            have F3 := Lib.hid (HY.out hav)
            go_wp2_with fail
            go_roundw
            case rel => exact ⟨t + 1, by omega, by go_num, by rw [F3.out]; go_num, hbw3⟩
            case measure => simp [intOf]; omega
        · obtain rfl : t = L.length := by omega
          have FC := Lib.hid (cntTo_full (avoidB p) L)
          go_wp2_with fail
          go_ret
          exact ⟨ret_int (by rw [F.out, FC.out]), Below.now HW.out hbw⟩
end Go.Proofs.Ytldkghfnlkbmpaa
