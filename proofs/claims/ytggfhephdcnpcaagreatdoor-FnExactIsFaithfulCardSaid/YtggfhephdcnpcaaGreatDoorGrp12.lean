/-
  Letters: the text of one byte.
-/
import Derived.Test.YtggfhephdcnpcaaGreatDoorGrp11
import Derived.Test.YtggfhephdcnpcaaGreatDoorGrp09
import Derived.Test.YtggfhephdcnpcaaGreatDoorGrp03
import Derived.Laws.BytesArg
namespace Go.Proofs.YtggfhephdcnpcaaGreatDoor
open Go.RowKit
set_option linter.unusedVariables false
set_option maxHeartbeats 1000000 in
theorem implValue_any (m : Nat) (ln zn : List Nat) (a : Option Addr) (len cap : Nat) (az : Option Addr) (cz : Nat) (v : ByteArray) (w : World) (hl : NatsIn w a ln) (hT : Tb m ln) (hlen : len = m * m) (hz : NatsIn w az zn) (hzm : ∀ x ∈ zn, x < m) (hw : letIn zn v) (hv : v.size ≤ 1000) :
    Calls Tryz.prog 64 #[.agg #[.int .i64 m, .slice a len cap], .slice az zn.length cz, .string v] w fun e w' => e = .returned (.int .i64 (valF m ln zn v : Nat)) ∧ Below w.heap.size w w' := by
  have hm := hT.hi
  have HT := Lib.hid hT
  have HL := Lib.hid hlen
  have HM := Lib.hid hzm
  have HW := Lib.hid hw
  have hb1 := (Below.refl w.heap.size w).alloc (Nat.le_refl _) (.cells #[.int .i64 (m : Nat), .slice a len cap] 38)
  have HX : Hid (∀ W, Below (w.alloc (.cells #[.int .i64 (m : Nat), .slice a len cap] 38)).heap.size (w.alloc (.cells #[.int .i64 (m : Nat), .slice a len cap] 38)) W → W.cell? ⟨w.heap.size, 0, none⟩ = some (.int .i64 (m : Nat)) ∧ W.cell? ⟨w.heap.size, 1, none⟩ = some (.slice a len cap)) := Lib.hid (fun W hW => ⟨by rw [hW.cell (by simp)]; simp, by rw [hW.cell (by simp)]; simp⟩)
  have HB := Lib.hid hb1
  have HN := Lib.hid (hl.later hb1)
  have HZ := Lib.hid (hz.later hb1)
  clear hl hT hlen hb1 hz hzm hw
  go_enter Tryz.func64, Tryz.ntmps64
  go_wp2_with fail
  generalize w.alloc (.cells #[.int .i64 (m : Nat), .slice a len cap] 38) = w1 at *
  go_loopw [7, 11] (fun x i wr => ∃ j : Nat, j ≤ v.size ∧ i = .int .i64 j ∧ x = .int .i64 (valTo m ln zn v j : Nat) ∧ Hid (Below w1.heap.size w1 wr)) (fun _ i _ => v.size - (intOf i).toNat)
  case atStart => exact ⟨0, Nat.zero_le _, rfl, by rw [valTo_zero]; rfl, Lib.hid (Below.refl _ _)⟩
  case round =>
    obtain ⟨j, hj, rfl, rfl, HWR⟩ := hrel
    by_cases hlt : j < v.size
    · have hb := byte_lt v[j]
      obtain ⟨q, hq, hi, hc⟩ := byte_facts HW.out hlt
      obtain ⟨bz, oz, rfl, hcz⟩ := img_cell (HZ.out.later HWR.out) hq
      have hx := valTo_lt HT.out HM.out HW.out j hj
      have hy : zn.getD q 0 < m := by rw [← hi]; exact imN_lt HM.out (letIn_at HW.out hlt).2
      have HS : Hid (valTo m ln zn v (j + 1) = tm m ln (valTo m ln zn v j) (zn.getD q 0)) := Lib.hid (by rw [valTo_succ hlt, hi])
      obtain ⟨z0, z1⟩ := HX.out wr HWR.out
      have k0 : ∀ x, (wide wr x).cell? ⟨w.heap.size, 0, none⟩ = some (.int .i64 (m : Nat)) := wide_cell z0
      have k1 : ∀ x, (wide wr x).cell? ⟨w.heap.size, 1, none⟩ = some (.slice a len cap) := wide_cell z1
      have k2 : ∀ x, (wide wr x).cell? ⟨bz, oz + q, none⟩ = some (.int .i64 ((zn.getD q 0 : Nat) : Int)) := wide_cell hcz
      have HNW : Hid (∀ x, NatsIn (wide wr x) a ln) := Lib.hid (fun x => (HN.out.later HWR.out).later (below_wide _ _))
      clear hi hcz z0 z1
      generalize valTo m ln zn v j = v1 at *
      generalize zn.getD q 0 = y at *
      have hq2 : (v[j].toNat : Int) - 97 = (q : Int) := by omega
      have hge : (97 : Int) ≤ (v[j].toNat : Int) := by omega
      have hq5 : (q : Int) ≤ 255 := by omega
      have hwq : IntKind.u8.wrap (q : Int) = (q : Int) := IntWalk.u8_in _ ⟨by omega, by omega⟩
      clear hc
      go_wp2_with fail
      refine region_wide (by kernel_rfl) (by kernel_rfl) ?_
      repeat (quiet_step ((go_at_call 110; refine (implTimes_any m ln a _ _ _ _ _ (HNW.out _) HT.out HL.out (by assumption) (by assumption)).mono ?_; rintro e w2 ⟨rfl, hb2⟩; exact ⟨rfl, wide_next hb2⟩)))
      refine wpQuiet_nil ?_
      rintro w4 ⟨x4, rfl⟩
      have HW4 := Lib.hid (Below.now HWR.out (below_wide wr x4))
      clear k0 k1 k2 hwq hb hge hq5 hq2
      go_wp2_with fail
      go_roundw
      case rel => exact ⟨j + 1, by omega, by go_num, by rw [HS.out], HW4⟩
      case measure => simp [intOf]; omega
    · have F := Lib.hid (valTo_full (m := m) (ln := ln) (zn := zn) hlt hj)
      rw [F.out]
      go_wp2_with fail
      go_ret
      exact ⟨rfl, Below.now HB.out HWR.out⟩
set_option maxRecDepth 20000 in
set_option maxHeartbeats 1000000 in
theorem satisfies1_any (m : Nat) (ln zn : List Nat) (a : Option Addr) (len cap : Nat) (az : Option Addr) (cz : Nat) (x y : ByteArray) (bt bz : Nat) (w : World) (hl : NatsIn w a ln) (hT : Tb m ln) (hlen : len = m * m) (hz : NatsIn w az zn) (hzm : ∀ x ∈ zn, x < m)
    (hx : letIn zn x ∧ x.size ≤ 8) (hy : letIn zn y ∧ y.size ≤ 8) (h0 : w.cell? ⟨bt, 0, none⟩ = some (.int .i64 (m : Nat))) (h1 : w.cell? ⟨bt, 1, none⟩ = some (.slice a len cap)) (h2 : w.cell? ⟨bz, 0, none⟩ = some (.slice az zn.length cz)) :
    Calls Tryz.prog 179 #[.agg #[.string x, .string y], .pointer (some ⟨bt, 0, none⟩), .pointer (some ⟨bz, 0, none⟩)] w (RetP (¬ valF m ln zn x = valF m ln zn y) w) := by
  have hb2 := alloc_belowS w (.cells #[.string x, .string y] 60)
  have HW2 := Lib.hid hb2
  obtain ⟨n0, n1⟩ := sys_cells (alloc_at w (.cells #[.string x, .string y] 60))
  have z0 := (hb2.cell (World.block_lt_of_cell? _ _ h0)).trans h0
  have z1 := (hb2.cell (World.block_lt_of_cell? _ _ h1)).trans h1
  have z2 := (hb2.cell (World.block_lt_of_cell? _ _ h2)).trans h2
  have HC1 : Hid (∀ q, Calls Tryz.prog 64 #[.agg #[.int .i64 m, .slice a len cap], .slice az zn.length cz, .string x] (wide (w.alloc (.cells #[.string x, .string y] 60)) q) fun e w' => e = .returned (.int .i64 (valF m ln zn x : Nat)) ∧ Below (wide (w.alloc (.cells #[.string x, .string y] 60)) q).heap.size (wide (w.alloc (.cells #[.string x, .string y] 60)) q) w') := Lib.hid (fun q => implValue_any m ln zn a len cap az cz x _ (hl.later (Below.now hb2 (below_wide _ _))) hT hlen (hz.later (Below.now hb2 (below_wide _ _))) hzm hx.1 (by omega))
  have HC2 : Hid (∀ q, Calls Tryz.prog 64 #[.agg #[.int .i64 m, .slice a len cap], .slice az zn.length cz, .string y] (wide (w.alloc (.cells #[.string x, .string y] 60)) q) fun e w' => e = .returned (.int .i64 (valF m ln zn y : Nat)) ∧ Below (wide (w.alloc (.cells #[.string x, .string y] 60)) q).heap.size (wide (w.alloc (.cells #[.string x, .string y] 60)) q) w') := Lib.hid (fun q => implValue_any m ln zn a len cap az cz y _ (hl.later (Below.now hb2 (below_wide _ _))) hT hlen (hz.later (Below.now hb2 (below_wide _ _))) hzm hy.1 (by omega))
  clear hl hT hlen hz hzm hx hy h0 h1 h2
  generalize valF m ln zn x = vx at *
  generalize valF m ln zn y = vy at *
  go_enter Tryz.func179, Tryz.ntmps179
  go_upto_region 1 with fail
  generalize w.alloc (.cells #[.string x, .string y] 60) = w2 at *
  have k0 : ∀ q, (wide w2 q).cell? ⟨bt, 0, none⟩ = some (.int .i64 (m : Nat)) := wide_cell z0
  have k1 : ∀ q, (wide w2 q).cell? ⟨bt, 1, none⟩ = some (.slice a len cap) := wide_cell z1
  have k2 : ∀ q, (wide w2 q).cell? ⟨w.heap.size, 0, none⟩ = some (.string x) := wide_cell n0
  have k3 : ∀ q, (wide w2 q).cell? ⟨w.heap.size, 1, none⟩ = some (.string y) := wide_cell n1
  have k4 : ∀ q, (wide w2 q).cell? ⟨bz, 0, none⟩ = some (.slice az zn.length cz) := wide_cell z2
  refine region_wide (by kernel_rfl) (by kernel_rfl) ?_
  repeat (quiet_step ((go_at_call 64; first | ((with_reducible refine (HC1.out _).mono ?_); rintro e w2 ⟨rfl, hb2⟩; exact ⟨rfl, wide_next hb2⟩) | ((with_reducible refine (HC2.out _).mono ?_); rintro e w2 ⟨rfl, hb2⟩; exact ⟨rfl, wide_next hb2⟩))))
  refine wpQuiet_nil ?_
  rintro w4 ⟨x4, rfl⟩
  have HW4 := Lib.hid (Below.now HW2.out (below_wide w2 x4))
  clear k0 k1 k2 k3 k4 z0 z1 z2 n0 n1 hb2
  cases e1 : (((vx : Nat) : Int) != ((vy : Nat) : Int))
  · have F : Hid (RetP (¬ vx = vy) w (.returned (.bool false)) (wide w2 x4)) := Lib.hid (RetP.no (by simp at e1; omega) HW4.out)
    go_wp2_with fail
    go_ret
    exact F.out
  · have F : Hid (RetP (¬ vx = vy) w (.returned (.bool true)) (wide w2 x4)) := Lib.hid (RetP.yes (by simp at e1; omega) HW4.out)
    go_wp2_with fail
    go_ret
    exact F.out
set_option maxHeartbeats 1000000 in
theorem satisfies_any (k : Int) (R : List RulD) (aR : Option Addr) (cR : Nat) (m : Nat) (ln zn : List Nat) (a : Option Addr) (len cap : Nat) (az : Option Addr) (cz : Nat) (w : World) (hR : RulesIn w aR R) (hs : rulesP k R) (hk : (zn.length : Int) = k)
    (hl : NatsIn w a ln) (hT : Tb m ln) (hlen : len = m * m) (hz : NatsIn w az zn) (hzm : ∀ x ∈ zn, x < m) :
    Calls Tryz.prog 120 #[.agg #[.int .i64 m, .slice a len cap], .agg #[.int .i64 k, .slice aR R.length cR], .slice az zn.length cz] w (RetP (fitP m ln zn R) w) := by
  have hn := hs.1.2
  have HWD := satP_words hs hk
  have HSZ : ∀ r ∈ R, r.1.size ≤ 8 ∧ r.2.size ≤ 8 := fun r hr => (hs.2 r hr).1.2
  have hb1 : Below w.heap.size w (((w.alloc (.cells #[.int .i64 (m : Nat), .slice a len cap] 38)).alloc (.cells #[.int .i64 k, .slice aR R.length cR] 29)).alloc (.cells #[.slice az zn.length cz] 33)) := Below.now (Below.now (alloc_belowS w _) (alloc_belowS _ _)) (alloc_belowS _ _)
  have HC := Lib.hid (containsFuncR_any 179 #[.pointer (some ⟨w.heap.size, 0, none⟩), .pointer (some ⟨w.heap.size + 2, 0, none⟩)] (fun r => ¬ valF m ln zn r.1 = valF m ln zn r.2) R aR cR
    (((w.alloc (.cells #[.int .i64 (m : Nat), .slice a len cap] 38)).alloc (.cells #[.int .i64 k, .slice aR R.length cR] 29)).alloc (.cells #[.slice az zn.length cz] 33)) (hR.later hb1) (by omega) _ (Nat.le_refl _)
    (fun j hj W hW => satisfies1_any m ln zn a len cap az cz _ _ w.heap.size (w.heap.size + 2) W (hl.later (Below.now hb1 hW)) hT hlen (hz.later (Below.now hb1 hW)) hzm ⟨(HWD _ (nthR_mem hj)).1, (HSZ _ (nthR_mem hj)).1⟩ ⟨(HWD _ (nthR_mem hj)).2, (HSZ _ (nthR_mem hj)).2⟩
      (by rw [hW.cell (by simp; try omega)]; simp [go_sem]) (by rw [hW.cell (by simp; try omega)]; simp [go_sem]) (by rw [hW.cell (by simp; try omega)]; simp [go_sem])) (enters_of Tryz.func179 (by kernel_rfl) rfl))
  have HF := Lib.hid (fitP_iff (m := m) (ln := ln) (zn := zn) (R := R))
  have HB := Lib.hid hb1
  clear hl hT hlen hz hzm hR hs hb1 HWD HSZ
  generalize fitP m ln zn R = fp at *
  go_enter Tryz.func120, Tryz.ntmps120
  go_wp2_with fail
  refine HC.out.mono ?_
  rintro e w2 ⟨bb, hbb, rfl, hb2⟩
  have F : Hid (RetP fp w (.returned (.bool !bb)) w2) := Lib.hid (by
    cases bb
    · exact RetP.yes (HF.out.2 (fun h => by have := hbb.2 h; cases this)) (Below.now HB.out hb2)
    · exact RetP.no (fun h => HF.out.1 h (hbb.1 rfl)) (Below.now HB.out hb2))
  clear hbb hb2 HC
  go_wp2_with fail
  go_ret
  exact F.out
set_option maxHeartbeats 1000000 in
theorem implImagesOk_any (n : Int) (l : List Int) (a : Option Addr) (cap : Nat) (z : List Int) (az : Option Addr) (cz : Nat) (w : World) (hl : IntsIn w a l) (hlen : l.length ≤ 2 ^ 47) (hz : IntsIn w az z) (hzl : z.length ≤ 2 ^ 47) :
    Calls Tryz.prog 119 #[.agg #[.int .i64 n, .slice a l.length cap], .slice az z.length cz] w fun e w' => e = .returned (.bool (imgB n l z)) ∧ Below w.heap.size w w' := by
  have HTO := Lib.hid (fun W (h : IntsIn W a l) => implTableOk_any n l a cap W h hlen)
  have HIN := Lib.hid (fun W => within_any (z.length : Int) 1 4 W)
  have hb1 := (Below.refl w.heap.size w).alloc (Nat.le_refl _) (.cells #[.int .i64 n, .slice a l.length cap] 38)
  have HX : Hid (∀ W, Below (w.alloc (.cells #[.int .i64 n, .slice a l.length cap] 38)).heap.size (w.alloc (.cells #[.int .i64 n, .slice a l.length cap] 38)) W → W.cell? ⟨w.heap.size, 0, none⟩ = some (.int .i64 n)) := Lib.hid (fun W hW => by rw [hW.cell (by simp)]; simp)
  have HB := Lib.hid hb1
  have HL := Lib.hid (hl.later hb1)
  have HZ := Lib.hid (hz.later hb1)
  clear hl hz hb1
  cases ht : tabB n l
  · have F := Lib.hid (imgB_no1 (z := z) ht)
    rw [ht] at HTO
    clear ht
    go_enter Tryz.func119, Tryz.ntmps119
    go_wp2_with fail
    refine (HTO.out _ HL.out).mono ?_
    rintro e w2 ⟨rfl, hb2⟩
    go_wp2_with fail
    go_ret
    exact ⟨ret_bool F.out.symm, Below.now HB.out hb2⟩
  cases hk : inB (z.length : Int) 1 4
  · have F := Lib.hid (imgB_no2 (n := n) (l := l) hk)
    rw [ht] at HTO
    rw [hk] at HIN
    clear ht hk
    go_enter Tryz.func119, Tryz.ntmps119
    go_wp2_with fail
    refine (HTO.out _ HL.out).mono ?_
    rintro e w2 ⟨rfl, hb2⟩
    have HB2 := Lib.hid (Below.now HB.out hb2)
    clear hb2
    go_wp2_with fail
    refine (HIN.out _).mono ?_
    rintro e w3 ⟨rfl, rfl⟩
    go_wp2_with fail
    go_ret
    exact ⟨ret_bool F.out.symm, HB2.out⟩
  have F := Lib.hid (imgB_yes (z := z) ht hk)
  have ⟨hn1, hn2⟩ : 1 ≤ n ∧ n ≤ 40 := by
    obtain ⟨m, ln, rfl, rfl, hT⟩ := tabOk_out ht
    have := hT.lo; have := hT.hi
    omega
  have HAW := Lib.hid (fun W (h : IntsIn W az z) => allWithin_any 0 (n - 1) z az cz W h hzl)
  have HE : Hid ((z.all fun x => inB x 0 (n - 1)) = imgB n l z) := Lib.hid (by rw [F.out]; rfl)
  rw [HE.out] at HAW
  rw [ht] at HTO
  rw [hk] at HIN
  clear ht hk HE
  generalize imgB n l z = bb at *
  go_enter Tryz.func119, Tryz.ntmps119
  go_wp2_with fail
  generalize w.alloc (.cells #[.int .i64 n, .slice a l.length cap] 38) = w1 at *
  refine (HTO.out _ HL.out).mono ?_
  rintro e w2 ⟨rfl, hb2⟩
  have HB2 := Lib.hid hb2
  have z0 := HX.out _ hb2
  clear hb2
  go_wp2_with fail
  refine (HIN.out _).mono ?_
  rintro e w3 ⟨rfl, rfl⟩
  go_wp2_with fail
  refine (HAW.out _ (HZ.out.later HB2.out)).mono ?_
  rintro e w4 ⟨rfl, hb4⟩
  have HB4 := Lib.hid (Below.now HB.out (Below.now HB2.out hb4))
  clear hb4 z0
  go_wp2_with fail
  go_ret
  exact ⟨rfl, HB4.out⟩
end Go.Proofs.YtggfhephdcnpcaaGreatDoor
namespace Go.Proofs.YtggfhephdcnpcaaGreatDoor
open Go.RowKit
set_option linter.unusedVariables false
set_option maxRecDepth 20000 in
set_option maxHeartbeats 2000000 in
theorem specSatisfiesRules_any (k : Int) (R : List RulD) (aR : Option Addr) (cR : Nat) (n : Int) (l : List Int) (a : Option Addr) (cap : Nat) (z : List Int) (az : Option Addr) (cz : Nat) (w : World) (hR : RulesIn w aR R) (hRl : R.length ≤ 2 ^ 40) (hS : SzR R)
    (hl : IntsIn w a l) (hlen : l.length ≤ 2 ^ 47) (hz : IntsIn w az z) (hzl : z.length ≤ 2 ^ 47) :
    Calls Tryz.prog 61 #[.agg #[.int .i64 k, .slice aR R.length cR], .agg #[.int .i64 n, .slice a l.length cap], .slice az z.length cz] w (RetP (satP k R n l z) w) := by
  have HRO := Lib.hid (fun W h => specRulesOk_any k R aR cR W h hRl hS)
  have HIM := Lib.hid (fun W h1 h2 => specImagesOk_any n l a cap z az cz W h1 hlen h2 hzl)
  have hb1 : Below w.heap.size w ((w.alloc (.cells #[.int .i64 k, .slice aR R.length cR] 29)).alloc (.cells #[.int .i64 n, .slice a l.length cap] 38)) := Below.now (alloc_belowS w _) (alloc_belowS _ _)
  have HX : Hid (∀ W, Below ((w.alloc (.cells #[.int .i64 k, .slice aR R.length cR] 29)).alloc (.cells #[.int .i64 n, .slice a l.length cap] 38)).heap.size ((w.alloc (.cells #[.int .i64 k, .slice aR R.length cR] 29)).alloc (.cells #[.int .i64 n, .slice a l.length cap] 38)) W → W.cell? ⟨w.heap.size, 0, none⟩ = some (.int .i64 k) ∧ W.cell? ⟨w.heap.size, 1, none⟩ = some (.slice aR R.length cR) ∧ W.cell? ⟨w.heap.size + 1, 0, none⟩ = some (.int .i64 n) ∧ W.cell? ⟨w.heap.size + 1, 1, none⟩ = some (.slice a l.length cap)) := Lib.hid (fun W hW => by
    refine ⟨?_, ?_, ?_, ?_⟩ <;> rw [hW.cell (by simp; try omega)] <;> simp [go_sem])
  have HB := Lib.hid hb1
  have HL := Lib.hid (hl.later hb1)
  have HZ := Lib.hid (hz.later hb1)
  have HRR := Lib.hid (hR.later hb1)
  have H4 : Hid (rulesP k R → imgB n l z = true → (z.length : Int) = k → ∀ W, RulesIn W aR R → IntsIn W a l → IntsIn W az z → Calls Tryz.prog 118 #[.agg #[.int .i64 k, .slice aR R.length cR], .agg #[.int .i64 n, .slice a l.length cap], .slice az z.length cz] W (RetP (fitP n.toNat (l.map Int.toNat) (z.map Int.toNat) R) W)) := Lib.hid (fun h0 hi hkk W h1 h2 h3 => by
    obtain ⟨m, ln, zn, rfl, rfl, hT, rfl, hzm, _, _⟩ := imgB_out hi
    rw [map_toNat', map_toNat', Int.toNat_natCast, List.length_map, List.length_map]
    rw [List.length_map] at hkk
    exact l11Fits_any k R aR cR m ln zn a ln.length cap az cz W h1 h0 hkk h2 hT.toTb hT.len h3 hzm)
  have HSA : Hid (satP k R n l z ↔ ((rulesP k R ∧ imgB n l z = true) ∧ (z.length : Int) = k) ∧ fitP n.toNat (l.map Int.toNat) (z.map Int.toNat) R) := Lib.hid Iff.rfl
  clear hl hz hR hS hb1
  generalize satP k R n l z = sp at *
  generalize fitP n.toNat (l.map Int.toNat) (z.map Int.toNat) R = fp at *
  generalize rulesP k R = rp at *
  go_enter Tryz.func61, Tryz.ntmps61
  go_wp2_with fail
  generalize ((w.alloc (.cells #[.int .i64 k, .slice aR R.length cR] 29)).alloc (.cells #[.int .i64 n, .slice a l.length cap] 38)) = w1 at *
  refine (HRO.out _ HRR.out).mono ?_
  rintro e w2 ⟨bb, hbb, rfl, hb2⟩
  have HBB := Lib.hid hbb
  have HB2 := Lib.hid hb2
  obtain ⟨s0, s1, s2, s3⟩ := HX.out w2 hb2
  clear hbb hb2
  cases bb
  · have F : Hid (RetP sp w (.returned (.bool false)) w2) := Lib.hid (RetP.no (fun h => by have := HBB.out.2 (HSA.out.1 h).1.1.1; cases this) (Below.now HB.out HB2.out))
    go_wp2_with fail
    go_ret
    exact F.out
  have HRP := Lib.hid (HBB.out.1 rfl)
  cases hi : imgB n l z
  · rw [hi] at HIM
    have F : Hid (∀ W, Below w1.heap.size w1 W → RetP sp w (.returned (.bool false)) W) := Lib.hid (fun W hW => RetP.no (fun h => by have := (HSA.out.1 h).1.1.2; rw [hi] at this; cases this) (Below.now HB.out hW))
    clear hi
    go_wp2_with fail
    refine (HIM.out _ (HL.out.later HB2.out) (HZ.out.later HB2.out)).mono ?_
    rintro e w3 ⟨rfl, hb3⟩
    have HB3 := Lib.hid (Below.now HB2.out hb3)
    obtain ⟨t0, t1, t2, t3⟩ := HX.out w3 HB3.out
    clear hb3 s0 s1 s2 s3
    go_wp2_with fail
    go_ret
    exact F.out _ HB3.out
  rw [hi] at HIM
  have HII := Lib.hid hi
  clear hi
  by_cases hk : (z.length : Int) = k
  · have hkb : ((z.length : Int) == k) = true := by simpa using hk
    have HF := Lib.hid (H4.out HRP.out HII.out hk)
    have HKK := Lib.hid hk
    clear hk H4
    go_wp2_with fail
    refine (HIM.out _ (HL.out.later HB2.out) (HZ.out.later HB2.out)).mono ?_
    rintro e w3 ⟨rfl, hb3⟩
    have HB3 := Lib.hid (Below.now HB2.out hb3)
    obtain ⟨t0, t1, t2, t3⟩ := HX.out w3 HB3.out
    clear hb3 s0 s1 s2 s3
    go_wp2_with fail
    refine (HF.out _ (HRR.out.later HB3.out) (HL.out.later HB3.out) (HZ.out.later HB3.out)).mono ?_
    rintro e w4 ⟨b4, hb4, rfl, hb5⟩
    have F : Hid (RetP sp w (.returned (.bool b4)) w4) := Lib.hid ⟨b4, ⟨fun h => HSA.out.2 ⟨⟨⟨HRP.out, HII.out⟩, HKK.out⟩, hb4.1 h⟩, fun h => hb4.2 (HSA.out.1 h).2⟩, rfl, Below.now HB.out (Below.now HB3.out hb5)⟩
    clear hb4 hb5 t0 t1 t2 t3
    go_wp2_with fail
    go_ret
    exact F.out
  · have hkb : ((z.length : Int) == k) = false := by simpa using hk
    have F : Hid (∀ W, Below w1.heap.size w1 W → RetP sp w (.returned (.bool false)) W) := Lib.hid (fun W hW => RetP.no (fun h => hk (HSA.out.1 h).1.2) (Below.now HB.out hW))
    clear hk H4
    go_wp2_with fail
    refine (HIM.out _ (HL.out.later HB2.out) (HZ.out.later HB2.out)).mono ?_
    rintro e w3 ⟨rfl, hb3⟩
    have HB3 := Lib.hid (Below.now HB2.out hb3)
    obtain ⟨t0, t1, t2, t3⟩ := HX.out w3 HB3.out
    clear hb3 s0 s1 s2 s3
    go_wp2_with fail
    go_ret
    exact F.out _ HB3.out
set_option maxRecDepth 20000 in
set_option maxHeartbeats 2000000 in
theorem implSatisfiesRules_any (k : Int) (R : List RulD) (aR : Option Addr) (cR : Nat) (n : Int) (l : List Int) (a : Option Addr) (cap : Nat) (z : List Int) (az : Option Addr) (cz : Nat) (w : World) (hR : RulesIn w aR R) (hRl : R.length ≤ 2 ^ 40) (hS : SzR R)
    (hl : IntsIn w a l) (hlen : l.length ≤ 2 ^ 47) (hz : IntsIn w az z) (hzl : z.length ≤ 2 ^ 47) :
    Calls Tryz.prog 63 #[.agg #[.int .i64 k, .slice aR R.length cR], .agg #[.int .i64 n, .slice a l.length cap], .slice az z.length cz] w (RetP (satP k R n l z) w) := by
  have HRO := Lib.hid (fun W h => implRulesOk_any k R aR cR W h hRl hS)
  have HIM := Lib.hid (fun W h1 h2 => implImagesOk_any n l a cap z az cz W h1 hlen h2 hzl)
  have hb1 : Below w.heap.size w ((w.alloc (.cells #[.int .i64 k, .slice aR R.length cR] 29)).alloc (.cells #[.int .i64 n, .slice a l.length cap] 38)) := Below.now (alloc_belowS w _) (alloc_belowS _ _)
  have HX : Hid (∀ W, Below ((w.alloc (.cells #[.int .i64 k, .slice aR R.length cR] 29)).alloc (.cells #[.int .i64 n, .slice a l.length cap] 38)).heap.size ((w.alloc (.cells #[.int .i64 k, .slice aR R.length cR] 29)).alloc (.cells #[.int .i64 n, .slice a l.length cap] 38)) W → W.cell? ⟨w.heap.size, 0, none⟩ = some (.int .i64 k) ∧ W.cell? ⟨w.heap.size, 1, none⟩ = some (.slice aR R.length cR) ∧ W.cell? ⟨w.heap.size + 1, 0, none⟩ = some (.int .i64 n) ∧ W.cell? ⟨w.heap.size + 1, 1, none⟩ = some (.slice a l.length cap)) := Lib.hid (fun W hW => by
    refine ⟨?_, ?_, ?_, ?_⟩ <;> rw [hW.cell (by simp; try omega)] <;> simp [go_sem])
  have HB := Lib.hid hb1
  have HL := Lib.hid (hl.later hb1)
  have HZ := Lib.hid (hz.later hb1)
  have HRR := Lib.hid (hR.later hb1)
  have H4 : Hid (rulesP k R → imgB n l z = true → (z.length : Int) = k → ∀ W, RulesIn W aR R → IntsIn W a l → IntsIn W az z → Calls Tryz.prog 120 #[.agg #[.int .i64 n, .slice a l.length cap], .agg #[.int .i64 k, .slice aR R.length cR], .slice az z.length cz] W (RetP (fitP n.toNat (l.map Int.toNat) (z.map Int.toNat) R) W)) := Lib.hid (fun h0 hi hkk W h1 h2 h3 => by
    obtain ⟨m, ln, zn, rfl, rfl, hT, rfl, hzm, _, _⟩ := imgB_out hi
    rw [map_toNat', map_toNat', Int.toNat_natCast, List.length_map, List.length_map]
    rw [List.length_map] at hkk
    exact satisfies_any k R aR cR m ln zn a ln.length cap az cz W h1 h0 hkk h2 hT.toTb hT.len h3 hzm)
  have HSA : Hid (satP k R n l z ↔ ((rulesP k R ∧ imgB n l z = true) ∧ (z.length : Int) = k) ∧ fitP n.toNat (l.map Int.toNat) (z.map Int.toNat) R) := Lib.hid Iff.rfl
  clear hl hz hR hS hb1
  generalize satP k R n l z = sp at *
  generalize fitP n.toNat (l.map Int.toNat) (z.map Int.toNat) R = fp at *
  generalize rulesP k R = rp at *
  go_enter Tryz.func63, Tryz.ntmps63
  go_wp2_with fail
  generalize ((w.alloc (.cells #[.int .i64 k, .slice aR R.length cR] 29)).alloc (.cells #[.int .i64 n, .slice a l.length cap] 38)) = w1 at *
  refine (HRO.out _ HRR.out).mono ?_
  rintro e w2 ⟨bb, hbb, rfl, hb2⟩
  have HBB := Lib.hid hbb
  have HB2 := Lib.hid hb2
  obtain ⟨s0, s1, s2, s3⟩ := HX.out w2 hb2
  clear hbb hb2
  cases bb
  · have F : Hid (RetP sp w (.returned (.bool false)) w2) := Lib.hid (RetP.no (fun h => by have := HBB.out.2 (HSA.out.1 h).1.1.1; cases this) (Below.now HB.out HB2.out))
    go_wp2_with fail
    go_ret
    exact F.out
  have HRP := Lib.hid (HBB.out.1 rfl)
  cases hi : imgB n l z
  · rw [hi] at HIM
    have F : Hid (∀ W, Below w1.heap.size w1 W → RetP sp w (.returned (.bool false)) W) := Lib.hid (fun W hW => RetP.no (fun h => by have := (HSA.out.1 h).1.1.2; rw [hi] at this; cases this) (Below.now HB.out hW))
    clear hi
    go_wp2_with fail
    refine (HIM.out _ (HL.out.later HB2.out) (HZ.out.later HB2.out)).mono ?_
    rintro e w3 ⟨rfl, hb3⟩
    have HB3 := Lib.hid (Below.now HB2.out hb3)
    obtain ⟨t0, t1, t2, t3⟩ := HX.out w3 HB3.out
    clear hb3 s0 s1 s2 s3
    go_wp2_with fail
    go_ret
    exact F.out _ HB3.out
  rw [hi] at HIM
  have HII := Lib.hid hi
  clear hi
  by_cases hk : (z.length : Int) = k
  · have hkb : ((z.length : Int) == k) = true := by simpa using hk
    have HF := Lib.hid (H4.out HRP.out HII.out hk)
    have HKK := Lib.hid hk
    clear hk H4
    go_wp2_with fail
    refine (HIM.out _ (HL.out.later HB2.out) (HZ.out.later HB2.out)).mono ?_
    rintro e w3 ⟨rfl, hb3⟩
    have HB3 := Lib.hid (Below.now HB2.out hb3)
    obtain ⟨t0, t1, t2, t3⟩ := HX.out w3 HB3.out
    clear hb3 s0 s1 s2 s3
    go_wp2_with fail
    refine (HF.out _ (HRR.out.later HB3.out) (HL.out.later HB3.out) (HZ.out.later HB3.out)).mono ?_
    rintro e w4 ⟨b4, hb4, rfl, hb5⟩
    have F : Hid (RetP sp w (.returned (.bool b4)) w4) := Lib.hid ⟨b4, ⟨fun h => HSA.out.2 ⟨⟨⟨HRP.out, HII.out⟩, HKK.out⟩, hb4.1 h⟩, fun h => hb4.2 (HSA.out.1 h).2⟩, rfl, Below.now HB.out (Below.now HB3.out hb5)⟩
    clear hb4 hb5 t0 t1 t2 t3
    go_wp2_with fail
    go_ret
    exact F.out
  · have hkb : ((z.length : Int) == k) = false := by simpa using hk
    have F : Hid (∀ W, Below w1.heap.size w1 W → RetP sp w (.returned (.bool false)) W) := Lib.hid (fun W hW => RetP.no (fun h => hk (HSA.out.1 h).1.2) (Below.now HB.out hW))
    clear hk H4
    go_wp2_with fail
    refine (HIM.out _ (HL.out.later HB2.out) (HZ.out.later HB2.out)).mono ?_
    rintro e w3 ⟨rfl, hb3⟩
    have HB3 := Lib.hid (Below.now HB2.out hb3)
    obtain ⟨t0, t1, t2, t3⟩ := HX.out w3 HB3.out
    clear hb3 s0 s1 s2 s3
    go_wp2_with fail
    go_ret
    exact F.out _ HB3.out
end Go.Proofs.YtggfhephdcnpcaaGreatDoor
namespace Go.Proofs.YtggfhephdcnpcaaGreatDoor
open Go.RowKit
set_option linter.unusedVariables false
/-- a text of one byte -/
def oneC (x : Int) : ByteArray := ⟨#[UInt8.ofNat x.toNat]⟩
theorem convC (w : World) (x : Int) :
    (convert 49 9 (.slice (some ⟨w.heap.size, 0, none⟩) 1 1)).run Tryz.prog (w.alloc (.cells #[.int .u8 x] 5)) = .ok (.string (oneC x)) (w.alloc (.cells #[.int .u8 x] 5)) :=
  run_convert_bytes_arg (P := Tryz.prog) (w.alloc (.cells #[.int .u8 x] 5)) 49 5 Tryz.underlying49 Tryz.underlying5 w.heap.size 0 1 1 [x] rfl (fun i hi => by
    obtain rfl : i = 0 := by omega
    simp) 9 Tryz.underlying9
/-- the letter of a number -/
def letterN (x : Nat) : ByteArray := oneC (97 + (x : Int))
theorem letterN_size (x : Nat) : (letterN x).size = 1 := rfl
theorem letterOf_any (x : Nat) (w : World) (hx : x < 26) : Calls Tryz.prog 198 #[.int .i64 (x : Nat)] w fun e w' => e = .returned (.string (letterN x)) ∧ Below w.heap.size w w' := by
  have kc := convC
  have hu : IntKind.u8.wrap (97 + (x : Int)) = 97 + (x : Int) := by simp [IntKind.wrap, IntKind.signed, IntKind.bits]; omega
  have HL : Hid (oneC (97 + (x : Int)) = letterN x) := Lib.hid rfl
  go_enter Tryz.func198, Tryz.ntmps198
  go_wp2_with fail
  go_ret
  exact ⟨rfl, (Below.refl _ _).alloc (Nat.le_refl _) _⟩
end Go.Proofs.YtggfhephdcnpcaaGreatDoor
