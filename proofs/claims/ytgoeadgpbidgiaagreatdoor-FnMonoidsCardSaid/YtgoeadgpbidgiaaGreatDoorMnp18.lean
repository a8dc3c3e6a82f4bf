/-
  firstStep, apply and normal of the program.
-/
import Derived.Test.YtgoeadgpbidgiaaGreatDoorMnp17
import Derived.Test.YtgoeadgpbidgiaaGreatDoorMnp03
import Derived.Test.YtgoeadgpbidgiaaGreatDoorMnp15
import Derived.Test.YtgoeadgpbidgiaaGreatDoorMnp11
import Derived.IntWalk
namespace Go.Proofs.YtgoeadgpbidgiaaGreatDoor
open Go.RowKit
set_option linter.unusedVariables false
set_option maxHeartbeats 1000000 in
theorem implValue_any (m : Nat) (ln zn : List Nat) (a : Option Addr) (len cap : Nat) (az : Option Addr) (cz : Nat) (v : ByteArray) (w : World) (hl : NatsIn w a ln) (hT : Tb m ln) (hlen : len = m * m) (hz : NatsIn w az zn) (hzm : ∀ x ∈ zn, x < m) (hw : letIn zn v) (hv : v.size ≤ 1000) :
    Calls Tryz.prog 69 #[.agg #[.int .i64 m, .slice a len cap], .slice az zn.length cz, .string v] w fun e w' => e = .returned (.int .i64 (valF m ln zn v : Nat)) ∧ Below w.heap.size w w' := by
  have hm := hT.hi
  have HT := Lib.hid hT
  have HL := Lib.hid hlen
  have HM := Lib.hid hzm
  have HW := Lib.hid hw
  have hb1 := (Below.refl w.heap.size w).alloc (Nat.le_refl _) (.cells #[.int .i64 (m : Nat), .slice a len cap] 47)
  have HX : Hid (∀ W, Below (w.alloc (.cells #[.int .i64 (m : Nat), .slice a len cap] 47)).heap.size (w.alloc (.cells #[.int .i64 (m : Nat), .slice a len cap] 47)) W → W.cell? ⟨w.heap.size, 0, none⟩ = some (.int .i64 (m : Nat)) ∧ W.cell? ⟨w.heap.size, 1, none⟩ = some (.slice a len cap)) := Lib.hid (fun W hW => ⟨by rw [hW.cell (by simp)]; simp, by rw [hW.cell (by simp)]; simp⟩)
  have HB := Lib.hid hb1
  have HN := Lib.hid (hl.later hb1)
  have HZ := Lib.hid (hz.later hb1)
  clear hl hT hlen hb1 hz hzm hw
  go_enter Tryz.func69, Tryz.ntmps69
  go_wp2_with fail
  generalize w.alloc (.cells #[.int .i64 (m : Nat), .slice a len cap] 47) = w1 at *
  go_loopw [7, 11] (fun x i wr => ∃ j : Nat, j ≤ v.size ∧ i = .int .i64 j ∧ x = .int .i64 (valTo m ln zn v j : Nat) ∧ Hid (Below w1.heap.size w1 wr)) (fun _ i _ => v.size - (intOf i).toNat)
  case atStart => exact ⟨0, Nat.zero_le _, rfl, by rw [valTo_zero]; rfl, Lib.hid (Below.refl _ _)⟩
  case round =>
    obtain ⟨j, hj, rfl, rfl, HWR⟩ := hrel
    by_cases hlt : j < v.size
    · have hb := byte_lt v[j]
      obtain ⟨q, hq, hi, hc⟩ := byte_facts HW.out hlt
      obtain ⟨bz, oz, rfl, hcz⟩ := img_cell (HZ.out.later HWR.out) hq
      have hx := valTo_lt HT.out HM.out HW.out j hj
      have hy : zn.getD q 0 < m := by rw [← hi]; exact imN_lt HM.out (letIn_at HW.out hlt).2
      have HS : Hid (valTo m ln zn v (j + 1) = tm m ln (valTo m ln zn v j) (zn.getD q 0)) := Lib.hid (by rw [valTo_succ hlt, hi])
      obtain ⟨z0, z1⟩ := HX.out wr HWR.out
      have k0 : ∀ x, (wide wr x).cell? ⟨w.heap.size, 0, none⟩ = some (.int .i64 (m : Nat)) := wide_cell z0
      have k1 : ∀ x, (wide wr x).cell? ⟨w.heap.size, 1, none⟩ = some (.slice a len cap) := wide_cell z1
      have k2 : ∀ x, (wide wr x).cell? ⟨bz, oz + q, none⟩ = some (.int .i64 ((zn.getD q 0 : Nat) : Int)) := wide_cell hcz
      have HNW : Hid (∀ x, NatsIn (wide wr x) a ln) := Lib.hid (fun x => (HN.out.later HWR.out).later (below_wide _ _))
      clear hi hcz z0 z1
      generalize valTo m ln zn v j = v1 at *
      generalize zn.getD q 0 = y at *
      have hq2 : (v[j].toNat : Int) - 97 = (q : Int) := by omega
      have hge : (97 : Int) ≤ (v[j].toNat : Int) := by omega
      have hq5 : (q : Int) ≤ 255 := by omega
      have hwq : IntKind.u8.wrap (q : Int) = (q : Int) := IntWalk.u8_in _ ⟨by omega, by omega⟩
      clear hc
      go_wp2_with fail
      refine region_wide (by kernel_rfl) (by kernel_rfl) ?_
      repeat (quiet_step ((go_at_call 61; refine (implTimes_any m ln a _ _ _ _ _ (HNW.out _) HT.out HL.out (by assumption) (by assumption)).mono ?_; rintro e w2 ⟨rfl, hb2⟩; exact ⟨rfl, wide_next hb2⟩)))
      refine wpQuiet_nil ?_
      rintro w4 ⟨x4, rfl⟩
      have HW4 := Lib.hid (Below.now HWR.out (below_wide wr x4))
      clear k0 k1 k2 hwq hb hge hq5 hq2
      go_wp2_with fail
      go_roundw
      case rel => exact ⟨j + 1, by omega, by go_num, by rw [HS.out], HW4⟩
      case measure => simp [intOf]; omega
    · have F := Lib.hid (valTo_full (m := m) (ln := ln) (zn := zn) hlt hj)
      rw [F.out]
      go_wp2_with fail
      go_ret
      exact ⟨rfl, Below.now HB.out HWR.out⟩
set_option maxRecDepth 20000 in
set_option maxHeartbeats 1000000 in
theorem satisfies1_any (m : Nat) (ln zn : List Nat) (a : Option Addr) (len cap : Nat) (az : Option Addr) (cz : Nat) (x y : ByteArray) (bt bz : Nat) (w : World) (hl : NatsIn w a ln) (hT : Tb m ln) (hlen : len = m * m) (hz : NatsIn w az zn) (hzm : ∀ x ∈ zn, x < m)
    (hx : letIn zn x ∧ x.size ≤ 8) (hy : letIn zn y ∧ y.size ≤ 8) (h0 : w.cell? ⟨bt, 0, none⟩ = some (.int .i64 (m : Nat))) (h1 : w.cell? ⟨bt, 1, none⟩ = some (.slice a len cap)) (h2 : w.cell? ⟨bz, 0, none⟩ = some (.slice az zn.length cz)) :
    Calls Tryz.prog 150 #[.agg #[.string x, .string y], .pointer (some ⟨bt, 0, none⟩), .pointer (some ⟨bz, 0, none⟩)] w (RetP (¬ valF m ln zn x = valF m ln zn y) w) := by
  have hb2 := alloc_belowS w (.cells #[.string x, .string y] 39)
  have HW2 := Lib.hid hb2
  obtain ⟨n0, n1⟩ := sys_cells (alloc_at w (.cells #[.string x, .string y] 39))
  have z0 := (hb2.cell (World.block_lt_of_cell? _ _ h0)).trans h0
  have z1 := (hb2.cell (World.block_lt_of_cell? _ _ h1)).trans h1
  have z2 := (hb2.cell (World.block_lt_of_cell? _ _ h2)).trans h2
  have HC1 : Hid (∀ q, Calls Tryz.prog 69 #[.agg #[.int .i64 m, .slice a len cap], .slice az zn.length cz, .string x] (wide (w.alloc (.cells #[.string x, .string y] 39)) q) fun e w' => e = .returned (.int .i64 (valF m ln zn x : Nat)) ∧ Below (wide (w.alloc (.cells #[.string x, .string y] 39)) q).heap.size (wide (w.alloc (.cells #[.string x, .string y] 39)) q) w') := Lib.hid (fun q => implValue_any m ln zn a len cap az cz x _ (hl.later (Below.now hb2 (below_wide _ _))) hT hlen (hz.later (Below.now hb2 (below_wide _ _))) hzm hx.1 (by omega))
  have HC2 : Hid (∀ q, Calls Tryz.prog 69 #[.agg #[.int .i64 m, .slice a len cap], .slice az zn.length cz, .string y] (wide (w.alloc (.cells #[.string x, .string y] 39)) q) fun e w' => e = .returned (.int .i64 (valF m ln zn y : Nat)) ∧ Below (wide (w.alloc (.cells #[.string x, .string y] 39)) q).heap.size (wide (w.alloc (.cells #[.string x, .string y] 39)) q) w') := Lib.hid (fun q => implValue_any m ln zn a len cap az cz y _ (hl.later (Below.now hb2 (below_wide _ _))) hT hlen (hz.later (Below.now hb2 (below_wide _ _))) hzm hy.1 (by omega))
  clear hl hT hlen hz hzm hx hy h0 h1 h2
  generalize valF m ln zn x = vx at *
  generalize valF m ln zn y = vy at *
  go_enter Tryz.func150, Tryz.ntmps150
  go_upto_region 1 with fail
  generalize w.alloc (.cells #[.string x, .string y] 39) = w2 at *
  have k0 : ∀ q, (wide w2 q).cell? ⟨bt, 0, none⟩ = some (.int .i64 (m : Nat)) := wide_cell z0
  have k1 : ∀ q, (wide w2 q).cell? ⟨bt, 1, none⟩ = some (.slice a len cap) := wide_cell z1
  have k2 : ∀ q, (wide w2 q).cell? ⟨w.heap.size, 0, none⟩ = some (.string x) := wide_cell n0
  have k3 : ∀ q, (wide w2 q).cell? ⟨w.heap.size, 1, none⟩ = some (.string y) := wide_cell n1
  have k4 : ∀ q, (wide w2 q).cell? ⟨bz, 0, none⟩ = some (.slice az zn.length cz) := wide_cell z2
  refine region_wide (by kernel_rfl) (by kernel_rfl) ?_
  repeat (quiet_step ((go_at_call 69; first | ((with_reducible refine (HC1.out _).mono ?_); rintro e w2 ⟨rfl, hb2⟩; exact ⟨rfl, wide_next hb2⟩) | ((with_reducible refine (HC2.out _).mono ?_); rintro e w2 ⟨rfl, hb2⟩; exact ⟨rfl, wide_next hb2⟩))))
  refine wpQuiet_nil ?_
  rintro w4 ⟨x4, rfl⟩
  have HW4 := Lib.hid (Below.now HW2.out (below_wide w2 x4))
  clear k0 k1 k2 k3 k4 z0 z1 z2 n0 n1 hb2
  cases e1 : (((vx : Nat) : Int) != ((vy : Nat) : Int))
  · have F : Hid (RetP (¬ vx = vy) w (.returned (.bool false)) (wide w2 x4)) := Lib.hid (RetP.no (by simp at e1; omega) HW4.out)
    go_wp2_with fail
    go_ret
    exact F.out
  · have F : Hid (RetP (¬ vx = vy) w (.returned (.bool true)) (wide w2 x4)) := Lib.hid (RetP.yes (by simp at e1; omega) HW4.out)
    go_wp2_with fail
    go_ret
    exact F.out
set_option maxHeartbeats 1000000 in
theorem satisfies_any (k : Int) (R : List RulD) (aR : Option Addr) (cR : Nat) (m : Nat) (ln zn : List Nat) (a : Option Addr) (len cap : Nat) (az : Option Addr) (cz : Nat) (w : World) (hR : RulesIn w aR R) (hs : rulesP k R) (hk : (zn.length : Int) = k)
    (hl : NatsIn w a ln) (hT : Tb m ln) (hlen : len = m * m) (hz : NatsIn w az zn) (hzm : ∀ x ∈ zn, x < m) :
    Calls Tryz.prog 113 #[.agg #[.int .i64 m, .slice a len cap], .agg #[.int .i64 k, .slice aR R.length cR], .slice az zn.length cz] w (RetP (fitP m ln zn R) w) := by
  have hn := hs.1.2
  have HWD := satP_words hs hk
  have HSZ : ∀ r ∈ R, r.1.size ≤ 8 ∧ r.2.size ≤ 8 := fun r hr => (hs.2 r hr).1.2
  have hb1 : Below w.heap.size w (((w.alloc (.cells #[.int .i64 (m : Nat), .slice a len cap] 47)).alloc (.cells #[.int .i64 k, .slice aR R.length cR] 33)).alloc (.cells #[.slice az zn.length cz] 45)) := Below.now (Below.now (alloc_belowS w _) (alloc_belowS _ _)) (alloc_belowS _ _)
  have HC := Lib.hid (containsFuncR_any 150 #[.pointer (some ⟨w.heap.size, 0, none⟩), .pointer (some ⟨w.heap.size + 2, 0, none⟩)] (fun r => ¬ valF m ln zn r.1 = valF m ln zn r.2) R aR cR
    (((w.alloc (.cells #[.int .i64 (m : Nat), .slice a len cap] 47)).alloc (.cells #[.int .i64 k, .slice aR R.length cR] 33)).alloc (.cells #[.slice az zn.length cz] 45)) (hR.later hb1) (by omega) _ (Nat.le_refl _)
    (fun j hj W hW => satisfies1_any m ln zn a len cap az cz _ _ w.heap.size (w.heap.size + 2) W (hl.later (Below.now hb1 hW)) hT hlen (hz.later (Below.now hb1 hW)) hzm ⟨(HWD _ (nthR_mem hj)).1, (HSZ _ (nthR_mem hj)).1⟩ ⟨(HWD _ (nthR_mem hj)).2, (HSZ _ (nthR_mem hj)).2⟩
      (by rw [hW.cell (by simp; try omega)]; simp [go_sem]) (by rw [hW.cell (by simp; try omega)]; simp [go_sem]) (by rw [hW.cell (by simp; try omega)]; simp [go_sem])) (enters_of Tryz.func150 (by kernel_rfl) rfl))
  have HF := Lib.hid (fitP_iff (m := m) (ln := ln) (zn := zn) (R := R))
  have HB := Lib.hid hb1
  clear hl hT hlen hz hzm hR hs hb1 HWD HSZ
  generalize fitP m ln zn R = fp at *
  go_enter Tryz.func113, Tryz.ntmps113
  go_wp2_with fail
  refine HC.out.mono ?_
  rintro e w2 ⟨bb, hbb, rfl, hb2⟩
  have F : Hid (RetP fp w (.returned (.bool !bb)) w2) := Lib.hid (by
    cases bb
    · exact RetP.yes (HF.out.2 (fun h => by have := hbb.2 h; cases this)) (Below.now HB.out hb2)
    · exact RetP.no (fun h => HF.out.1 h (hbb.1 rfl)) (Below.now HB.out hb2))
  clear hbb hb2 HC
  go_wp2_with fail
  go_ret
  exact F.out
set_option maxHeartbeats 1000000 in
theorem implImagesOk_any (n : Int) (l : List Int) (a : Option Addr) (cap : Nat) (z : List Int) (az : Option Addr) (cz : Nat) (w : World) (hl : IntsIn w a l) (hlen : l.length ≤ 2 ^ 47) (hz : IntsIn w az z) (hzl : z.length ≤ 2 ^ 47) :
    Calls Tryz.prog 64 #[.agg #[.int .i64 n, .slice a l.length cap], .slice az z.length cz] w fun e w' => e = .returned (.bool (imgB n l z)) ∧ Below w.heap.size w w' := by
  have HTO := Lib.hid (fun W (h : IntsIn W a l) => implTableOk_any n l a cap W h hlen)
  have HIN := Lib.hid (fun W => within_any (z.length : Int) 1 4 W)
  have hb1 := (Below.refl w.heap.size w).alloc (Nat.le_refl _) (.cells #[.int .i64 n, .slice a l.length cap] 47)
  have HX : Hid (∀ W, Below (w.alloc (.cells #[.int .i64 n, .slice a l.length cap] 47)).heap.size (w.alloc (.cells #[.int .i64 n, .slice a l.length cap] 47)) W → W.cell? ⟨w.heap.size, 0, none⟩ = some (.int .i64 n)) := Lib.hid (fun W hW => by rw [hW.cell (by simp)]; simp)
  have HB := Lib.hid hb1
  have HL := Lib.hid (hl.later hb1)
  have HZ := Lib.hid (hz.later hb1)
  clear hl hz hb1
  cases ht : tabB n l
  · have F := Lib.hid (imgB_no1 (z := z) ht)
    rw [ht] at HTO
    clear ht
    go_enter Tryz.func64, Tryz.ntmps64
    go_wp2_with fail
    refine (HTO.out _ HL.out).mono ?_
    rintro e w2 ⟨rfl, hb2⟩
    go_wp2_with fail
    go_ret
    exact ⟨ret_bool F.out.symm, Below.now HB.out hb2⟩
  cases hk : inB (z.length : Int) 1 4
  · have F := Lib.hid (imgB_no2 (n := n) (l := l) hk)
    rw [ht] at HTO
    rw [hk] at HIN
    clear ht hk
    go_enter Tryz.func64, Tryz.ntmps64
    go_wp2_with fail
    refine (HTO.out _ HL.out).mono ?_
    rintro e w2 ⟨rfl, hb2⟩
    have HB2 := Lib.hid (Below.now HB.out hb2)
    clear hb2
    go_wp2_with fail
    refine (HIN.out _).mono ?_
    rintro e w3 ⟨rfl, rfl⟩
    go_wp2_with fail
    go_ret
    exact ⟨ret_bool F.out.symm, HB2.out⟩
  have F := Lib.hid (imgB_yes (z := z) ht hk)
  have ⟨hn1, hn2⟩ : 1 ≤ n ∧ n ≤ 40 := by
    obtain ⟨m, ln, rfl, rfl, hT⟩ := tabOk_out ht
    have := hT.lo; have := hT.hi
    omega
  have HAW := Lib.hid (fun W (h : IntsIn W az z) => allWithin_any 0 (n - 1) z az cz W h hzl)
  have HE : Hid ((z.all fun x => inB x 0 (n - 1)) = imgB n l z) := Lib.hid (by rw [F.out]; rfl)
  rw [HE.out] at HAW
  rw [ht] at HTO
  rw [hk] at HIN
  clear ht hk HE
  generalize imgB n l z = bb at *
  go_enter Tryz.func64, Tryz.ntmps64
  go_wp2_with fail
  generalize w.alloc (.cells #[.int .i64 n, .slice a l.length cap] 47) = w1 at *
  refine (HTO.out _ HL.out).mono ?_
  rintro e w2 ⟨rfl, hb2⟩
  have HB2 := Lib.hid hb2
  have z0 := HX.out _ hb2
  clear hb2
  go_wp2_with fail
  refine (HIN.out _).mono ?_
  rintro e w3 ⟨rfl, rfl⟩
  go_wp2_with fail
  refine (HAW.out _ (HZ.out.later HB2.out)).mono ?_
  rintro e w4 ⟨rfl, hb4⟩
  have HB4 := Lib.hid (Below.now HB.out (Below.now HB2.out hb4))
  clear hb4 z0
  go_wp2_with fail
  go_ret
  exact ⟨rfl, HB4.out⟩
end Go.Proofs.YtgoeadgpbidgiaaGreatDoor
namespace Go.Proofs.YtgoeadgpbidgiaaGreatDoor
open Go.RowKit
set_option linter.unusedVariables false
set_option maxRecDepth 20000 in
set_option maxHeartbeats 2000000 in
theorem implSatisfiesRules_any (k : Int) (R : List RulD) (aR : Option Addr) (cR : Nat) (n : Int) (l : List Int) (a : Option Addr) (cap : Nat) (z : List Int) (az : Option Addr) (cz : Nat) (w : World) (hR : RulesIn w aR R) (hRl : R.length ≤ 2 ^ 40) (hS : SzR R)
    (hl : IntsIn w a l) (hlen : l.length ≤ 2 ^ 47) (hz : IntsIn w az z) (hzl : z.length ≤ 2 ^ 47) :
    Calls Tryz.prog 68 #[.agg #[.int .i64 k, .slice aR R.length cR], .agg #[.int .i64 n, .slice a l.length cap], .slice az z.length cz] w (RetP (satP k R n l z) w) := by
  have HRO := Lib.hid (fun W h => implRulesOk_any k R aR cR W h hRl hS)
  have HIM := Lib.hid (fun W h1 h2 => implImagesOk_any n l a cap z az cz W h1 hlen h2 hzl)
  have hb1 : Below w.heap.size w ((w.alloc (.cells #[.int .i64 k, .slice aR R.length cR] 33)).alloc (.cells #[.int .i64 n, .slice a l.length cap] 47)) := Below.now (alloc_belowS w _) (alloc_belowS _ _)
  have HX : Hid (∀ W, Below ((w.alloc (.cells #[.int .i64 k, .slice aR R.length cR] 33)).alloc (.cells #[.int .i64 n, .slice a l.length cap] 47)).heap.size ((w.alloc (.cells #[.int .i64 k, .slice aR R.length cR] 33)).alloc (.cells #[.int .i64 n, .slice a l.length cap] 47)) W → W.cell? ⟨w.heap.size, 0, none⟩ = some (.int .i64 k) ∧ W.cell? ⟨w.heap.size, 1, none⟩ = some (.slice aR R.length cR) ∧ W.cell? ⟨w.heap.size + 1, 0, none⟩ = some (.int .i64 n) ∧ W.cell? ⟨w.heap.size + 1, 1, none⟩ = some (.slice a l.length cap)) := Lib.hid (fun W hW => by
    refine ⟨?_, ?_, ?_, ?_⟩ <;> rw [hW.cell (by simp; try omega)] <;> simp [go_sem])
  have HB := Lib.hid hb1
  have HL := Lib.hid (hl.later hb1)
  have HZ := Lib.hid (hz.later hb1)
  have HRR := Lib.hid (hR.later hb1)
  have H4 : Hid (rulesP k R → imgB n l z = true → (z.length : Int) = k → ∀ W, RulesIn W aR R → IntsIn W a l → IntsIn W az z → Calls Tryz.prog 113 #[.agg #[.int .i64 n, .slice a l.length cap], .agg #[.int .i64 k, .slice aR R.length cR], .slice az z.length cz] W (RetP (fitP n.toNat (l.map Int.toNat) (z.map Int.toNat) R) W)) := Lib.hid (fun h0 hi hkk W h1 h2 h3 => by
    obtain ⟨m, ln, zn, rfl, rfl, hT, rfl, hzm, _, _⟩ := imgB_out hi
    rw [map_toNat', map_toNat', Int.toNat_natCast, List.length_map, List.length_map]
    rw [List.length_map] at hkk
    exact satisfies_any k R aR cR m ln zn a ln.length cap az cz W h1 h0 hkk h2 hT.toTb hT.len h3 hzm)
  have HSA : Hid (satP k R n l z ↔ ((rulesP k R ∧ imgB n l z = true) ∧ (z.length : Int) = k) ∧ fitP n.toNat (l.map Int.toNat) (z.map Int.toNat) R) := Lib.hid Iff.rfl
  clear hl hz hR hS hb1
  generalize satP k R n l z = sp at *
  generalize fitP n.toNat (l.map Int.toNat) (z.map Int.toNat) R = fp at *
  generalize rulesP k R = rp at *
  go_enter Tryz.func68, Tryz.ntmps68
  go_wp2_with fail
  generalize ((w.alloc (.cells #[.int .i64 k, .slice aR R.length cR] 33)).alloc (.cells #[.int .i64 n, .slice a l.length cap] 47)) = w1 at *
  refine (HRO.out _ HRR.out).mono ?_
  rintro e w2 ⟨bb, hbb, rfl, hb2⟩
  have HBB := Lib.hid hbb
  have HB2 := Lib.hid hb2
  obtain ⟨s0, s1, s2, s3⟩ := HX.out w2 hb2
  clear hbb hb2
  cases bb
  · have F : Hid (RetP sp w (.returned (.bool false)) w2) := Lib.hid (RetP.no (fun h => by have := HBB.out.2 (HSA.out.1 h).1.1.1; cases this) (Below.now HB.out HB2.out))
    go_wp2_with fail
    go_ret
    exact F.out
  have HRP := Lib.hid (HBB.out.1 rfl)
  cases hi : imgB n l z
  · rw [hi] at HIM
    have F : Hid (∀ W, Below w1.heap.size w1 W → RetP sp w (.returned (.bool false)) W) := Lib.hid (fun W hW => RetP.no (fun h => by have := (HSA.out.1 h).1.1.2; rw [hi] at this; cases this) (Below.now HB.out hW))
    clear hi
    go_wp2_with fail
    refine (HIM.out _ (HL.out.later HB2.out) (HZ.out.later HB2.out)).mono ?_
    rintro e w3 ⟨rfl, hb3⟩
    have HB3 := Lib.hid (Below.now HB2.out hb3)
    obtain ⟨t0, t1, t2, t3⟩ := HX.out w3 HB3.out
    clear hb3 s0 s1 s2 s3
    go_wp2_with fail
    go_ret
    exact F.out _ HB3.out
  rw [hi] at HIM
  have HII := Lib.hid hi
  clear hi
  by_cases hk : (z.length : Int) = k
  · have hkb : ((z.length : Int) == k) = true := by simpa using hk
    have HF := Lib.hid (H4.out HRP.out HII.out hk)
    have HKK := Lib.hid hk
    clear hk H4
    go_wp2_with fail
    refine (HIM.out _ (HL.out.later HB2.out) (HZ.out.later HB2.out)).mono ?_
    rintro e w3 ⟨rfl, hb3⟩
    have HB3 := Lib.hid (Below.now HB2.out hb3)
    obtain ⟨t0, t1, t2, t3⟩ := HX.out w3 HB3.out
    clear hb3 s0 s1 s2 s3
    go_wp2_with fail
    refine (HF.out _ (HRR.out.later HB3.out) (HL.out.later HB3.out) (HZ.out.later HB3.out)).mono ?_
    rintro e w4 ⟨b4, hb4, rfl, hb5⟩
    have F : Hid (RetP sp w (.returned (.bool b4)) w4) := Lib.hid ⟨b4, ⟨fun h => HSA.out.2 ⟨⟨⟨HRP.out, HII.out⟩, HKK.out⟩, hb4.1 h⟩, fun h => hb4.2 (HSA.out.1 h).2⟩, rfl, Below.now HB.out (Below.now HB3.out hb5)⟩
    clear hb4 hb5 t0 t1 t2 t3
    go_wp2_with fail
    go_ret
    exact F.out
  · have hkb : ((z.length : Int) == k) = false := by simpa using hk
    have F : Hid (∀ W, Below w1.heap.size w1 W → RetP sp w (.returned (.bool false)) W) := Lib.hid (fun W hW => RetP.no (fun h => hk (HSA.out.1 h).1.2) (Below.now HB.out hW))
    clear hk H4
    go_wp2_with fail
    refine (HIM.out _ (HL.out.later HB2.out) (HZ.out.later HB2.out)).mono ?_
    rintro e w3 ⟨rfl, hb3⟩
    have HB3 := Lib.hid (Below.now HB2.out hb3)
    obtain ⟨t0, t1, t2, t3⟩ := HX.out w3 HB3.out
    clear hb3 s0 s1 s2 s3
    go_wp2_with fail
    go_ret
    exact F.out _ HB3.out
end Go.Proofs.YtgoeadgpbidgiaaGreatDoor
namespace Go.Proofs.YtgoeadgpbidgiaaGreatDoor
open Go.RowKit
set_option linter.unusedVariables false
/-- the record at block g since w: its first field x, its second one the slice v of n elements with the cells xs -/
structure Rec2 (TT T : TypeId) (size : Nat) (w wr : World) (g : Nat) (x v : Value) (n : Nat) (xs : List Value) : Prop where
  blk : wr.heap[g]? = some (.cells #[x, v] TT (0, 0))
  own : wr.ownsRow (g + 1) T size v n xs
  le : w.heap.size ≤ g
  below : Below w.heap.size w wr
section
variable {TT T : TypeId} {size : Nat} {w wr : World} {g : Nat} {x v : Value} {n : Nat} {xs : List Value}
theorem rec_cells {W : World} {b : Nat} {x y : Value} {T : TypeId} (h : W.heap[b]? = some (.cells #[x, y] T (0, 0))) : W.cell? ⟨b, 0, none⟩ = some x ∧ W.cell? ⟨b, 1, none⟩ = some y ∧ W.frozen? ⟨b, 0, none⟩ = false ∧ W.frozen? ⟨b, 1, none⟩ = false := by
  refine ⟨by simp [World.cell?, h], by simp [World.cell?, h], by simp [World.frozen?, h], by simp [World.frozen?, h]⟩
theorem Rec2.facts (h : Rec2 TT T size w wr g x v n xs) : wr.cell? ⟨g, 0, none⟩ = some x ∧ wr.cell? ⟨g, 1, none⟩ = some v ∧ wr.frozen? ⟨g, 0, none⟩ = false ∧ wr.frozen? ⟨g, 1, none⟩ = false := rec_cells h.blk
theorem Rec2.lt (h : Rec2 TT T size w wr g x v n xs) : g < wr.heap.size := (Array.getElem?_eq_some_iff.1 h.blk).1
theorem Rec2.later {wr' : World} (h : Rec2 TT T size w wr g x v n xs) (hb : Below wr.heap.size wr wr') : Rec2 TT T size w wr' g x v n xs :=
  ⟨(hb.block g h.lt).trans h.blk, owns_later h.own hb, h.le, Below.now h.below hb⟩
theorem Rec2.far (h : Rec2 TT T size w wr g x v n xs) : v.ownBlock ≠ some g := fun e => by have := (h.own.lt g e).1; omega
/-- what a new record is, its slice nil -/
theorem Rec2.start (TT T : TypeId) (size : Nat) {w w1 : World} (hb : Below w.heap.size w w1) (x : Value) : Rec2 TT T size w (w1.alloc (.cells #[x, .slice none 0 0] TT)) w1.heap.size x (.slice none 0 0) 0 [] :=
  ⟨alloc_at _ _, World.ownsRow_nil _ _ _ _, hb.size, hb.alloc hb.size _⟩
/-- the cells of the record once the slice has been appended to -/
theorem Rec2.grown {w2 w4 : World} {ob : Obj} (h : Rec2 TT T size w wr g x v n xs) (hb : Below wr.heap.size wr w2) (hg : (w2.alloc ob).grownBy w4 v.ownBlock) : w4.heap[g]? = some (.cells #[x, v] TT (0, 0)) := by
  have h2 := h.later (hb.alloc hb.size ob)
  exact (hg.block g h2.lt (fun e => h.far e.symm)).trans h2.blk
/-- the slice that was appended to is stored -/
theorem Rec2.put {w2 w4 : World} {ob : Obj} {v' : Value} {m : Nat} {ys : List Value} (h : Rec2 TT T size w wr g x v n xs) (hb : Below wr.heap.size wr w2) (hg : (w2.alloc ob).grownBy w4 v.ownBlock) (hn : w4.ownsRow (g + 1) T size v' m ys) :
    Rec2 TT T size w (w4.setCell ⟨g, 1, none⟩ v') g x v' m ys := by
  have h2 := h.later (hb.alloc hb.size ob)
  have h4 := h.grown hb hg
  have b4 : Below w.heap.size w w4 := h2.below.grown hg h2.below.size (fun k hk => by have := (h.own.lt k hk).1; have := h.le; omega)
  refine ⟨?_, ownsRow_setCell_below hn (by show g < g + 1; omega) _, h.le, b4.setCell h.le _⟩
  unfold World.setCell
  simp [Array.getElem?_modify, h4]
end
section
variable {P : Program}
/-- append of one element to a row that lies from H on, at a step of a region that draws its order -/
theorem step_appH {ops : Array Oper} {o : Oper} {a : Act} {K : Act → World → Prop} {Q : Exit → Act → World → Prop} {E : Prop} {T tsl : TypeId} {z : Value} {size bytes : Nat} (hg : o.guard = none) (s x : Operand)
    (ho : o.op = .call { callee := .builtin .append, args := #[s, x], argTypes := #[tsl, tsl] }) (ht : P.underlying tsl = some (.slice T)) (hinfo : (P.info? T).map (fun i => (i.zero, i.size, i.bytes)) = some (some z, size, bytes))
    (hzs : z.cells.size = size) (hpos : 0 < size) {H : Nat} {wr : World} {v : Value} {n : Nat} {xs news : List Value} (hs : a.eval s = v) (hb : wr.ownsRow H T size v n xs) (hH : H ≤ wr.heap.size) (hx : a.eval x = .slice (some ⟨wr.heap.size, 0, none⟩) 1 1)
    (hn : news.length = size) (h1 : ∀ u ∈ news, u.oneCell' = true) (h63 : n + 1 ≤ maxLen) (hbytes : (n + 1) * bytes ≤ 140737488355328)
    (hK : ∀ g cap w', w'.ownsRow H T size (.slice (some ⟨g, 0, none⟩) (n + 1) cap) (n + 1) (xs ++ news) → (wr.alloc (.cells news.toArray T)).grownBy w' v.ownBlock → K (a.put o.dst (.slice (some ⟨g, 0, none⟩) (n + 1) cap)) w') :
    if Region.wanted o (yielded ops a.tmps) = true then Oper.wp P o a (wr.alloc (.cells news.toArray T)) K Q else E := by
  obtain ⟨i0, hi, hz0, hz1, hz2⟩ := info_parts hinfo
  refine step_append_lies (w := wr.alloc (.cells news.toArray T)) hg s x tsl ho H T i0 z size bytes ht hi hz0 hz1 hz2 hzs hpos v n xs hs (hb.alloc _) ⟨wr.heap.size, 0, none⟩ 1 1 news hx (by omega) ?_ h1 (by omega) h63 hbytes ?_ _ rfl ?_
  · intro j u hu
    have hadd : (⟨wr.heap.size, 0, none⟩ : Addr).add j = ⟨wr.heap.size, j, none⟩ := by unfold Addr.add; split <;> simp_all
    rw [hadd, World.cell?_alloc_new]
    simpa using hu
  · simp; omega
  · intro g cap w' hown hgr ho _
    exact hK g cap w' hown hgr
end
end Go.Proofs.YtgoeadgpbidgiaaGreatDoor
namespace Go.Proofs.YtgoeadgpbidgiaaGreatDoor
open Go.RowKit
set_option linter.unusedVariables false
theorem RetMon.no {k : Int} {R : List RulD} {w w' : World} (h : ¬ GoM k R) (hb : Below w.heap.size w w') : RetMon k R w (.returned (.tuple #[.agg #[.int .i64 0, .slice none 0 0], .slice none 0 0, .bool false])) w' :=
  ⟨[], [], false, none, none, 0, 0, .inl ⟨h, rfl, rfl, rfl⟩, rfl, World.ownsRow_nil _ _ _ _, World.ownsRow_nil _ _ _ _, hb⟩
/-- the table that is being made, at block g -/
def MonSt (w wr : World) (g : Nat) (L : List ByteArray) (xs : List Int) : Prop := ∃ v, Rec2 47 3 1 w wr g (.int .i64 (L.length : Nat)) v xs.length (intVals xs)
theorem intVals_one (x : Int) (l : List Int) : intVals (l ++ [x]) = intVals l ++ [.int .i64 x] := by simp [intVals]
end Go.Proofs.YtgoeadgpbidgiaaGreatDoor
namespace Go.Proofs.YtgoeadgpbidgiaaGreatDoor
open Go.RowKit
set_option linter.unusedVariables false
set_option maxRecDepth 100000 in
set_option maxHeartbeats 2000000 in
theorem implSteps_any (k : Int) (R : List RulD) (a : Option Addr) (cap : Nat) (w0 : ByteArray) (w : World) (hl : RulesIn w a R) (hs : sysP k R) (hw : w0.size ≤ 16) :
    Calls Tryz.prog 220 #[.agg #[.int .i64 k, .slice a R.length cap], .string w0] w (RetSl 116 2 (stepsF R w0).length (cellsL stV (stepsF R w0)) w) := by
  have h12 : R.length ≤ 12 := hs.1.1.2
  have hz : SzR R := fun j hj => by have := (hs.1.2 _ (nthR_mem hj)).1.2; unfold maxLen; omega
  have h8 := left8 hs
  have HPOS : Hid (∀ r, r < R.length → 0 < (nthR R r).1.size) := Lib.hid (fun r hr => by have := (hs.1.2 _ (nthR_mem hr)).2; omega)
  have HL := Lib.hid hl
  have HA := Lib.hid (fun o => alloc_belowS w o)
  have HBX : Hid (∀ W2, Below (w.alloc (.cells #[.int .i64 k, .slice a R.length cap] 33)).heap.size (w.alloc (.cells #[.int .i64 k, .slice a R.length cap] 33)) W2 → W2.cell? ⟨w.heap.size, 0, none⟩ = some (.int .i64 k) ∧ W2.cell? ⟨w.heap.size, 1, none⟩ = some (.slice a R.length cap)) := Lib.hid (fun W2 h => box_two h)
  clear hl hs hz
  go_enter Tryz.func220, Tryz.ntmps220
  go_wp2_with fail
  have HW1 : Hid (Below w.heap.size w (w.alloc (.cells #[.int .i64 k, .slice a R.length cap] 33))) := Lib.hid (HA.out _)
  have HL1 := Lib.hid (HL.out.later HW1.out)
  have HBX1 := HBX
  generalize w.alloc (.cells #[.int .i64 k, .slice a R.length cap] 33) = w1 at *
  have HB0 : Hid (Bld 116 2 w1 w1 (.slice none 0 0) (stTo R w0 0 0).length (cellsL stV (stTo R w0 0 0))) := Lib.hid (Bld.nil 116 2 (Below.refl _ _))
  clear HBX
  go_loopw [5, 11] (fun vo vi wr => ∃ i : Nat, i ≤ w0.size ∧ vi = .int .i64 (i : Nat) ∧ Bld 116 2 w1 wr vo (stTo R w0 i 0).length (cellsL stV (stTo R w0 i 0))) (fun _ vi _ => w0.size - (intOf vi).toNat)
  case atStart => exact ⟨0, Nat.zero_le _, rfl, HB0.out⟩
  case round =>
    clear HB0
    obtain ⟨i, hi, rfl, hbd⟩ := hrel
    obtain ⟨ao, co, rfl⟩ := owns_form hbd.1
    have HB := Lib.hid hbd
    obtain ⟨s0, s1⟩ := HBX1.out wr hbd.2
    clear hbd
    by_cases hlt : i < w0.size
    · have HXT := Lib.hid (stTo_next R w0 i)
      go_wp2_with fail
      generalize hW : wr = wr0 at *
      clear hW s0 s1
      go_loopw [5, 17] (fun vo vr wr => ∃ r : Nat, r ≤ R.length ∧ vr = .int .i64 (r : Nat) ∧ Bld 116 2 w1 wr vo (stTo R w0 i r).length (cellsL stV (stTo R w0 i r))) (fun _ vr _ => R.length - (intOf vr).toNat)
      case atStart => exact ⟨0, Nat.zero_le _, rfl, HB.out⟩
      case round =>
        clear HB
        obtain ⟨r, hr, rfl, hbd⟩ := hrel
        obtain ⟨a2, c2, rfl⟩ := owns_form hbd.1
        have HB := Lib.hid hbd
        have hsl := stTo_len R w0 i r
        have hil : i * R.length ≤ 16 * 12 := Nat.mul_le_mul (by omega) h12
        by_cases hlr : r < R.length
        · obtain ⟨b, off, rfl, hb, k0, k1⟩ := rule_at HL1.out hbd.2 hlr
          have hl8 := h8 r
          have hpos := HPOS.out r hlr
          have HY := Lib.hid (fun h => stTo_yes (R := R) (w := w0) (i := i) (k := r) h)
          have HN := Lib.hid (fun h => stTo_no (R := R) (w := w0) (i := i) (k := r) h)
          have HHP := Lib.hid (fun W => Tryz.strings_HasPrefix (w0.extract i w0.size) (nthR R r).1 W)
          rw [preAt_hp] at HHP
          have x3 : (i : Int) ≤ (w0.size : Int) := by omega
          have x4 : i ≤ w0.size := by omega
          clear hbd
          generalize (nthR R r).1 = l at *
          generalize (nthR R r).2 = q at *
          go_wp2_with fail
          have HB5 := Lib.hid (HB.out.later (alloc_belowS wr (.cells #[.string l, .string q] 39)))
          have hcb := alloc_at wr (.cells #[.string l, .string q] 39)
          have hc0 := (sys_cells hcb).1
          have HCB := Lib.hid hcb
          clear k0 k1 hcb
          generalize hg : wr.heap.size = g at *
          generalize wr.alloc (.cells #[.string l, .string q] 39) = w5 at *
          cases hp : preAt w0 i l
          · have HNX := Lib.hid (HN.out hp)
            rw [hp] at HHP
            clear hp HY HN
            generalize hX : stTo R w0 i r = X at *
            clear hX
            go_quiet ((go_at_call 134; refine (HHP.out _).mono ?_; rintro e w' ⟨rfl, rfl⟩; exact ⟨rfl, ⟨_, rfl⟩⟩))
            have HB6 := Lib.hid (HB5.out.later (below_drewN (Below.refl _ _) nq))
            go_wp2_with fail
            go_roundw
            case rel => exact ⟨r + 1, by omega, by go_num, by rw [HNX.out]; exact HB6.out⟩
            case measure => simp [intOf]; omega
          · have HNX := Lib.hid (HY.out hp)
            rw [hp] at HHP
            clear hp HY HN
            generalize hX : stTo R w0 i r = X at *
            clear hX
            go_quiet ((go_at_call 134; refine (HHP.out _).mono ?_; rintro e w' ⟨rfl, rfl⟩; exact ⟨rfl, ⟨_, rfl⟩⟩))
            have HB6 := Lib.hid (HB5.out.later (below_drewN (Below.refl _ _) nq))
            go_wp2_with (at_builtin; refine wpList_app1 rfl _ _ rfl Tryz.underlying170 Tryz.infoStep2 rfl (by decide) rfl HB6.out rfl ?c1 ?c2 ?c3 ?c4 ?c5)
            case c2 => intro u hu; simp at hu; rcases hu with rfl | rfl <;> rfl
            case c3 => unfold maxLen; omega
            case c4 => omega
            case c1 => rfl
            intro v4 w4 hb4
            have HB4 : Hid (Bld 116 2 w1 w4 v4 (stTo R w0 i (r + 1)).length (cellsL stV (stTo R w0 i (r + 1)))) := Lib.hid (by
              rw [HNX.out, List.length_append, cells_stV]; exact hb4)
            obtain ⟨a4, c4, hv4⟩ := owns_form HB4.out.1
            subst hv4
            clear hb4
            go_wp2_with fail
            go_roundw
            case rel => exact ⟨r + 1, by omega, by go_num, HB4.out⟩
            case measure => simp [intOf]; omega
        · obtain rfl : r = R.length := by omega
          have HB2 : Hid (Bld 116 2 w1 wr (.slice a2 (stTo R w0 i R.length).length c2) (stTo R w0 (i + 1) 0).length (cellsL stV (stTo R w0 (i + 1) 0))) := Lib.hid (by rw [← HXT.out]; exact HB.out)
          clear hbd
          go_wp2_with fail
          go_roundw
          case rel => exact ⟨i + 1, by omega, by go_num, HB2.out⟩
          case measure => simp [intOf]; omega
    · obtain rfl : i = w0.size := by omega
      have F : Hid (RetSl 116 2 (stepsF R w0).length (cellsL stV (stepsF R w0)) w (.returned (.slice ao (stTo R w0 w0.size 0).length co)) wr) := Lib.hid (by
        rw [stTo_done] at HB ⊢
        exact ((HB.out.since HW1.out).ret))
      go_wp2_with fail
      go_ret
      exact F.out
end Go.Proofs.YtgoeadgpbidgiaaGreatDoor
namespace Go.Proofs.YtgoeadgpbidgiaaGreatDoor
open Go.RowKit
set_option linter.unusedVariables false
theorem stTo_none {R : List RulD} {w : ByteArray} {i k : Nat} (h0 : stTo R w i k = []) (h : preAt w i (nthR R k).1 = false) : stTo R w i (k + 1) = [] := by rw [stTo_no h, h0]
set_option maxRecDepth 100000 in
set_option maxHeartbeats 2000000 in
theorem implFirstStep_any (k : Int) (R : List RulD) (a : Option Addr) (cap : Nat) (w0 : ByteArray) (w : World) (hl : RulesIn w a R) (hs : sysP k R) (hw : w0.size ≤ 16) :
    Calls Tryz.prog 88 #[.agg #[.int .i64 k, .slice a R.length cap], .string w0] w (RetFS R w0 w) := by
  have h12 : R.length ≤ 12 := hs.1.1.2
  have h8 := left8 hs
  have HL := Lib.hid hl
  have HA2 := Lib.hid (fun o o2 => Below.now (alloc_belowS w o) (alloc_belowS (w.alloc o) o2))
  have e1 : (w.alloc (.cells #[.int .i64 k, .slice a R.length cap] 33)).heap.size = w.heap.size + 1 := by simp
  have HBX := Lib.hid (fun W2 (h : Below ((w.alloc (.cells #[.int .i64 k, .slice a R.length cap] 33)).alloc (.cells #[.int .i64 0, .int .i64 0] 116)).heap.size ((w.alloc (.cells #[.int .i64 k, .slice a R.length cap] 33)).alloc (.cells #[.int .i64 0, .int .i64 0] 116)) W2) => And.intro (box_two (Below.now (alloc_belowS (w.alloc (.cells #[.int .i64 k, .slice a R.length cap] 33)) _) h)) (box_facts h))
  rw [e1] at HBX
  have HW1 : Hid (Below w.heap.size w ((w.alloc (.cells #[.int .i64 k, .slice a R.length cap] 33)).alloc (.cells #[.int .i64 0, .int .i64 0] 116))) := Lib.hid (HA2.out _ _)
  have HL1 := Lib.hid (HL.out.later HW1.out)
  clear hl hs e1
  go_enter Tryz.func88, Tryz.ntmps88
  go_wp2_with fail
  generalize (w.alloc (.cells #[.int .i64 k, .slice a R.length cap] 33)).alloc (.cells #[.int .i64 0, .int .i64 0] 116) = w1 at *
  go_loopw [11] (fun vi wr => ∃ i : Nat, i ≤ w0.size ∧ vi = .int .i64 (i : Nat) ∧ Hid (stTo R w0 i 0 = []) ∧ Below w1.heap.size w1 wr) (fun vi _ => w0.size - (intOf vi).toNat)
  case atStart => exact ⟨0, Nat.zero_le _, rfl, Lib.hid rfl, Below.refl _ _⟩
  case round =>
    obtain ⟨i, hi, rfl, HNO, hbw⟩ := hrel
    have HB := Lib.hid hbw
    obtain ⟨⟨s0, s1⟩, ⟨b0, b1⟩, f0, f1⟩ := HBX.out wr hbw
    clear hbw
    by_cases hlt : i < w0.size
    · have HXT := Lib.hid (stTo_next R w0 i)
      go_wp2_with fail
      generalize hW : wr = wr0 at *
      clear hW s0 s1 b0 b1 f0 f1
      go_loopw [17] (fun vr wr => ∃ r : Nat, r ≤ R.length ∧ vr = .int .i64 (r : Nat) ∧ Hid (stTo R w0 i r = []) ∧ Below w1.heap.size w1 wr) (fun vr _ => R.length - (intOf vr).toNat)
      case atStart => exact ⟨0, Nat.zero_le _, rfl, HNO, HB.out⟩
      case round =>
        clear HB HNO
        obtain ⟨r, hr, rfl, HNO, hbw⟩ := hrel
        by_cases hlr : r < R.length
        · obtain ⟨b, off, rfl, hb, k0, k1⟩ := rule_at HL1.out hbw hlr
          have hl8 := h8 r
          have HY := Lib.hid (fun h => first_at (R := R) (w := w0) (i := i) (k := r) hlt hlr HNO.out h)
          have HN := Lib.hid (fun h => stTo_none (R := R) (w := w0) (i := i) (k := r) HNO.out h)
          have HHP := Lib.hid (fun W => Tryz.strings_HasPrefix (w0.extract i w0.size) (nthR R r).1 W)
          rw [preAt_hp] at HHP
          have x3 : (i : Int) ≤ (w0.size : Int) := by omega
          have x4 : i ≤ w0.size := by omega
          have HB := Lib.hid hbw
          clear hbw
          generalize (nthR R r).1 = l at *
          generalize (nthR R r).2 = q at *
          go_wp2_with fail
          have HB5 := Lib.hid (Below.now HB.out (alloc_belowS wr (.cells #[.string l, .string q] 39)))
          have hcb := alloc_at wr (.cells #[.string l, .string q] 39)
          have hc0 := (sys_cells hcb).1
          clear k0 k1 hcb
          generalize hg : wr.heap.size = g at *
          generalize wr.alloc (.cells #[.string l, .string q] 39) = w5 at *
          cases hp : preAt w0 i l
          · have HNX := Lib.hid (HN.out hp)
            rw [hp] at HHP
            clear hp HY HN
            go_quiet ((go_at_call 134; refine (HHP.out _).mono ?_; rintro e w' ⟨rfl, rfl⟩; exact ⟨rfl, ⟨_, rfl⟩⟩))
            have HB6 := Lib.hid (Below.now HB5.out (below_drewN (Below.refl _ _) nq))
            go_wp2_with fail
            go_roundw
            case rel => exact ⟨r + 1, by omega, by go_num, HNX, HB6.out⟩
            case measure => simp [intOf]; omega
          · have HYX := Lib.hid (HY.out hp)
            rw [hp] at HHP
            clear hp HY HN
            go_quiet ((go_at_call 134; refine (HHP.out _).mono ?_; rintro e w' ⟨rfl, rfl⟩; exact ⟨rfl, ⟨_, rfl⟩⟩))
            have HB6 := Lib.hid (Below.now HB5.out (below_drewN (Below.refl _ _) nq))
            obtain ⟨_, ⟨b0, b1⟩, f0, f1⟩ := HBX.out _ HB6.out
            have HW6 := Lib.hid (Below.now HW1.out HB6.out)
            clear hc0
            go_wp2_with fail
            refine bodyPost_ret (v := .tuple #[.agg #[.int .i64 (r : Nat), .int .i64 (i : Nat)], .bool true]) ?_ rfl ?_
            · simp [results, Tryz.results88, go_sem, b0, b1]
            · exact ⟨(HW6.out.setCell (show w.heap.size ≤ w.heap.size + 1 by omega) _).setCell (show w.heap.size ≤ w.heap.size + 1 by omega) _, .inl ⟨(r, i), HYX.out, rfl⟩⟩
        · obtain rfl : r = R.length := by omega
          have HN2 : Hid (stTo R w0 (i + 1) 0 = []) := Lib.hid (by rw [← HXT.out]; exact HNO.out)
          go_wp2_with fail
          go_roundw
          case rel => exact ⟨i + 1, by omega, by go_num, HN2, hbw⟩
          case measure => simp [intOf]; omega
    · obtain rfl : i = w0.size := by omega
      have HHD : Hid ((stepsF R w0).head? = none) := Lib.hid (by rw [← stTo_done, HNO.out]; rfl)
      have HW6 := Lib.hid (Below.now HW1.out HB.out)
      go_wp2_with fail
      refine bodyPost_ret (v := .tuple #[.agg #[.int .i64 0, .int .i64 0], .bool false]) ?_ rfl ?_
      · simp [results, Tryz.results88, go_sem, b0, b1]
      · exact ⟨(HW6.out.setCell (show w.heap.size ≤ w.heap.size + 1 by omega) _).setCell (show w.heap.size ≤ w.heap.size + 1 by omega) _, .inr ⟨HHD.out, rfl⟩⟩
end Go.Proofs.YtgoeadgpbidgiaaGreatDoor
