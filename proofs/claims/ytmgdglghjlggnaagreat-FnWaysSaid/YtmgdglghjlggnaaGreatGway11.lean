/-
  Rows of structs in memory: the cells of a list of them.
-/
import Derived.Test.YtmgdglghjlggnaaGreatGway10
import Derived.Test.YtmgdglghjlggnaaGreatGway03
import Derived.Test.YtmgdglghjlggnaaGreatGway02
import Derived.Lib.SlBuf
import Derived.Test.YtmgdglghjlggnaaGreatGway06
import Derived.IntWalk
import Derived.Test.YtmgdglghjlggnaaGreatGway05
namespace Go.Proofs.YtmgdglghjlggnaaGreat
open Go.RowKit
set_option linter.unusedVariables false
theorem add_offR (b o j : Nat) : (⟨b, o, none⟩ : Addr).add j = ⟨b, o + j, none⟩ := by unfold Addr.add; split <;> simp_all
theorem size_of_info {P : Program} {e : TypeId} {z : Option Value} {s b : Nat} (h : (P.info? e).map (fun i => (i.zero, i.size, i.bytes)) = some (z, s, b)) : (P.info? e).map (·.size) = some s := by
  obtain ⟨i, hi, hz⟩ := Option.map_eq_some_iff.1 h
  rw [hi]
  simp only [Prod.mk.injEq] at hz
  simp [hz.2.1]
theorem FillK.got {w wr : World} {T : TypeId} {g n : Nat} {tgt : List Value} {c : Nat} (h : FillK w wr T 1 g n tgt c) {i : Nat} (hi : i < c) (hc : c ≤ n) : wr.cell? ⟨g, i, none⟩ = tgt[i]? := by
  obtain ⟨xs, ho, ht, hb, hg, hl⟩ := h
  have h1 := ho.1
  rw [ho.cellAt i (by omega)]
  have e : (xs.take c)[i]? = (tgt.take c)[i]? := by rw [ht]
  rw [List.getElem?_take, List.getElem?_take, if_pos hi, if_pos hi] at e
  exact e
theorem FillK.fills {w : World} {T : TypeId} {g n : Nat} {tgt : List Value} {u : Value} : ∀ (d c : Nat) (wr : World), FillK w wr T 1 g n tgt c → c + d ≤ n → (∀ i, c ≤ i → i < c + d → tgt[i]? = some u) → FillK w (wr.setCells g c (List.replicate d u)) T 1 g n tgt (c + d)
  | 0, c, wr, h, hc, hu => h
  | d + 1, c, wr, h, hc, hu => by
    rw [List.replicate_succ, World.setCells]
    have h2 := h.store (c := c) (by omega) (hu c (Nat.le_refl _) (by omega))
    have := FillK.fills d (c + 1) _ h2 (by omega) (fun i h1 h3 => hu i (by omega) (by omega))
    rw [show c + (d + 1) = c + 1 + d by omega]
    exact this
theorem rep_at {m i : Nat} (s : ByteArray) (h : i < m) : (strVals (List.replicate m s))[i]? = some (.string s) := by
  unfold strVals
  rw [List.map_replicate, List.getElem?_replicate, if_pos h]
set_option maxRecDepth 20000 in
set_option maxHeartbeats 4000000 in
theorem repeatS_any (s : ByteArray) (gx ox cx m : Nat) (w : World) (hx : w.cell? ⟨gx, ox, none⟩ = some (.string s)) (hm : 1 ≤ m) (hm2 : m ≤ 1000) :
    Calls Tryz.prog 53 #[.slice (some ⟨gx, ox, none⟩) 1 cx, .int .i64 (m : Nat)] w (RetSl 9 1 m (strVals (List.replicate m s)) w) := by
  have HMU : Hid (∀ W, Calls Tryz.prog 78 #[.int .u64 1, .int .u64 (m : Nat)] W fun e w' => e = .returned (.tuple #[.int .u64 0, .int .u64 (m : Nat)]) ∧ w' = W) := Lib.hid (fun W => by
    have h := Tryz.bits_Mul 1 m (by omega) (by omega) W
    rw [Nat.one_mul, Nat.div_eq_of_lt (by omega), Nat.mod_eq_of_lt (by omega)] at h
    exact h)
  have hmk := run_make_k (P := Tryz.prog) 52 9 _ 1 16 Tryz.underlying52 Tryz.infoStr .i64 .i64 m (by omega) (by omega)
  simp only [Nat.mul_one] at hmk
  have hlt : gx < w.heap.size := World.block_lt_of_cell? w _ hx
  have HF0 := Lib.hid (FillK.start w 9 (madeCells #[.string ⟨#[]⟩] m) 1 m (strVals (List.replicate m s)) (by rw [Nat.mul_one]; exact size_madeCells _ _) (by unfold maxLen; omega) (by simp [strVals]))
  have HTG : Hid (∀ i, i < m → (strVals (List.replicate m s))[i]? = some (.string s)) := Lib.hid (fun i hi => rep_at s hi)
  generalize strVals (List.replicate m s) = tgt at *
  have hx1 : (w.alloc (.cells (madeCells #[.string ⟨#[]⟩] m) 9)).cell? ⟨gx, ox, none⟩ = some (.string s) := by rw [((Below.refl w.heap.size w).alloc (Nat.le_refl _) _).cell hlt]; exact hx
  have HR1 : Hid (∀ ty, (Builtin.copy_ #[52, 52] ty #[.slice (some ⟨w.heap.size, 0, none⟩) m m, .slice (some ⟨gx, ox, none⟩) 1 cx]).run Tryz.prog (w.alloc (.cells (madeCells #[.string ⟨#[]⟩] m) 9)) = .ok (.int .i64 1) ((w.alloc (.cells (madeCells #[.string ⟨#[]⟩] m) 9)).setCell ⟨w.heap.size, 0, none⟩ (.string s))) := Lib.hid (fun ty => by
    refine run_copy_cells (P := Tryz.prog) _ _ _ _ 9 w.heap.size 0 m m ⟨gx, ox, none⟩ 1 cx [.string s] Tryz.underlying52 (size_of_info Tryz.infoStr) (Nat.min_eq_left hm).symm (fun j v hj => ?_) (fun j hj => ?_) (fun j hj => ?_) (fun v hv => ?_)
    · match j with
      | 0 => obtain rfl := Option.some.inj hj; rw [add_offR, Nat.add_zero]; exact hx1
      | j + 1 => cases hj
    · obtain rfl : j = 0 := by simpa using hj
      obtain ⟨v, hv⟩ := HF0.out.cell (i := 0) (by omega)
      rw [hv]; rfl
    · exact HF0.out.frozen _
    · rw [List.mem_singleton.1 hv]; rfl)
  have HF1 := Lib.hid (HF0.out.store (c := 0) (by omega) (HTG.out 0 (by omega)))
  clear HF0
  generalize (w.alloc (.cells (madeCells #[.string ⟨#[]⟩] m) 9)).setCell ⟨w.heap.size, 0, none⟩ (.string s) = w1 at HR1 HF1
  have hu1 : IntKind.u64.wrap 1 = 1 := by decide
  go_enter Tryz.func53, Tryz.ntmps53
  go_wp2_with fail
  refine (HMU.out _).mono ?_
  rintro e wx ⟨rfl, hwx⟩
  rw [hwx]
  clear hwx
  have hr1 := HR1.out 3
  go_wp2_with fail
  clear hmk hx1 HR1 hx hr1
  generalize hg : w.heap.size = g at *
  have HGS := Lib.hid hg
  clear hg
  go_loopw [8] (fun i wr => ∃ j : Nat, (1 ≤ j ∧ j ≤ m) ∧ i = .int .i64 (j : Nat) ∧ Hid (FillK w wr 9 1 g m tgt j)) (fun i _ => m - (intOf i).toNat)
  case atStart => exact ⟨1, ⟨Nat.le_refl _, hm⟩, rfl, HF1⟩
  case round =>
    clear HF1
    obtain ⟨j, ⟨hj1, hj⟩, rfl, HF⟩ := hrel
    by_cases hlt2 : j < m
    · obtain ⟨d, hd⟩ : ∃ d, d = Nat.min j (m - j) := ⟨_, rfl⟩
      have hd2 : 1 ≤ d ∧ d ≤ j ∧ j + d ≤ m := by
        rcases Nat.le_total j (m - j) with h | h
        · have e : d = j := hd.trans (Nat.min_eq_left h)
          omega
        · have e : d = m - j := hd.trans (Nat.min_eq_right h)
          omega
      have HR2 : Hid (∀ W, Below wr.heap.size wr W → ∀ ty, (Builtin.copy_ #[52, 52] ty #[.slice (some ⟨g, j, none⟩) (m - j) (m - j), .slice (some ⟨g, 0, none⟩) j m]).run Tryz.prog W = .ok (.int .i64 (d : Nat)) (W.setCells g j (List.replicate d (.string s)))) := Lib.hid (fun W hW ty => by
        have HFW := HF.out.later hW
        have := run_copy_cells (P := Tryz.prog) W 52 52 ty 9 g j (m - j) (m - j) ⟨g, 0, none⟩ j m (List.replicate d (.string s)) Tryz.underlying52 (size_of_info Tryz.infoStr) (by rw [List.length_replicate]; exact hd) (fun i v hi => by
          rw [List.getElem?_replicate] at hi
          split at hi
          · obtain rfl := Option.some.inj hi
            rw [add_offR, Nat.zero_add, HFW.got (by omega) (by omega)]
            exact HTG.out i (by omega)
          · cases hi) (fun i hi => by
          rw [List.length_replicate] at hi
          obtain ⟨v, hv⟩ := HFW.cell (i := j + i) (by omega)
          rw [hv]; rfl) (fun i hi => HFW.frozen _) (fun v hv => by rw [(List.mem_replicate.1 hv).2]; rfl)
        rw [List.length_replicate] at this
        exact this)
      have HF2 : Hid (∀ W, Below wr.heap.size wr W → FillK w (W.setCells g j (List.replicate d (.string s))) 9 1 g m tgt (j + d)) := Lib.hid (fun W hW => FillK.fills d j W (HF.out.later hW) hd2.2.2 (fun i h1 h2 => HTG.out i (by omega)))
      have hmj : ¬ m = j := by omega
      have hmjI : ¬ (m : Int) = (j : Int) := by omega
      have hsub : (m : Int) - (j : Int) = ((m - j : Nat) : Int) := by omega
      clear hd
      go_wp2_with fail
      have HF3 := Lib.hid (HF2.out wr.drew (Below.drew (Below.refl _ _)))
      have hr2 := HR2.out wr.drew (Below.drew (Below.refl _ _)) 3
      generalize wr.drew.setCells g j (List.replicate d (.string s)) = w5 at *
      go_region
      go_wp2_with fail
      go_roundw
      case rel => exact ⟨j + d, ⟨by omega, by omega⟩, by go_num, HF3⟩
      case measure => simp [intOf]; omega
    · obtain rfl : j = m := by omega
      have HD := Lib.hid (HF.out.done (by omega))
      go_wp2_with fail
      go_ret
      exact HD.out
end Go.Proofs.YtmgdglghjlggnaaGreat
namespace Go.Proofs.YtmgdglghjlggnaaGreat
open Go.RowKit
set_option linter.unusedVariables false
/-- what is laid of a byte of a word ahead of the walk -/
theorem byte_facts {zn : List Nat} {w : ByteArray} (hw : letIn zn w) {j : Nat} (h : j < w.size) : ∃ q : Nat, q < zn.length ∧ imN zn w[j] = zn.getD q 0 ∧ (w[j].toNat : Int) = 97 + (q : Int) := by
  obtain ⟨h1, h2⟩ := letIn_at hw h
  exact ⟨w[j].toNat - 97, h2, rfl, by omega⟩
theorem img_cell {zn : List Nat} {W : World} {az : Option Addr} (hz : NatsIn W az zn) {q : Nat} (hq : q < zn.length) : ∃ b off, az = some ⟨b, off, none⟩ ∧ W.cell? ⟨b, off + q, none⟩ = some (.int .i64 ((zn.getD q 0 : Nat) : Int)) := by
  obtain ⟨b, off, ha, hc⟩ := nats_cell hz hq
  refine ⟨b, off, ha, ?_⟩
  rw [hc W (Below.refl _ _)]
  simp [List.getD_eq_getElem?_getD, hq]
end Go.Proofs.YtmgdglghjlggnaaGreat
namespace Go.Proofs.YtmgdglghjlggnaaGreat
open Go.RowKit
set_option linter.unusedVariables false
end Go.Proofs.YtmgdglghjlggnaaGreat
namespace Go.Proofs.YtmgdglghjlggnaaGreat
open Go.RowKit
set_option linter.unusedVariables false
set_option maxHeartbeats 1000000 in
theorem implValue_any (m : Nat) (ln zn : List Nat) (a : Option Addr) (len cap : Nat) (az : Option Addr) (cz : Nat) (v : ByteArray) (w : World) (hl : NatsIn w a ln) (hT : Tb m ln) (hlen : len = m * m) (hz : NatsIn w az zn) (hzm : ∀ x ∈ zn, x < m) (hw : letIn zn v) (hv : v.size ≤ 1000) :
    Calls Tryz.prog 38 #[.agg #[.int .i64 m, .slice a len cap], .slice az zn.length cz, .string v] w fun e w' => e = .returned (.int .i64 (valF m ln zn v : Nat)) ∧ Below w.heap.size w w' := by
  have hm := hT.hi
  have HT := Lib.hid hT
  have HL := Lib.hid hlen
  have HM := Lib.hid hzm
  have HW := Lib.hid hw
  have hb1 := (Below.refl w.heap.size w).alloc (Nat.le_refl _) (.cells #[.int .i64 (m : Nat), .slice a len cap] 25)
  have HX : Hid (∀ W, Below (w.alloc (.cells #[.int .i64 (m : Nat), .slice a len cap] 25)).heap.size (w.alloc (.cells #[.int .i64 (m : Nat), .slice a len cap] 25)) W → W.cell? ⟨w.heap.size, 0, none⟩ = some (.int .i64 (m : Nat)) ∧ W.cell? ⟨w.heap.size, 1, none⟩ = some (.slice a len cap)) := Lib.hid (fun W hW => ⟨by rw [hW.cell (by simp)]; simp, by rw [hW.cell (by simp)]; simp⟩)
  have HB := Lib.hid hb1
  have HN := Lib.hid (hl.later hb1)
  have HZ := Lib.hid (hz.later hb1)
  clear hl hT hlen hb1 hz hzm hw
  go_enter Tryz.func38, Tryz.ntmps38
  go_wp2_with fail
  generalize w.alloc (.cells #[.int .i64 (m : Nat), .slice a len cap] 25) = w1 at *
  go_loopw [7, 11] (fun x i wr => ∃ j : Nat, j ≤ v.size ∧ i = .int .i64 j ∧ x = .int .i64 (valTo m ln zn v j : Nat) ∧ Hid (Below w1.heap.size w1 wr)) (fun _ i _ => v.size - (intOf i).toNat)
  case atStart => exact ⟨0, Nat.zero_le _, rfl, by rw [valTo_zero]; rfl, Lib.hid (Below.refl _ _)⟩
  case round =>
    obtain ⟨j, hj, rfl, rfl, HWR⟩ := hrel
    by_cases hlt : j < v.size
    · have hb := byte_lt v[j]
      obtain ⟨q, hq, hi, hc⟩ := byte_facts HW.out hlt
      obtain ⟨bz, oz, rfl, hcz⟩ := img_cell (HZ.out.later HWR.out) hq
      have hx := valTo_lt HT.out HM.out HW.out j hj
      have hy : zn.getD q 0 < m := by rw [← hi]; exact imN_lt HM.out (letIn_at HW.out hlt).2
      have HS : Hid (valTo m ln zn v (j + 1) = tm m ln (valTo m ln zn v j) (zn.getD q 0)) := Lib.hid (by rw [valTo_succ hlt, hi])
      obtain ⟨z0, z1⟩ := HX.out wr HWR.out
      have k0 : ∀ x, (wide wr x).cell? ⟨w.heap.size, 0, none⟩ = some (.int .i64 (m : Nat)) := wide_cell z0
      have k1 : ∀ x, (wide wr x).cell? ⟨w.heap.size, 1, none⟩ = some (.slice a len cap) := wide_cell z1
      have k2 : ∀ x, (wide wr x).cell? ⟨bz, oz + q, none⟩ = some (.int .i64 ((zn.getD q 0 : Nat) : Int)) := wide_cell hcz
      have HNW : Hid (∀ x, NatsIn (wide wr x) a ln) := Lib.hid (fun x => (HN.out.later HWR.out).later (below_wide _ _))
      clear hi hcz z0 z1
      generalize valTo m ln zn v j = v1 at *
      generalize zn.getD q 0 = y at *
      have hq2 : (v[j].toNat : Int) - 97 = (q : Int) := by omega
      have hge : (97 : Int) ≤ (v[j].toNat : Int) := by omega
      have hq5 : (q : Int) ≤ 255 := by omega
      have hwq : IntKind.u8.wrap (q : Int) = (q : Int) := IntWalk.u8_in _ ⟨by omega, by omega⟩
      clear hc
      go_wp2_with fail
      refine region_wide (by kernel_rfl) (by kernel_rfl) ?_
      repeat (quiet_step ((go_at_call 43; refine (implTimes_any m ln a _ _ _ _ _ (HNW.out _) HT.out HL.out (by assumption) (by assumption)).mono ?_; rintro e w2 ⟨rfl, hb2⟩; exact ⟨rfl, wide_next hb2⟩)))
      refine wpQuiet_nil ?_
      rintro w4 ⟨x4, rfl⟩
      have HW4 := Lib.hid (Below.now HWR.out (below_wide wr x4))
      clear k0 k1 k2 hwq hb hge hq5 hq2
      go_wp2_with fail
      go_roundw
      case rel => exact ⟨j + 1, by omega, by go_num, by rw [HS.out], HW4⟩
      case measure => simp [intOf]; omega
    · have F := Lib.hid (valTo_full (m := m) (ln := ln) (zn := zn) hlt hj)
      rw [F.out]
      go_wp2_with fail
      go_ret
      exact ⟨rfl, Below.now HB.out HWR.out⟩
set_option maxHeartbeats 1000000 in
theorem implImagesOk_any (n : Int) (l : List Int) (a : Option Addr) (cap : Nat) (z : List Int) (az : Option Addr) (cz : Nat) (w : World) (hl : IntsIn w a l) (hlen : l.length ≤ 2 ^ 47) (hz : IntsIn w az z) (hzl : z.length ≤ 2 ^ 47) :
    Calls Tryz.prog 24 #[.agg #[.int .i64 n, .slice a l.length cap], .slice az z.length cz] w fun e w' => e = .returned (.bool (imgB n l z)) ∧ Below w.heap.size w w' := by
  have HTO := Lib.hid (fun W (h : IntsIn W a l) => implTableOk_any n l a cap W h hlen)
  have HIN := Lib.hid (fun W => within_any (z.length : Int) 1 4 W)
  have hb1 := (Below.refl w.heap.size w).alloc (Nat.le_refl _) (.cells #[.int .i64 n, .slice a l.length cap] 25)
  have HX : Hid (∀ W, Below (w.alloc (.cells #[.int .i64 n, .slice a l.length cap] 25)).heap.size (w.alloc (.cells #[.int .i64 n, .slice a l.length cap] 25)) W → W.cell? ⟨w.heap.size, 0, none⟩ = some (.int .i64 n)) := Lib.hid (fun W hW => by rw [hW.cell (by simp)]; simp)
  have HB := Lib.hid hb1
  have HL := Lib.hid (hl.later hb1)
  have HZ := Lib.hid (hz.later hb1)
  clear hl hz hb1
  cases ht : tabB n l
  · have F := Lib.hid (imgB_no1 (z := z) ht)
    rw [ht] at HTO
    clear ht
    go_enter Tryz.func24, Tryz.ntmps24
    go_wp2_with fail
    refine (HTO.out _ HL.out).mono ?_
    rintro e w2 ⟨rfl, hb2⟩
    go_wp2_with fail
    go_ret
    exact ⟨ret_bool F.out.symm, Below.now HB.out hb2⟩
  cases hk : inB (z.length : Int) 1 4
  · have F := Lib.hid (imgB_no2 (n := n) (l := l) hk)
    rw [ht] at HTO
    rw [hk] at HIN
    clear ht hk
    go_enter Tryz.func24, Tryz.ntmps24
    go_wp2_with fail
    refine (HTO.out _ HL.out).mono ?_
    rintro e w2 ⟨rfl, hb2⟩
    have HB2 := Lib.hid (Below.now HB.out hb2)
    clear hb2
    go_wp2_with fail
    refine (HIN.out _).mono ?_
    rintro e w3 ⟨rfl, rfl⟩
    go_wp2_with fail
    go_ret
    exact ⟨ret_bool F.out.symm, HB2.out⟩
  have F := Lib.hid (imgB_yes (z := z) ht hk)
  have ⟨hn1, hn2⟩ : 1 ≤ n ∧ n ≤ 40 := by
    obtain ⟨m, ln, rfl, rfl, hT⟩ := tabOk_out ht
    have := hT.lo; have := hT.hi
    omega
  have HAW := Lib.hid (fun W (h : IntsIn W az z) => allWithin_any 0 (n - 1) z az cz W h hzl)
  have HE : Hid ((z.all fun x => inB x 0 (n - 1)) = imgB n l z) := Lib.hid (by rw [F.out]; rfl)
  rw [HE.out] at HAW
  rw [ht] at HTO
  rw [hk] at HIN
  clear ht hk HE
  generalize imgB n l z = bb at *
  go_enter Tryz.func24, Tryz.ntmps24
  go_wp2_with fail
  generalize w.alloc (.cells #[.int .i64 n, .slice a l.length cap] 25) = w1 at *
  refine (HTO.out _ HL.out).mono ?_
  rintro e w2 ⟨rfl, hb2⟩
  have HB2 := Lib.hid hb2
  have z0 := HX.out _ hb2
  clear hb2
  go_wp2_with fail
  refine (HIN.out _).mono ?_
  rintro e w3 ⟨rfl, rfl⟩
  go_wp2_with fail
  refine (HAW.out _ (HZ.out.later HB2.out)).mono ?_
  rintro e w4 ⟨rfl, hb4⟩
  have HB4 := Lib.hid (Below.now HB.out (Below.now HB2.out hb4))
  clear hb4 z0
  go_wp2_with fail
  go_ret
  exact ⟨rfl, HB4.out⟩
end Go.Proofs.YtmgdglghjlggnaaGreat
namespace Go.Proofs.YtmgdglghjlggnaaGreat
open Go.RowKit
set_option linter.unusedVariables false
/-- the places of a part among the first j ones -/
def placeTo (w l : ByteArray) (j : Nat) : List Nat := (List.range j).filter fun i => preAt w i l
def placesF (w l : ByteArray) : List Nat := placeTo w l w.size
theorem placeTo_yes {w l : ByteArray} {j : Nat} (h : preAt w j l = true) : placeTo w l (j + 1) = placeTo w l j ++ [j] := by
  unfold placeTo; rw [List.range_succ, List.filter_append]; simp [h]
theorem placeTo_no {w l : ByteArray} {j : Nat} (h : preAt w j l = false) : placeTo w l (j + 1) = placeTo w l j := by
  unfold placeTo; rw [List.range_succ, List.filter_append]; simp [h]
theorem placeTo_len (w l : ByteArray) (j : Nat) : (placeTo w l j).length ≤ j := by
  unfold placeTo
  have := List.length_filter_le (fun i => preAt w i l) (List.range j)
  simpa using this
/-- beyond the last place where it fits there is none -/
theorem placeTo_end {w l : ByteArray} (hl : 0 < l.size) {j : Nat} (h : w.size < j + l.size) (hj : j ≤ w.size) : placeTo w l j = placesF w l := by
  unfold placesF placeTo
  obtain ⟨d, hd⟩ := Nat.exists_eq_add_of_le hj
  rw [hd, List.range_add, List.filter_append]
  have : (List.map (fun x => j + x) (List.range d)).filter (fun i => preAt w i l) = [] := by
    rw [List.filter_eq_nil_iff]
    intro i hi hp
    obtain ⟨x, _, rfl⟩ := List.mem_map.1 hi
    have := preAt_fits hp hl
    omega
  rw [this, List.append_nil]
theorem mem_places {w l : ByteArray} {i : Nat} : i ∈ placesF w l ↔ i < w.size ∧ preAt w i l = true := by
  unfold placesF placeTo
  rw [List.mem_filter, List.mem_range]
/-- the end of u of n letters is the beginning of v -/
def ovAt (u v : ByteArray) (n : Nat) : Bool := u.data.toList.drop (u.size - n) == v.data.toList.take n
/-- the overlaps of less than j letters -/
def overTo (u v : ByteArray) (j : Nat) : List Nat := (List.range j).filter fun n => decide (0 < n) && ovAt u v n
def overF (u v : ByteArray) : List Nat := overTo u v (min u.size v.size)
theorem overTo_yes {u v : ByteArray} {j : Nat} (h0 : 0 < j) (h : ovAt u v j = true) : overTo u v (j + 1) = overTo u v j ++ [j] := by
  unfold overTo; rw [List.range_succ, List.filter_append]; simp [h, h0]
theorem overTo_no {u v : ByteArray} {j : Nat} (h : ovAt u v j = false) : overTo u v (j + 1) = overTo u v j := by
  unfold overTo; rw [List.range_succ, List.filter_append]; simp [h]
theorem overTo_len (u v : ByteArray) (j : Nat) : (overTo u v j).length ≤ j := by
  unfold overTo
  have := List.length_filter_le (fun n => decide (0 < n) && ovAt u v n) (List.range j)
  simpa using this
theorem mem_over {u v : ByteArray} {n : Nat} : n ∈ overF u v ↔ (n < u.size ∧ n < v.size) ∧ 0 < n ∧ ovAt u v n = true := by
  unfold overF overTo
  rw [List.mem_filter, List.mem_range, Bool.and_eq_true, decide_eq_true_eq]
  constructor
  · rintro ⟨h1, h2, h3⟩; exact ⟨by omega, h2, h3⟩
  · rintro ⟨h1, h2, h3⟩; exact ⟨by omega, h2, h3⟩
/-- a pair: its word, its rules, the place of the second one -/
abbrev PairD := ByteArray × Nat × Nat × Nat
/-- one rule inside of another one -/
def inP (R : List RulD) (i j p : Nat) : PairD := ((nthR R i).1, i, j, p)
def inF (R : List RulD) (i j : Nat) : List PairD := if i = j then [] else (placesF (nthR R i).1 (nthR R j).1).map (inP R i j)
/-- the end of one the beginning of another one -/
def acP (R : List RulD) (i j n : Nat) : PairD := ((nthR R i).1 ++ (nthR R j).1.extract n (nthR R j).1.size, i, j, (nthR R i).1.size - n)
def acF (R : List RulD) (i j : Nat) : List PairD := (overF (nthR R i).1 (nthR R j).1).map (acP R i j)
/-- the pairs of a rule with the first j ones -/
def pairAt (R : List RulD) (i j : Nat) : List PairD := (List.range j).flatMap fun b => inF R i b ++ acF R i b
/-- the pairs of the first i rules, and of the rule i with the first j ones -/
def pairTo (R : List RulD) (i j : Nat) : List PairD := ((List.range i).flatMap fun a => pairAt R a R.length) ++ pairAt R i j
def pairsF (R : List RulD) : List PairD := (List.range R.length).flatMap fun a => pairAt R a R.length
theorem pairTo_step (R : List RulD) (i j : Nat) : pairTo R i (j + 1) = pairTo R i j ++ (inF R i j ++ acF R i j) := by
  unfold pairTo pairAt
  rw [List.range_succ, List.flatMap_append, List.append_assoc]
  simp
theorem pairTo_next (R : List RulD) (i : Nat) : pairTo R i R.length = pairTo R (i + 1) 0 := by
  unfold pairTo
  rw [List.range_succ, List.flatMap_append]
  simp [pairAt]
theorem pairTo_done (R : List RulD) : pairTo R R.length 0 = pairsF R := by
  unfold pairTo pairsF
  simp [pairAt]
theorem flat_len {α : Type} (f : Nat → List α) (c : Nat) (h : ∀ i, (f i).length ≤ c) : ∀ n, ((List.range n).flatMap f).length ≤ n * c
  | 0 => by simp
  | n + 1 => by
    have ih := flat_len f c h n
    have h1 := h n
    rw [List.range_succ, List.flatMap_append, List.length_append, Nat.succ_mul]
    simp only [List.flatMap_cons, List.flatMap_nil, List.append_nil]
    omega
theorem inF_len {R : List RulD} (h8 : ∀ r, (nthR R r).1.size ≤ 8) (i j : Nat) : (inF R i j).length ≤ 8 := by
  unfold inF
  split
  · simp
  · rw [List.length_map]
    exact Nat.le_trans (placeTo_len _ _ _) (h8 i)
theorem acF_len {R : List RulD} (h8 : ∀ r, (nthR R r).1.size ≤ 8) (i j : Nat) : (acF R i j).length ≤ 8 := by
  unfold acF
  rw [List.length_map]
  have h1 := overTo_len (nthR R i).1 (nthR R j).1 (min (nthR R i).1.size (nthR R j).1.size)
  have h2 := h8 i
  unfold overF
  omega
theorem pairAt_len {R : List RulD} (h8 : ∀ r, (nthR R r).1.size ≤ 8) (i j : Nat) : (pairAt R i j).length ≤ j * 16 :=
  flat_len _ 16 (fun b => by rw [List.length_append]; have := inF_len h8 i b; have := acF_len h8 i b; omega) j
theorem pairTo_len {R : List RulD} (h8 : ∀ r, (nthR R r).1.size ≤ 8) (hR : R.length ≤ 12) {i j : Nat} (hi : i ≤ 12) (hj : j ≤ 12) : (pairTo R i j).length ≤ 2496 := by
  unfold pairTo
  rw [List.length_append]
  have h1 := flat_len (fun a => pairAt R a R.length) 192 (fun a => by have := pairAt_len h8 a R.length; omega) i
  have h2 := pairAt_len h8 i j
  omega
/-- both steps of a pair can be made -/
structure PairOk (R : List RulD) (k : Int) (p : PairD) : Prop where
  one : (p.2.1, 0) ∈ stepsF R p.1
  two : (p.2.2.1, p.2.2.2) ∈ stepsF R p.1
  word : wordOkB k p.1 = true
theorem nthR_dflt {R : List RulD} {r : Nat} (h : ¬ r < R.length) : nthR R r = (⟨#[]⟩, ⟨#[]⟩) := by
  unfold nthR; rw [List.getD_eq_getElem?_getD, List.getElem?_eq_none (by omega)]; rfl
theorem left8 {k : Int} {R : List RulD} (hs : sysP k R) (r : Nat) : (nthR R r).1.size ≤ 8 := by
  by_cases h : r < R.length
  · exact (hs.1.2 _ (nthR_mem h)).1.2.1
  · rw [nthR_dflt h]; exact Nat.zero_le _
theorem preAt_zero (w : ByteArray) : preAt w 0 w = true := by
  unfold preAt; rw [List.drop_zero, List.isPrefixOf_iff_prefix]; exact List.prefix_refl _
theorem pairOk {k : Int} {R : List RulD} (hs : sysP k R) {p : PairD} (hp : p ∈ pairsF R) : PairOk R k p := by
  unfold pairsF pairAt at hp
  simp only [List.mem_flatMap, List.mem_range] at hp
  obtain ⟨i, hi, j, hj, hp⟩ := hp
  have ri := hs.1.2 _ (nthR_mem hi)
  have rj := hs.1.2 _ (nthR_mem hj)
  have wi := ri.1.1.1
  have wj := rj.1.1.1
  have zi := ri.2
  have zj := rj.2
  rcases List.mem_append.1 hp with hp | hp
  · unfold inF at hp
    split at hp
    · cases hp
    · obtain ⟨q, hq, rfl⟩ := List.mem_map.1 hp
      obtain ⟨h1, h2⟩ := mem_places.1 hq
      exact ⟨mem_stepsF.2 ⟨by show 0 < (nthR R i).1.size; omega, hi, preAt_zero _⟩, mem_stepsF.2 ⟨h1, hj, h2⟩, wi⟩
  · obtain ⟨n, hn, rfl⟩ := List.mem_map.1 hp
    obtain ⟨⟨h1, h2⟩, h3, h4⟩ := mem_over.1 hn
    have e1 : ((nthR R i).1 ++ (nthR R j).1.extract n (nthR R j).1.size).data.toList = (nthR R i).1.data.toList ++ (nthR R j).1.data.toList.drop n := by
      rw [ByteArray.data_append, Array.toList_append, extract_lt]
      have h : (nthR R j).1.data.toList.length = (nthR R j).1.size := rfl
      rw [List.take_of_length_le (Nat.le_of_eq h)]
    have e2 : ((nthR R i).1 ++ (nthR R j).1.extract n (nthR R j).1.size).size = (nthR R i).1.size + ((nthR R j).1.size - n) := by
      rw [ByteArray.size_append, ByteArray.size_extract]; omega
    have hli : (nthR R i).1.data.toList.length = (nthR R i).1.size := rfl
    unfold ovAt at h4
    rw [beq_iff_eq] at h4
    refine ⟨mem_stepsF.2 ⟨?_, hi, ?_⟩, mem_stepsF.2 ⟨?_, hj, ?_⟩, ?_⟩
    · show 0 < _
      show 0 < ((nthR R i).1 ++ (nthR R j).1.extract n (nthR R j).1.size).size
      rw [e2]; omega
    · show preAt ((nthR R i).1 ++ (nthR R j).1.extract n (nthR R j).1.size) 0 (nthR R i).1 = true
      unfold preAt
      rw [List.drop_zero, e1, List.isPrefixOf_iff_prefix]
      exact List.prefix_append _ _
    · show (nthR R i).1.size - n < ((nthR R i).1 ++ (nthR R j).1.extract n (nthR R j).1.size).size
      rw [e2]; omega
    · show preAt ((nthR R i).1 ++ (nthR R j).1.extract n (nthR R j).1.size) ((nthR R i).1.size - n) (nthR R j).1 = true
      unfold preAt
      rw [e1, List.isPrefixOf_iff_prefix, List.drop_append_of_le_length (by omega), h4, List.take_append_drop]
      exact List.prefix_refl _
    · obtain ⟨a1, a2, a3⟩ := wordOk_iff.1 wi
      obtain ⟨_, _, b3⟩ := wordOk_iff.1 wj
      refine wordOk_iff.2 ⟨a1, ?_, ?_⟩
      · show ((nthR R i).1 ++ (nthR R j).1.extract n (nthR R j).1.size).size ≤ 16
        have := ri.1.2.1; have := rj.1.2.1
        rw [e2]; omega
      · show okLt k ((nthR R i).1 ++ (nthR R j).1.extract n (nthR R j).1.size).data.toList
        rw [e1]
        intro y hy
        rcases List.mem_append.1 hy with hy | hy
        · exact a3 y hy
        · exact b3 y ((List.drop_sublist _ _).subset hy)
def leftP (R : List RulD) (p : PairD) : ByteArray := applyF R p.1 (p.2.1, 0)
def rightP (R : List RulD) (p : PairD) : ByteArray := applyF R p.1 (p.2.2.1, p.2.2.2)
/-- both sides of a pair have one normal form -/
def Joined (R : List RulD) (p : PairD) : Prop := ∃ x, NormIs R (leftP R p) x ∧ NormIs R (rightP R p) x
open Classical in
/-- the open ones among pairs -/
noncomputable def openL (R : List RulD) (l : List PairD) : List PairD := l.filter fun p => !decide (Joined R p)
noncomputable def openF (R : List RulD) : List PairD := openL R (pairsF R)
theorem openL_app (R : List RulD) (l m : List PairD) : openL R (l ++ m) = openL R l ++ openL R m := by unfold openL; rw [List.filter_append]
theorem openL_yes {R : List RulD} {p : PairD} (h : Joined R p) : openL R [p] = [] := by
  classical
  unfold openL
  simp [h]
theorem openL_no {R : List RulD} {p : PairD} (h : ¬ Joined R p) : openL R [p] = [p] := by
  classical
  unfold openL
  simp [h]
end Go.Proofs.YtmgdglghjlggnaaGreat
namespace Go.Proofs.YtmgdglghjlggnaaGreat
open Go.RowKit
set_option linter.unusedVariables false
/-- the cells of a list of structs -/
def cellsL {α : Type} (f : α → List Value) (l : List α) : List Value := l.flatMap f
theorem cellsL_app {α : Type} (f : α → List Value) (l m : List α) : cellsL f (l ++ m) = cellsL f l ++ cellsL f m := by simp [cellsL]
theorem cellsL_one {α : Type} (f : α → List Value) (x : α) : cellsL f [x] = f x := by simp [cellsL]
theorem cellsL_len {α : Type} {f : α → List Value} {m : Nat} (hf : ∀ x, (f x).length = m) : ∀ l : List α, (cellsL f l).length = l.length * m
  | [] => by simp [cellsL]
  | x :: l => by
    have ih := cellsL_len hf l
    unfold cellsL at *
    rw [List.flatMap_cons, List.length_append, hf, ih, List.length_cons, Nat.succ_mul]
    omega
theorem cellsL_at {α : Type} {f : α → List Value} {m : Nat} (hf : ∀ x, (f x).length = m) : ∀ (l : List α) (j : Nat) (hj : j < l.length) (i : Nat), i < m → (cellsL f l)[j * m + i]? = (f l[j])[i]?
  | [], j, hj, _, _ => by simp at hj
  | x :: l, 0, _, i, hi => by
    unfold cellsL
    rw [List.flatMap_cons, List.getElem?_append_left (by rw [hf]; omega)]
    simp
  | x :: l, j + 1, hj, i, hi => by
    have ih := cellsL_at hf l j (by simpa using hj) i hi
    unfold cellsL at *
    rw [List.flatMap_cons, List.getElem?_append_right (by rw [hf, Nat.succ_mul]; omega), hf]
    rw [show (j + 1) * m + i - m = j * m + i by rw [Nat.succ_mul]; omega, ih]
    rfl
/-- a row of structs -/
def RowsIn {α : Type} (f : α → List Value) (w : World) (a : Option Addr) (l : List α) : Prop := CellsIn w a (cellsL f l)
theorem RowsIn.later {α : Type} {f : α → List Value} {w w' : World} {a : Option Addr} {l : List α} (h : RowsIn f w a l) (hb : Below w.heap.size w w') : RowsIn f w' a l := CellsIn.later h hb
theorem owns_rows {α : Type} {f : α → List Value} {w : World} {base : Nat} {T : TypeId} {size : Nat} {a : Option Addr} {n m cap : Nat} {l : List α} (h : w.ownsRow base T size (.slice a m cap) n (cellsL f l)) : RowsIn f w a l := owns_cells h
theorem RowsIn.cell {α : Type} {f : α → List Value} {m : Nat} (hf : ∀ x, (f x).length = m) (hm : 0 < m) {w : World} {a : Option Addr} {l : List α} (h : RowsIn f w a l) {i : Nat} (hi : i < l.length) :
    ∃ b off, a = some ⟨b, off, none⟩ ∧ b < w.heap.size ∧ ∀ j (hj : j < l.length) c v, (f l[j])[c]? = some v → w.cell? ⟨b, off + j * m + c, none⟩ = some v := by
  have hlen := cellsL_len hf l
  rcases h with h | ⟨b, off, ha, hc⟩
  · rw [h, List.length_nil] at hlen
    have : l.length * m ≠ 0 := Nat.mul_ne_zero (by omega) (by omega)
    omega
  · have key : ∀ j (hj : j < l.length) c v, (f l[j])[c]? = some v → w.cell? ⟨b, off + j * m + c, none⟩ = some v := fun j hj c v hv => by
      have hcm : c < m := by rw [← hf l[j]]; exact (List.getElem?_eq_some_iff.1 hv).1
      have h1 := cellsL_at hf l j hj c hcm
      rw [hv] at h1
      obtain ⟨h2, h3⟩ := List.getElem?_eq_some_iff.1 h1
      have h4 := hc (j * m + c) h2
      rw [h3] at h4
      rw [Nat.add_assoc]
      exact h4
    refine ⟨b, off, ha, ?_, key⟩
    have h0 : 0 < (f l[i]).length := by rw [hf]; exact hm
    exact World.block_lt_of_cell? w _ (key i hi 0 (f l[i])[0] (List.getElem?_eq_getElem h0))
/-- the cells of a step -/
def stV (s : Nat × Nat) : List Value := [.int .i64 (s.1 : Nat), .int .i64 (s.2 : Nat)]
theorem stV_len (s : Nat × Nat) : (stV s).length = 2 := rfl
/-- the cells of a pair -/
def prV (p : ByteArray × Nat × Nat × Nat) : List Value := [.string p.1, .int .i64 (p.2.1 : Nat), .int .i64 0, .int .i64 (p.2.2.1 : Nat), .int .i64 (p.2.2.2 : Nat)]
theorem prV_len (p : ByteArray × Nat × Nat × Nat) : (prV p).length = 5 := rfl
/-- the cells of numbers -/
def nV (n : Nat) : List Value := [.int .i64 (n : Nat)]
theorem nV_len (n : Nat) : (nV n).length = 1 := rfl
end Go.Proofs.YtmgdglghjlggnaaGreat
