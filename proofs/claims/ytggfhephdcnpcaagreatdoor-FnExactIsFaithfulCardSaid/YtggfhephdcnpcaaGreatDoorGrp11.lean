/-
  SatisfiesRules of the reference.
-/
import Derived.Test.YtggfhephdcnpcaaGreatDoorGrp07
import Derived.Test.YtggfhephdcnpcaaGreatDoorGrp10
import Derived.IntWalk
namespace Go.Proofs.YtggfhephdcnpcaaGreatDoor
open Go.RowKit
set_option linter.unusedVariables false
/-- the image of a letter -/
def imN (zn : List Nat) (c : UInt8) : Nat := zn.getD (c.toNat - 97) 0
/-- the value of the first j letters -/
def valTo (m : Nat) (ln zn : List Nat) (w : ByteArray) (j : Nat) : Nat := (w.data.toList.take j).foldl (fun x c => tm m ln x (imN zn c)) 0
def valF (m : Nat) (ln zn : List Nat) (w : ByteArray) : Nat := valTo m ln zn w w.size
/-- the letters have images -/
def letIn (zn : List Nat) (w : ByteArray) : Prop := ∀ c ∈ w.data.toList, 97 ≤ c.toNat ∧ c.toNat - 97 < zn.length
section
variable {m : Nat} {ln zn : List Nat} {w : ByteArray}
theorem valTo_zero : valTo m ln zn w 0 = 0 := by simp [valTo]
theorem valTo_succ {j : Nat} (h : j < w.size) : valTo m ln zn w (j + 1) = tm m ln (valTo m ln zn w j) (imN zn w[j]) := by
  unfold valTo
  rw [List.take_succ_eq_append_getElem (by simpa using h), List.foldl_append]
  simp [ByteArray.getElem_eq_getElem_data]
theorem valTo_full {j : Nat} (h : ¬ j < w.size) (hj : j ≤ w.size) : valTo m ln zn w j = valF m ln zn w := by
  obtain rfl : j = w.size := by omega
  rfl
theorem imN_lt (hz : ∀ x ∈ zn, x < m) {c : UInt8} (h : c.toNat - 97 < zn.length) : imN zn c < m := by
  unfold imN
  rw [List.getD_eq_getElem?_getD, List.getElem?_eq_getElem h]
  exact hz _ (List.getElem_mem h)
theorem valTo_lt (hT : Tb m ln) (hz : ∀ x ∈ zn, x < m) (hw : letIn zn w) : ∀ j, j ≤ w.size → valTo m ln zn w j < m
  | 0, _ => by rw [valTo_zero]; exact hT.lo
  | j + 1, h => by
    rw [valTo_succ (by omega)]
    refine hT.tm_lt (valTo_lt hT hz hw j (by omega)) (imN_lt hz (hw _ ?_).2)
    rw [ByteArray.getElem_eq_getElem_data]
    exact Array.getElem_mem_toList _
theorem valF_lt (hT : Tb m ln) (hz : ∀ x ∈ zn, x < m) (hw : letIn zn w) : valF m ln zn w < m := valTo_lt hT hz hw _ (Nat.le_refl _)
theorem letIn_at (hw : letIn zn w) {j : Nat} (h : j < w.size) : 97 ≤ w[j].toNat ∧ w[j].toNat - 97 < zn.length := hw _ (by
  rw [ByteArray.getElem_eq_getElem_data]
  exact Array.getElem_mem_toList _)
theorem letIn_of {k : Int} (h : wordOkB k w = true) (hk : k = (zn.length : Int)) : letIn zn w := fun c hc => by
  unfold wordOkB allB at h
  simp only [Bool.and_eq_true, List.all_eq_true, decide_eq_true_eq] at h
  have := letB_true (h.2.2 c hc)
  omega
end
/-- ImagesOk as a function of plain data -/
def imgB (n : Int) (l z : List Int) : Bool := tabB n l && (inB (z.length : Int) 1 4 && rngB n z)
theorem imgB_no1 {n : Int} {l z : List Int} (h : tabB n l = false) : imgB n l z = false := by simp [imgB, h]
theorem imgB_no2 {n : Int} {l z : List Int} (h : inB (z.length : Int) 1 4 = false) : imgB n l z = false := by simp [imgB, h]
theorem imgB_yes {n : Int} {l z : List Int} (h : tabB n l = true) (h2 : inB (z.length : Int) 1 4 = true) : imgB n l z = rngB n z := by simp [imgB, h, h2]
theorem nats_of {m : Nat} {z : List Int} (h : rngB (m : Nat) z = true) : ∃ zn : List Nat, z = zn.map Int.ofNat ∧ ∀ x ∈ zn, x < m := by
  unfold rngB at h
  rw [List.all_eq_true] at h
  refine ⟨z.map Int.toNat, ?_, fun x hx => ?_⟩
  · rw [List.map_map]
    symm
    have : ∀ x ∈ z, (Int.ofNat ∘ Int.toNat) x = x := fun x hx => by
      have := inB_bounds (h x hx)
      simp; omega
    rw [List.map_congr_left this]; simp
  · obtain ⟨y, hy, rfl⟩ := List.mem_map.1 hx
    have := inB_bounds (h y hy)
    omega
theorem imgB_out {n : Int} {l z : List Int} (h : imgB n l z = true) : ∃ (m : Nat) (ln zn : List Nat), n = (m : Nat) ∧ l = ln.map Int.ofNat ∧ TabOk m ln ∧ z = zn.map Int.ofNat ∧ (∀ x ∈ zn, x < m) ∧ 1 ≤ zn.length ∧ zn.length ≤ 4 := by
  simp only [imgB, Bool.and_eq_true] at h
  obtain ⟨h1, h2, h3⟩ := h
  obtain ⟨m, ln, rfl, rfl, hT⟩ := tabOk_out h1
  obtain ⟨zn, rfl, hz⟩ := nats_of h3
  have := inB_bounds h2
  simp only [List.length_map] at this
  exact ⟨m, ln, zn, rfl, rfl, hT, rfl, hz, by omega, by omega⟩
/-- both sides of each rule have one value -/
def fitP (m : Nat) (ln zn : List Nat) (R : List RulD) : Prop := ∀ r ∈ R, valF m ln zn r.1 = valF m ln zn r.2
/-- SatisfiesRules -/
def satP (k : Int) (R : List RulD) (n : Int) (l z : List Int) : Prop := ((rulesP k R ∧ imgB n l z = true) ∧ (z.length : Int) = k) ∧ fitP n.toNat (l.map Int.toNat) (z.map Int.toNat) R
theorem satP_words {k : Int} {R : List RulD} {zn : List Nat} (h : rulesP k R) (hk : (zn.length : Int) = k) : ∀ r ∈ R, letIn zn r.1 ∧ letIn zn r.2 := fun r hr => by
  obtain ⟨⟨⟨h1, h2⟩, _⟩, _⟩ := h.2 r hr
  exact ⟨letIn_of h1 hk.symm, letIn_of h2 hk.symm⟩
theorem fitP_iff {m : Nat} {ln zn : List Nat} {R : List RulD} : fitP m ln zn R ↔ ¬ ∃ r ∈ R, ¬ valF m ln zn r.1 = valF m ln zn r.2 := by
  constructor
  · rintro h ⟨r, hr, hn⟩; exact hn (h r hr)
  · intro h r hr; exact Classical.byContradiction fun hn => h ⟨r, hr, hn⟩
/-- a list that is collected is as long as it was exactly if it has no repetition -/
theorem coll_nodup {q : List Int} : (collL q).length = q.length ↔ q.Nodup := by
  constructor
  · intro h
    refine Classical.byContradiction fun hn => ?_
    have hd : ∃ x t1 t2, q = t1 ++ x :: t2 ∧ (x ∈ t1 ∨ x ∈ t2) := by
      clear h
      induction q with
      | nil => exact absurd List.nodup_nil hn
      | cons y q ih =>
        by_cases hy : y ∈ q
        · exact ⟨y, [], q, rfl, .inr hy⟩
        · obtain ⟨x, t1, t2, rfl, hx⟩ := ih (fun h => hn (List.nodup_cons.2 ⟨hy, h⟩))
          exact ⟨x, y :: t1, t2, rfl, hx.imp (List.mem_cons_of_mem _) id⟩
    obtain ⟨x, t1, t2, rfl, hx⟩ := hd
    have e : collL (t1 ++ x :: t2) = collL (t1 ++ t2) := by
      refine sorted_extZ _ _ (compact_lt (sortL_le _)) (compact_lt (sortL_le _)) fun y => ?_
      rw [collL, compact_mem, sortL_mem, collL, compact_mem, sortL_mem]
      simp only [List.mem_append, List.mem_cons]
      constructor
      · rintro (h | rfl | h)
        · exact .inl h
        · exact hx
        · exact .inr h
      · rintro (h | h)
        · exact .inl h
        · exact .inr (.inr h)
    rw [e] at h
    have := collL_len (t1 ++ t2)
    simp only [List.length_append, List.length_cons] at h this
    omega
  · intro h
    have hs : (sortL q).Pairwise (· < ·) := by
      have h1 := sortL_le q
      have h2 : (sortL q).Nodup := (List.mergeSort_perm q _).nodup_iff.2 h
      refine (List.Pairwise.and h1 h2).imp fun ⟨a, b⟩ => ?_
      omega
    have e : collL q = sortL q := sorted_extZ _ _ (compact_lt (sortL_le _)) hs fun y => by rw [collL, compact_mem]
    rw [e, sortL_len]
end Go.Proofs.YtggfhephdcnpcaaGreatDoor
namespace Go.Proofs.YtggfhephdcnpcaaGreatDoor
open Go.RowKit
set_option linter.unusedVariables false
/-- what is laid of a byte of a word ahead of the walk -/
theorem byte_facts {zn : List Nat} {w : ByteArray} (hw : letIn zn w) {j : Nat} (h : j < w.size) : ∃ q : Nat, q < zn.length ∧ imN zn w[j] = zn.getD q 0 ∧ (w[j].toNat : Int) = 97 + (q : Int) := by
  obtain ⟨h1, h2⟩ := letIn_at hw h
  exact ⟨w[j].toNat - 97, h2, rfl, by omega⟩
theorem img_cell {zn : List Nat} {W : World} {az : Option Addr} (hz : NatsIn W az zn) {q : Nat} (hq : q < zn.length) : ∃ b off, az = some ⟨b, off, none⟩ ∧ W.cell? ⟨b, off + q, none⟩ = some (.int .i64 ((zn.getD q 0 : Nat) : Int)) := by
  obtain ⟨b, off, ha, hc⟩ := nats_cell hz hq
  refine ⟨b, off, ha, ?_⟩
  rw [hc W (Below.refl _ _)]
  simp [List.getD_eq_getElem?_getD, hq]
set_option maxHeartbeats 1000000 in
theorem l11Value_any (m : Nat) (ln zn : List Nat) (a : Option Addr) (len cap : Nat) (az : Option Addr) (cz : Nat) (v : ByteArray) (w : World) (hl : NatsIn w a ln) (hT : Tb m ln) (hlen : len = m * m) (hz : NatsIn w az zn) (hzm : ∀ x ∈ zn, x < m) (hw : letIn zn v) (hv : v.size ≤ 1000) :
    Calls Tryz.prog 62 #[.agg #[.int .i64 m, .slice a len cap], .slice az zn.length cz, .string v] w fun e w' => e = .returned (.int .i64 (valF m ln zn v : Nat)) ∧ Below w.heap.size w w' := by
  have hm := hT.hi
  have HT := Lib.hid hT
  have HL := Lib.hid hlen
  have HM := Lib.hid hzm
  have HW := Lib.hid hw
  have hb1 := (Below.refl w.heap.size w).alloc (Nat.le_refl _) (.cells #[.int .i64 (m : Nat), .slice a len cap] 38)
  have HX : Hid (∀ W, Below (w.alloc (.cells #[.int .i64 (m : Nat), .slice a len cap] 38)).heap.size (w.alloc (.cells #[.int .i64 (m : Nat), .slice a len cap] 38)) W → W.cell? ⟨w.heap.size, 0, none⟩ = some (.int .i64 (m : Nat)) ∧ W.cell? ⟨w.heap.size, 1, none⟩ = some (.slice a len cap)) := Lib.hid (fun W hW => ⟨by rw [hW.cell (by simp)]; simp, by rw [hW.cell (by simp)]; simp⟩)
  have HB := Lib.hid hb1
  have HN := Lib.hid (hl.later hb1)
  have HZ := Lib.hid (hz.later hb1)
  clear hl hT hlen hb1 hz hzm hw
  go_enter Tryz.func62, Tryz.ntmps62
  go_wp2_with fail
  generalize w.alloc (.cells #[.int .i64 (m : Nat), .slice a len cap] 38) = w1 at *
  go_loopw [7, 8] (fun x i wr => ∃ j : Nat, j ≤ v.size ∧ i = .int .i64 j ∧ x = .int .i64 (valTo m ln zn v j : Nat) ∧ Hid (Below w1.heap.size w1 wr)) (fun _ i _ => v.size - (intOf i).toNat)
  case atStart => exact ⟨0, Nat.zero_le _, rfl, by rw [valTo_zero]; rfl, Lib.hid (Below.refl _ _)⟩
  case round =>
    obtain ⟨j, hj, rfl, rfl, HWR⟩ := hrel
    by_cases hlt : j < v.size
    · have hb := byte_lt v[j]
      obtain ⟨q, hq, hi, hc⟩ := byte_facts HW.out hlt
      obtain ⟨bz, oz, rfl, hcz⟩ := img_cell (HZ.out.later HWR.out) hq
      have hx := valTo_lt HT.out HM.out HW.out j hj
      have hy : zn.getD q 0 < m := by rw [← hi]; exact imN_lt HM.out (letIn_at HW.out hlt).2
      have HS : Hid (valTo m ln zn v (j + 1) = tm m ln (valTo m ln zn v j) (zn.getD q 0)) := Lib.hid (by rw [valTo_succ hlt, hi])
      obtain ⟨z0, z1⟩ := HX.out wr HWR.out
      have k0 : ∀ x, (wide wr x).cell? ⟨w.heap.size, 0, none⟩ = some (.int .i64 (m : Nat)) := wide_cell z0
      have k1 : ∀ x, (wide wr x).cell? ⟨w.heap.size, 1, none⟩ = some (.slice a len cap) := wide_cell z1
      have k2 : ∀ x, (wide wr x).cell? ⟨bz, oz + q, none⟩ = some (.int .i64 ((zn.getD q 0 : Nat) : Int)) := wide_cell hcz
      have HNW : Hid (∀ x, NatsIn (wide wr x) a ln) := Lib.hid (fun x => (HN.out.later HWR.out).later (below_wide _ _))
      clear hi hcz z0 z1
      generalize valTo m ln zn v j = v1 at *
      generalize zn.getD q 0 = y at *
      have hq2 : (v[j].toNat : Int) - 97 = (q : Int) := by omega
      have hge : (97 : Int) ≤ (v[j].toNat : Int) := by omega
      have hq5 : (q : Int) ≤ 255 := by omega
      have hwq : IntKind.u8.wrap (q : Int) = (q : Int) := IntWalk.u8_in _ ⟨by omega, by omega⟩
      have hwr : IntKind.i64.wrap (q : Int) = (q : Int) := IntWalk.i64_in _ ⟨by omega, by omega⟩
      clear hc
      go_wp2_with fail
      refine region_wide (by kernel_rfl) (by kernel_rfl) ?_
      repeat (quiet_step ((go_at_call 101; refine (specTimes_any m ln a _ _ _ _ _ (HNW.out _) HT.out HL.out (by assumption) (by assumption)).mono ?_; rintro e w2 ⟨rfl, hb2⟩; exact ⟨rfl, wide_next hb2⟩)))
      refine wpQuiet_nil ?_
      rintro w4 ⟨x4, rfl⟩
      have HW4 := Lib.hid (Below.now HWR.out (below_wide wr x4))
      clear k0 k1 k2 hwq hwr hb hge hq5 hq2
      go_wp2_with fail
      go_roundw
      case rel => exact ⟨j + 1, by omega, by go_num, by rw [HS.out], HW4⟩
      case measure => simp [intOf]; omega
    · have F := Lib.hid (valTo_full (m := m) (ln := ln) (zn := zn) hlt hj)
      rw [F.out]
      go_wp2_with fail
      go_ret
      exact ⟨rfl, Below.now HB.out HWR.out⟩
set_option maxHeartbeats 1000000 in
theorem specImagesOk_any (n : Int) (l : List Int) (a : Option Addr) (cap : Nat) (z : List Int) (az : Option Addr) (cz : Nat) (w : World) (hl : IntsIn w a l) (hlen : l.length ≤ 2 ^ 47) (hz : IntsIn w az z) (hzl : z.length ≤ 2 ^ 47) :
    Calls Tryz.prog 117 #[.agg #[.int .i64 n, .slice a l.length cap], .slice az z.length cz] w fun e w' => e = .returned (.bool (imgB n l z)) ∧ Below w.heap.size w w' := by
  have HTO := Lib.hid (fun W (h : IntsIn W a l) => specTableOk_any n l a cap W h hlen)
  have HIN := Lib.hid (fun W => l01In_any (z.length : Int) 1 4 W)
  have hb1 := (Below.refl w.heap.size w).alloc (Nat.le_refl _) (.cells #[.int .i64 n, .slice a l.length cap] 38)
  have HX : Hid (∀ W, Below (w.alloc (.cells #[.int .i64 n, .slice a l.length cap] 38)).heap.size (w.alloc (.cells #[.int .i64 n, .slice a l.length cap] 38)) W → W.cell? ⟨w.heap.size, 0, none⟩ = some (.int .i64 n)) := Lib.hid (fun W hW => by rw [hW.cell (by simp)]; simp)
  have HB := Lib.hid hb1
  have HL := Lib.hid (hl.later hb1)
  have HZ := Lib.hid (hz.later hb1)
  clear hl hz hb1
  cases ht : tabB n l
  · have F := Lib.hid (imgB_no1 (z := z) ht)
    rw [ht] at HTO
    clear ht
    go_enter Tryz.func117, Tryz.ntmps117
    go_wp2_with fail
    refine (HTO.out _ HL.out).mono ?_
    rintro e w2 ⟨rfl, hb2⟩
    go_wp2_with fail
    go_ret
    exact ⟨ret_bool F.out.symm, Below.now HB.out hb2⟩
  cases hk : inB (z.length : Int) 1 4
  · have F := Lib.hid (imgB_no2 (n := n) (l := l) hk)
    rw [ht] at HTO
    rw [hk] at HIN
    clear ht hk
    go_enter Tryz.func117, Tryz.ntmps117
    go_wp2_with fail
    refine (HTO.out _ HL.out).mono ?_
    rintro e w2 ⟨rfl, hb2⟩
    have HB2 := Lib.hid (Below.now HB.out hb2)
    clear hb2
    go_wp2_with fail
    refine (HIN.out _).mono ?_
    rintro e w3 ⟨rfl, rfl⟩
    go_wp2_with fail
    go_ret
    exact ⟨ret_bool F.out.symm, HB2.out⟩
  have F := Lib.hid (imgB_yes (z := z) ht hk)
  have ⟨hn1, hn2⟩ : 1 ≤ n ∧ n ≤ 40 := by
    obtain ⟨m, ln, rfl, rfl, hT⟩ := tabOk_out ht
    have := hT.lo; have := hT.hi
    omega
  have HI2 := Lib.hid (fun x W => l01In_any x 0 (n - 1) W)
  rw [ht] at HTO
  rw [hk] at HIN
  clear ht hk
  go_enter Tryz.func117, Tryz.ntmps117
  go_wp2_with fail
  generalize w.alloc (.cells #[.int .i64 n, .slice a l.length cap] 38) = w1 at *
  refine (HTO.out _ HL.out).mono ?_
  rintro e w2 ⟨rfl, hb2⟩
  have HB2 := Lib.hid hb2
  clear hb2
  go_wp2_with fail
  refine (HIN.out _).mono ?_
  rintro e w3 ⟨rfl, rfl⟩
  go_wp2_with fail
  go_loopw [18] (fun i wr => ∃ j : Nat, j ≤ z.length ∧ i = .int .i64 j ∧ Hid (rngTo n z j) ∧ wr = w2) (fun i _ => z.length - (intOf i).toNat)
  case atStart => exact ⟨0, Nat.zero_le _, rfl, Lib.hid (rngTo_zero _ _), rfl⟩
  case round =>
    obtain ⟨j, hj, rfl, H, rfl⟩ := hrel
    by_cases hlt : j < z.length
    · obtain ⟨b, off, rfl, _, hc⟩ := (HZ.out.later HB2.out).cell hlt
      have h1 := hc j hlt
      have z0 := HX.out _ HB2.out
      have HE := Lib.hid (HI2.out (nthZ z j))
      cases hp : inB (nthZ z j) 0 (n - 1)
      · have F2 : Hid (imgB n l z = false) := Lib.hid (by rw [F.out]; exact rngB_false hlt hp)
        rw [hp] at HE
        clear hc hp
        generalize nthZ z j = x at *
        go_wp2_with fail
        refine (HE.out _).mono ?_
        rintro e w4 ⟨rfl, rfl⟩
        go_wp2_with fail
        go_ret
        exact ⟨ret_bool F2.out.symm, Below.now HB.out HB2.out⟩
      · have F2 := Lib.hid (rngTo_succ H.out hp)
        rw [hp] at HE
        clear hc hp
        generalize nthZ z j = x at *
        go_wp2_with fail
        refine (HE.out _).mono ?_
        rintro e w4 ⟨rfl, rfl⟩
        go_wp2_with fail
        go_roundw
        case rel => exact ⟨j + 1, by omega, by go_num, F2, trivial⟩
        case measure => simp [intOf]; omega
    · have F2 : Hid (imgB n l z = true) := Lib.hid (by rw [F.out]; exact rngTo_full H.out hlt)
      go_wp2_with fail
      go_ret
      exact ⟨ret_bool F2.out.symm, Below.now HB.out HB2.out⟩
end Go.Proofs.YtggfhephdcnpcaaGreatDoor
namespace Go.Proofs.YtggfhephdcnpcaaGreatDoor
open Go.RowKit
set_option linter.unusedVariables false
theorem fit_upto {m : Nat} {ln zn : List Nat} {R : List RulD} {j : Nat} (h : ∀ i, i < j → valF m ln zn (nthR R i).1 = valF m ln zn (nthR R i).2) (hj : ¬ j < R.length) : fitP m ln zn R := fun r hr => by
  obtain ⟨i, hi, rfl⟩ := mem_nthR hr
  exact h i (by omega)
set_option maxRecDepth 20000 in
set_option maxHeartbeats 1000000 in
theorem l11Fits_any (k : Int) (R : List RulD) (aR : Option Addr) (cR : Nat) (m : Nat) (ln zn : List Nat) (a : Option Addr) (len cap : Nat) (az : Option Addr) (cz : Nat) (w : World) (hR : RulesIn w aR R) (hs : rulesP k R) (hk : (zn.length : Int) = k)
    (hl : NatsIn w a ln) (hT : Tb m ln) (hlen : len = m * m) (hz : NatsIn w az zn) (hzm : ∀ x ∈ zn, x < m) :
    Calls Tryz.prog 118 #[.agg #[.int .i64 k, .slice aR R.length cR], .agg #[.int .i64 m, .slice a len cap], .slice az zn.length cz] w (RetP (fitP m ln zn R) w) := by
  have hn := hs.1.2
  have HWD := Lib.hid (satP_words hs hk)
  have HSZ : Hid (∀ r ∈ R, r.1.size ≤ 8 ∧ r.2.size ≤ 8) := Lib.hid (fun r hr => (hs.2 r hr).1.2)
  have HVA := Lib.hid (fun v W (h1 : NatsIn W a ln) (h2 : NatsIn W az zn) (h3 : letIn zn v) (h4 : v.size ≤ 8) => l11Value_any m ln zn a len cap az cz v W h1 hT hlen h2 hzm h3 (by omega))
  have hb1 : Below w.heap.size w ((w.alloc (.cells #[.int .i64 k, .slice aR R.length cR] 29)).alloc (.cells #[.int .i64 (m : Nat), .slice a len cap] 38)) := Below.now (alloc_belowS w _) (alloc_belowS _ _)
  have HX : Hid (∀ W, Below ((w.alloc (.cells #[.int .i64 k, .slice aR R.length cR] 29)).alloc (.cells #[.int .i64 (m : Nat), .slice a len cap] 38)).heap.size ((w.alloc (.cells #[.int .i64 k, .slice aR R.length cR] 29)).alloc (.cells #[.int .i64 (m : Nat), .slice a len cap] 38)) W → W.cell? ⟨w.heap.size, 1, none⟩ = some (.slice aR R.length cR) ∧ W.cell? ⟨w.heap.size + 1, 0, none⟩ = some (.int .i64 (m : Nat)) ∧ W.cell? ⟨w.heap.size + 1, 1, none⟩ = some (.slice a len cap)) := Lib.hid (fun W hW => by
    refine ⟨?_, ?_, ?_⟩ <;> rw [hW.cell (by simp; try omega)] <;> simp [go_sem])
  have HB := Lib.hid hb1
  have HL := Lib.hid (hl.later hb1)
  have HZ := Lib.hid (hz.later hb1)
  have HRR := Lib.hid (hR.later hb1)
  clear hl hT hlen hz hzm hR hs hb1
  go_enter Tryz.func118, Tryz.ntmps118
  go_wp2_with fail
  generalize (w.alloc (.cells #[.int .i64 k, .slice aR R.length cR] 29)).alloc (.cells #[.int .i64 (m : Nat), .slice a len cap] 38) = w1 at *
  go_loopw [12] (fun i wr => ∃ j : Nat, j ≤ R.length ∧ i = .int .i64 j ∧ Hid (∀ i, i < j → valF m ln zn (nthR R i).1 = valF m ln zn (nthR R i).2) ∧ Hid (Below w1.heap.size w1 wr)) (fun i _ => R.length - (intOf i).toNat)
  case atStart => exact ⟨0, Nat.zero_le _, rfl, Lib.hid (fun i hi => by omega), Lib.hid (Below.refl _ _)⟩
  case round =>
    obtain ⟨j, hj, rfl, HU, HWR⟩ := hrel
    by_cases hlt : j < R.length
    · obtain ⟨b, off, rfl, _, hc⟩ := (HRR.out.later HWR.out).cell hlt
      obtain ⟨c1, c2⟩ := hc j hlt
      have hmem := nthR_mem hlt
      have HW1 := Lib.hid (HWD.out _ hmem)
      have HS1 := Lib.hid (HSZ.out _ hmem)
      have HNO : Hid (¬ valF m ln zn (nthR R j).1 = valF m ln zn (nthR R j).2 → ¬ fitP m ln zn R) := Lib.hid (fun h h2 => h (h2 _ hmem))
      have HYE : Hid (valF m ln zn (nthR R j).1 = valF m ln zn (nthR R j).2 → ∀ i, i < j + 1 → valF m ln zn (nthR R i).1 = valF m ln zn (nthR R i).2) := Lib.hid (fun h i hi => by
        by_cases e : i = j
        · rw [e]; exact h
        · exact HU.out i (by omega))
      clear hc hmem
      generalize (nthR R j).1 = x at *
      generalize (nthR R j).2 = y at *
      go_upto_region 4 with fail
      have hb2 := alloc_belowS wr (.cells #[.string x, .string y] 60)
      have HW2 := Lib.hid (Below.now HWR.out hb2)
      obtain ⟨n0, n1⟩ := sys_cells (alloc_at wr (.cells #[.string x, .string y] 60))
      generalize wr.alloc (.cells #[.string x, .string y] 60) = w2 at *
      obtain ⟨z1, z2, z3⟩ := HX.out w2 HW2.out
      have k0 : ∀ q, (wide w2 q).cell? ⟨w.heap.size + 1, 0, none⟩ = some (.int .i64 (m : Nat)) := wide_cell z2
      have k1 : ∀ q, (wide w2 q).cell? ⟨w.heap.size + 1, 1, none⟩ = some (.slice a len cap) := wide_cell z3
      have k2 : ∀ q, (wide w2 q).cell? ⟨wr.heap.size, 0, none⟩ = some (.string x) := wide_cell n0
      have k3 : ∀ q, (wide w2 q).cell? ⟨wr.heap.size, 1, none⟩ = some (.string y) := wide_cell n1
      have HC1 : Hid (∀ q, Calls Tryz.prog 62 #[.agg #[.int .i64 m, .slice a len cap], .slice az zn.length cz, .string x] (wide w2 q) fun e w' => e = .returned (.int .i64 (valF m ln zn x : Nat)) ∧ Below (wide w2 q).heap.size (wide w2 q) w') := Lib.hid (fun q => HVA.out x _ (HL.out.later (Below.now HW2.out (below_wide _ _))) (HZ.out.later (Below.now HW2.out (below_wide _ _))) HW1.out.1 HS1.out.1)
      have HC2 : Hid (∀ q, Calls Tryz.prog 62 #[.agg #[.int .i64 m, .slice a len cap], .slice az zn.length cz, .string y] (wide w2 q) fun e w' => e = .returned (.int .i64 (valF m ln zn y : Nat)) ∧ Below (wide w2 q).heap.size (wide w2 q) w') := Lib.hid (fun q => HVA.out y _ (HL.out.later (Below.now HW2.out (below_wide _ _))) (HZ.out.later (Below.now HW2.out (below_wide _ _))) HW1.out.2 HS1.out.2)
      generalize valF m ln zn x = vx at *
      generalize valF m ln zn y = vy at *
      refine region_wide (by kernel_rfl) (by kernel_rfl) ?_
      repeat (quiet_step ((go_at_call 62; first | ((with_reducible refine (HC1.out _).mono ?_); rintro e w2 ⟨rfl, hb2⟩; exact ⟨rfl, wide_next hb2⟩) | ((with_reducible refine (HC2.out _).mono ?_); rintro e w2 ⟨rfl, hb2⟩; exact ⟨rfl, wide_next hb2⟩))))
      refine wpQuiet_nil ?_
      rintro w4 ⟨x4, rfl⟩
      have HW4 := Lib.hid (Below.now HW2.out (below_wide w2 x4))
      clear k0 k1 k2 k3 z1 z2 z3 n0 n1 c1 c2 hb2
      cases e1 : (((vx : Nat) : Int) != ((vy : Nat) : Int))
      · have F := Lib.hid (HYE.out (by simp at e1; omega))
        go_wp2_with fail
        go_roundw
        case rel => exact ⟨j + 1, by omega, by go_num, F, HW4⟩
        case measure => simp [intOf]; omega
      · have F := Lib.hid (RetP.no (HNO.out (by simp at e1; omega)) (Below.now HB.out HW4.out))
        go_wp2_with fail
        go_ret
        exact F.out
    · have F := Lib.hid (RetP.yes (fit_upto HU.out hlt) (Below.now HB.out HWR.out))
      go_wp2_with fail
      go_ret
      exact F.out
end Go.Proofs.YtggfhephdcnpcaaGreatDoor
