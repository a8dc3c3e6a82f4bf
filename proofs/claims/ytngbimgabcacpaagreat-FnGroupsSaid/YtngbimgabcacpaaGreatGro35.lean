/-
  IsCommutative of the program at a valid table.
-/
import Derived.Test.YtngbimgabcacpaaGreatGro26
import Derived.Test.YtngbimgabcacpaaGreatGro34
import Derived.Test.YtngbimgabcacpaaGreatGro31
import Derived.Test.YtngbimgabcacpaaGreatGro32
namespace Go.Proofs.YtngbimgabcacpaaGreat
open Go.RowKit
set_option linter.unusedVariables false
theorem TabG.nats {m : Nat} {l : List Int} (h : TabG m l) : TabOk m (l.map Int.toNat) ∧ (∀ w a, IntsIn w a l → NatsIn w a (l.map Int.toNat)) ∧ l.length = m * m := by
  obtain ⟨ln, rfl, h⟩ := h
  rw [map_toNat]
  exact ⟨h, fun w a h => h, by rw [List.length_map]; exact h.len⟩
theorem TabG.few {m : Nat} {l : List Int} (h : TabG m l) : l.length ≤ 1600 ∧ 1 ≤ m ∧ m ≤ 40 := by
  have h1 := h.nats
  exact ⟨by rw [h1.2.2]; exact sq_le h1.1.hi, h1.1.lo, h1.1.hi⟩
theorem in_has {m i : Nat} (hi : i < m) : inB (i : Int) 0 ((m : Int) - 1) = true := by unfold inB; simp; omega
set_option maxHeartbeats 1000000 in
theorem implIdealOf_ok (m : Nat) (l : List Int) (a : Option Addr) (cap i : Nat) (kind : Int) (w : World) (hl : IntsIn w a l) (hT : TabG m l) (hi : i < m) (hk : inB kind 1 3 = true) :
    Calls Tryz.prog 21 #[.agg #[.int .i64 (m : Nat), .slice a l.length cap], .int .i64 (i : Nat), .int .i64 kind] w (RetSl 3 1 (idLs m (l.map Int.toNat) kind i).length (intVals (idLs m (l.map Int.toNat) kind i)) w) := by
  obtain ⟨hlen, hm1, hm2⟩ := hT.few
  have HB1 := Lib.hid (alloc_belI w (.cells #[.int .i64 (m : Nat), .slice a l.length cap] 25))
  have HX : Hid (∀ W, Below (w.alloc (.cells #[.int .i64 (m : Nat), .slice a l.length cap] 25)).heap.size (w.alloc (.cells #[.int .i64 (m : Nat), .slice a l.length cap] 25)) W → W.cell? ⟨w.heap.size, 0, none⟩ = some (.int .i64 (m : Nat)) ∧ W.cell? ⟨w.heap.size, 1, none⟩ = some (.slice a l.length cap)) := Lib.hid (fun W hW => ⟨by rw [hW.cell (by simp)]; simp, by rw [hW.cell (by simp)]; simp⟩)
  have HTO := Lib.hid (fun W (h : IntsIn W a l) => implTableOk_any (m : Nat) l a cap W h (by omega))
  rw [hT.tab] at HTO
  have HHI := Lib.hid (fun W => has_any m (i : Int) (.slice a l.length cap) W hm1 hm2)
  rw [in_has hi] at HHI
  have HIN := Lib.hid (fun W => within_any kind 1 3 W)
  rw [hk] at HIN
  have HTM := Lib.hid (fun W (h : IntsIn W a l) => implIdeal_any m _ a l.length cap i kind W (hT.nats.2.1 W a h) hT.nats.1.toTb hT.nats.2.2 hi)
  have HL := Lib.hid hl
  generalize idLs m (l.map Int.toNat) kind i = I at *
  clear hl hT hk
  go_enter Tryz.func21, Tryz.ntmps21
  go_wp2_with fail
  generalize w.alloc (.cells #[.int .i64 (m : Nat), .slice a l.length cap] 25) = w1 at *
  refine (HTO.out _ (HL.out.later HB1.out)).mono ?_
  rintro e w2 ⟨rfl, hb2⟩
  have HB2 := Lib.hid hb2
  obtain ⟨z0, z1⟩ := HX.out _ hb2
  clear hb2
  go_wp2_with fail
  refine (HHI.out _).mono ?_
  rintro e w3 ⟨rfl, hb3⟩
  have HB3 := Lib.hid (Below.now HB2.out hb3)
  clear hb3 z0 z1
  obtain ⟨z0, z1⟩ := HX.out _ HB3.out
  go_wp2_with fail
  refine (HIN.out _).mono ?_
  rintro e w4 ⟨rfl, rfl⟩
  go_wp2_with fail
  refine (HTM.out _ (HL.out.later (Below.now HB1.out HB3.out))).mono ?_
  rintro e w5 ⟨a2, c2, rfl, ho, hb5⟩
  have F : Hid (RetSl 3 1 I.length (intVals I) w (.returned (.slice a2 I.length c2)) w5) := Lib.hid ⟨_, _, rfl, owns_mono ho (Below.now HB1.out HB3.out).size, Below.now (Below.now HB1.out HB3.out) hb5⟩
  clear ho hb5 z0 z1
  go_wp2_with fail
  go_ret
  exact F.out
set_option maxHeartbeats 1000000 in
theorem implAreRelated_ok (m : Nat) (l : List Int) (a : Option Addr) (cap i k : Nat) (kind : Int) (w : World) (hl : IntsIn w a l) (hT : TabG m l) (hi : i < m) (hk : k < m) (hkd : inB kind 1 4 = true) :
    Calls Tryz.prog 25 #[.agg #[.int .i64 (m : Nat), .slice a l.length cap], .int .i64 (i : Nat), .int .i64 (k : Nat), .int .i64 kind] w fun e w' => e = .returned (.bool (relK m (l.map Int.toNat) kind i k)) ∧ Below w.heap.size w w' := by
  obtain ⟨hlen, hm1, hm2⟩ := hT.few
  have HB1 := Lib.hid (alloc_belI w (.cells #[.int .i64 (m : Nat), .slice a l.length cap] 25))
  have HX : Hid (∀ W, Below (w.alloc (.cells #[.int .i64 (m : Nat), .slice a l.length cap] 25)).heap.size (w.alloc (.cells #[.int .i64 (m : Nat), .slice a l.length cap] 25)) W → W.cell? ⟨w.heap.size, 0, none⟩ = some (.int .i64 (m : Nat)) ∧ W.cell? ⟨w.heap.size, 1, none⟩ = some (.slice a l.length cap)) := Lib.hid (fun W hW => ⟨by rw [hW.cell (by simp)]; simp, by rw [hW.cell (by simp)]; simp⟩)
  have HTO := Lib.hid (fun W (h : IntsIn W a l) => implTableOk_any (m : Nat) l a cap W h (by omega))
  rw [hT.tab] at HTO
  have HHI := Lib.hid (fun W => has_any m (i : Int) (.slice a l.length cap) W hm1 hm2)
  rw [in_has hi] at HHI
  have HHK := Lib.hid (fun W => has_any m (k : Int) (.slice a l.length cap) W hm1 hm2)
  rw [in_has hk] at HHK
  have HIN := Lib.hid (fun W => within_any kind 1 4 W)
  rw [hkd] at HIN
  have HTM := Lib.hid (fun W (h : IntsIn W a l) => implRelated_any m _ a l.length cap i k kind W (hT.nats.2.1 W a h) hT.nats.1.toTb hT.nats.2.2 hi hk)
  have HL := Lib.hid hl
  generalize relK m (l.map Int.toNat) kind i k = r at *
  clear hl hT hkd
  go_enter Tryz.func25, Tryz.ntmps25
  go_wp2_with fail
  generalize w.alloc (.cells #[.int .i64 (m : Nat), .slice a l.length cap] 25) = w1 at *
  refine (HTO.out _ (HL.out.later HB1.out)).mono ?_
  rintro e w2 ⟨rfl, hb2⟩
  have HB2 := Lib.hid hb2
  obtain ⟨z0, z1⟩ := HX.out _ hb2
  clear hb2
  go_wp2_with fail
  refine (HHI.out _).mono ?_
  rintro e w3 ⟨rfl, hb3⟩
  have HB3 := Lib.hid (Below.now HB2.out hb3)
  clear hb3 z0 z1
  obtain ⟨z0, z1⟩ := HX.out _ HB3.out
  go_wp2_with fail
  refine (HHK.out _).mono ?_
  rintro e w4 ⟨rfl, hb4⟩
  have HB4 := Lib.hid (Below.now HB3.out hb4)
  clear hb4 z0 z1
  obtain ⟨z0, z1⟩ := HX.out _ HB4.out
  go_wp2_with fail
  refine (HIN.out _).mono ?_
  rintro e w5 ⟨rfl, rfl⟩
  go_wp2_with fail
  refine (HTM.out _ (HL.out.later (Below.now HB1.out HB4.out))).mono ?_
  rintro e w5 ⟨rfl, hb5⟩
  have HB5 := Lib.hid (Below.now (Below.now HB1.out HB4.out) hb5)
  clear hb5 z0 z1
  go_wp2_with fail
  go_ret
  exact ⟨rfl, HB5.out⟩
set_option maxHeartbeats 1000000 in
theorem implIsBelow_ok (m : Nat) (l : List Int) (a : Option Addr) (cap i k : Nat) (w : World) (hl : IntsIn w a l) (hT : TabG m l) (hi : i < m) (hk : k < m) :
    Calls Tryz.prog 23 #[.agg #[.int .i64 (m : Nat), .slice a l.length cap], .int .i64 (i : Nat), .int .i64 (k : Nat)] w fun e w' => e = .returned (.bool (decide (((i : Nat) : Int) ∈ idLs m (l.map Int.toNat) 3 k))) ∧ Below w.heap.size w w' := by
  obtain ⟨hlen, hm1, hm2⟩ := hT.few
  have HB1 := Lib.hid (alloc_belI w (.cells #[.int .i64 (m : Nat), .slice a l.length cap] 25))
  have HX : Hid (∀ W, Below (w.alloc (.cells #[.int .i64 (m : Nat), .slice a l.length cap] 25)).heap.size (w.alloc (.cells #[.int .i64 (m : Nat), .slice a l.length cap] 25)) W → W.cell? ⟨w.heap.size, 0, none⟩ = some (.int .i64 (m : Nat)) ∧ W.cell? ⟨w.heap.size, 1, none⟩ = some (.slice a l.length cap)) := Lib.hid (fun W hW => ⟨by rw [hW.cell (by simp)]; simp, by rw [hW.cell (by simp)]; simp⟩)
  have HTO := Lib.hid (fun W (h : IntsIn W a l) => implTableOk_any (m : Nat) l a cap W h (by omega))
  rw [hT.tab] at HTO
  have HHI := Lib.hid (fun W => has_any m (i : Int) (.slice a l.length cap) W hm1 hm2)
  rw [in_has hi] at HHI
  have HHK := Lib.hid (fun W => has_any m (k : Int) (.slice a l.length cap) W hm1 hm2)
  rw [in_has hk] at HHK
  have HTM := Lib.hid (fun W (h : IntsIn W a l) => implIdeal_any m _ a l.length cap k 3 W (hT.nats.2.1 W a h) hT.nats.1.toTb hT.nats.2.2 hk)
  have HL := Lib.hid hl
  have hil := idLs_len (m := m) (ln := l.map Int.toNat) 3 k
  generalize idLs m (l.map Int.toNat) 3 k = I at *
  have HCN := Lib.hid (fun ay cy W (h : IntsIn W ay I) => containsI_any I ay cy (i : Nat) W h (by omega))
  clear hl hT
  go_enter Tryz.func23, Tryz.ntmps23
  go_wp2_with fail
  generalize w.alloc (.cells #[.int .i64 (m : Nat), .slice a l.length cap] 25) = w1 at *
  refine (HTO.out _ (HL.out.later HB1.out)).mono ?_
  rintro e w2 ⟨rfl, hb2⟩
  have HB2 := Lib.hid hb2
  obtain ⟨z0, z1⟩ := HX.out _ hb2
  clear hb2
  go_wp2_with fail
  refine (HHI.out _).mono ?_
  rintro e w3 ⟨rfl, hb3⟩
  have HB3 := Lib.hid (Below.now HB2.out hb3)
  clear hb3 z0 z1
  obtain ⟨z0, z1⟩ := HX.out _ HB3.out
  go_wp2_with fail
  refine (HHK.out _).mono ?_
  rintro e w4 ⟨rfl, hb4⟩
  have HB4 := Lib.hid (Below.now HB3.out hb4)
  clear hb4 z0 z1
  obtain ⟨z0, z1⟩ := HX.out _ HB4.out
  go_wp2_with fail
  refine (HTM.out _ (HL.out.later (Below.now HB1.out HB4.out))).mono ?_
  rintro e w5 ⟨a2, c2, rfl, ho, hb5⟩
  have HB5 := Lib.hid (Below.now (Below.now HB1.out HB4.out) hb5)
  have HI5 := Lib.hid (owns_ints (l := I) ho)
  clear hb5 z0 z1 ho
  go_wp2_with fail
  refine (HCN.out _ _ _ HI5.out).mono ?_
  rintro e w6 ⟨rfl, rfl⟩
  go_wp2_with fail
  go_ret
  exact ⟨rfl, HB5.out⟩
set_option maxHeartbeats 2000000 in
theorem implLeastIdeal_ok (m : Nat) (l : List Int) (a : Option Addr) (cap : Nat) (w : World) (hl : IntsIn w a l) (hT : TabG m l) :
    Calls Tryz.prog 22 #[.agg #[.int .i64 (m : Nat), .slice a l.length cap]] w (RetSl 3 1 (idLs m (l.map Int.toNat) 3 (leastTo m (l.map Int.toNat) m)).length (intVals (idLs m (l.map Int.toNat) 3 (leastTo m (l.map Int.toNat) m))) w) := by
  obtain ⟨hlen, hm1, hm2⟩ := hT.few
  have HB1 := Lib.hid (alloc_belI w (.cells #[.int .i64 (m : Nat), .slice a l.length cap] 25))
  have HX : Hid (∀ W, Below (w.alloc (.cells #[.int .i64 (m : Nat), .slice a l.length cap] 25)).heap.size (w.alloc (.cells #[.int .i64 (m : Nat), .slice a l.length cap] 25)) W → W.cell? ⟨w.heap.size, 0, none⟩ = some (.int .i64 (m : Nat)) ∧ W.cell? ⟨w.heap.size, 1, none⟩ = some (.slice a l.length cap)) := Lib.hid (fun W hW => ⟨by rw [hW.cell (by simp)]; simp, by rw [hW.cell (by simp)]; simp⟩)
  have HTO := Lib.hid (fun W (h : IntsIn W a l) => implTableOk_any (m : Nat) l a cap W h (by omega))
  rw [hT.tab] at HTO
  have HTM := Lib.hid (fun i W (h : IntsIn W a l) hi => implIdeal_any m _ a l.length cap i 3 W (hT.nats.2.1 W a h) hT.nats.1.toTb hT.nats.2.2 hi)
  have HT0 := Lib.hid (HTM.out 0)
  have HL := Lib.hid hl
  generalize hz : l.map Int.toNat = zn at *
  have HLN := Lib.hid (fun i => idLs_len (m := m) (ln := zn) 3 i)
  clear hl hT hz
  go_enter Tryz.func22, Tryz.ntmps22
  go_wp2_with fail
  generalize w.alloc (.cells #[.int .i64 (m : Nat), .slice a l.length cap] 25) = w1 at *
  refine (HTO.out _ (HL.out.later HB1.out)).mono ?_
  rintro e w2 ⟨rfl, hb2⟩
  have HB2 := Lib.hid hb2
  obtain ⟨z0, z1⟩ := HX.out _ hb2
  clear hb2
  go_wp2_with fail
  refine (HT0.out _ (HL.out.later (Below.now HB1.out HB2.out)) hm1).mono ?_
  rintro e w3 ⟨a3, c3, rfl, ho3, hb3⟩
  have HB3 := Lib.hid (Below.now HB2.out hb3)
  have HS3 : Hid (RetSl 3 1 (idLs m zn 3 (leastTo m zn 0)).length (intVals (idLs m zn 3 (leastTo m zn 0))) w (.returned (.slice a3 (idLs m zn 3 0).length c3)) w3) := Lib.hid ⟨_, _, rfl, owns_mono ho3 (Below.now HB1.out HB2.out).size, Below.now HB1.out HB3.out⟩
  clear ho3 hb3 z0 z1
  obtain ⟨z0, z1⟩ := HX.out _ HB3.out
  go_wp2_with fail
  go_loopw [3, 13] (fun v i wr => ∃ c : Nat, c ≤ m ∧ i = .int .i64 (c : Nat) ∧ Below w1.heap.size w1 wr ∧ RetSl 3 1 (idLs m zn 3 (leastTo m zn c)).length (intVals (idLs m zn 3 (leastTo m zn c))) w (.returned v) wr) (fun _ i _ => m - (intOf i).toNat)
  case atStart => exact ⟨0, Nat.zero_le _, rfl, HB3.out, HS3.out⟩
  case round =>
    clear HS3 HB3 z0 z1
    obtain ⟨c, hc, rfl, hbr, a4, c4, he, ho4, hb4⟩ := hrel
    obtain rfl := Ending.returned.inj he
    have HBR := Lib.hid hbr
    have HO4 := Lib.hid ho4
    have HB4 := Lib.hid hb4
    obtain ⟨z0, z1⟩ := HX.out _ hbr
    clear hbr ho4 hb4 he
    by_cases hlt : c < m
    · have hll := HLN.out c
      have hlb := HLN.out (leastTo m zn c)
      have HS : Hid (leastTo m zn (c + 1) = bestI m zn (leastTo m zn c) c) := Lib.hid rfl
      go_wp2_with fail
      refine (HTM.out c _ (HL.out.later (Below.now HB1.out HBR.out)) hlt).mono ?_
      rintro e w5 ⟨a5, c5, rfl, ho5, hb5⟩
      have HB5 := Lib.hid (Below.now HBR.out hb5)
      by_cases hq : (idLs m zn 3 c).length < (idLs m zn 3 (leastTo m zn c)).length
      · have F : Hid (RetSl 3 1 (idLs m zn 3 (leastTo m zn (c + 1))).length (intVals (idLs m zn 3 (leastTo m zn (c + 1)))) w (.returned (.slice a5 (idLs m zn 3 c).length c5)) w5) := Lib.hid (by
          rw [HS.out, show bestI m zn (leastTo m zn c) c = c from if_pos hq]
          exact ⟨_, _, rfl, owns_mono ho5 HB4.out.size, Below.now HB4.out hb5⟩)
        clear ho5 hb5 z0 z1 HS
        generalize (idLs m zn 3 c).length = q1 at *
        generalize (idLs m zn 3 (leastTo m zn c)).length = q2 at *
        go_wp2_with fail
        go_roundw
        case rel => exact ⟨c + 1, by omega, by go_num, HB5.out, F.out⟩
        case measure => simp [intOf]; omega
      · have F : Hid (RetSl 3 1 (idLs m zn 3 (leastTo m zn (c + 1))).length (intVals (idLs m zn 3 (leastTo m zn (c + 1)))) w (.returned (.slice a4 (idLs m zn 3 (leastTo m zn c)).length c4)) w5) := Lib.hid (by
          rw [HS.out, show bestI m zn (leastTo m zn c) c = leastTo m zn c from if_neg hq]
          exact ⟨_, _, rfl, owns_later HO4.out hb5, Below.now HB4.out hb5⟩)
        clear ho5 hb5 z0 z1 HS
        generalize (idLs m zn 3 c).length = q1 at *
        go_wp2_with fail
        go_roundw
        case rel => exact ⟨c + 1, by omega, by go_num, HB5.out, F.out⟩
        case measure => simp [intOf]; omega
    · obtain rfl : c = m := by omega
      have F : Hid (RetSl 3 1 (idLs c zn 3 (leastTo c zn c)).length (intVals (idLs c zn 3 (leastTo c zn c))) w (.returned (.slice a4 (idLs c zn 3 (leastTo c zn c)).length c4)) wr) := Lib.hid ⟨_, _, rfl, HO4.out, HB4.out⟩
      go_wp2_with fail
      go_ret
      exact F.out
end Go.Proofs.YtngbimgabcacpaaGreat
namespace Go.Proofs.YtngbimgabcacpaaGreat
open Go.RowKit
set_option linter.unusedVariables false
/-- the rows below c are those of a commutative table -/
def comTo (m : Nat) (ln : List Nat) (c : Nat) : Prop := ∀ x y, x < c → y < x → tm m ln x y = tm m ln y x
/-- and c's row up to d -/
def comRow (m : Nat) (ln : List Nat) (c d : Nat) : Prop := ∀ y, y < d → tm m ln c y = tm m ln y c
theorem comTo_succ {m : Nat} {ln : List Nat} {c : Nat} (h : comTo m ln c) (h2 : comRow m ln c c) : comTo m ln (c + 1) := fun x y hx hy => by
  by_cases e : x = c
  · subst e; exact h2 y hy
  · exact h x y (by omega) hy
theorem comTo_all {m : Nat} {ln : List Nat} (h : comTo m ln m) : comB m ln = true := comB_iff.2 fun x y hx hy => by
  rcases Nat.lt_trichotomy x y with h1 | h1 | h1
  · exact (h y x hy h1).symm
  · rw [h1]
  · exact h x y hx h1
theorem com_not {m : Nat} {ln : List Nat} {c d : Nat} (hc : c < m) (hd : d < m) (h : tm m ln c d ≠ tm m ln d c) : comB m ln = false := by
  cases e : comB m ln
  · rfl
  · exact absurd (comB_iff.1 e c d hc hd) h
set_option maxRecDepth 20000 in
set_option maxHeartbeats 4000000 in
theorem implIsCommutative_ok (m : Nat) (l : List Int) (a : Option Addr) (cap : Nat) (w : World) (hl : IntsIn w a l) (hT : TabG m l) :
    Calls Tryz.prog 18 #[.agg #[.int .i64 (m : Nat), .slice a l.length cap]] w fun e w' => e = .returned (.bool (comB m (l.map Int.toNat))) ∧ Below w.heap.size w w' := by
  obtain ⟨hlen, hm1, hm2⟩ := hT.few
  have HB1 := Lib.hid (alloc_belI w (.cells #[.int .i64 (m : Nat), .slice a l.length cap] 25))
  have HX : Hid (∀ W, Below (w.alloc (.cells #[.int .i64 (m : Nat), .slice a l.length cap] 25)).heap.size (w.alloc (.cells #[.int .i64 (m : Nat), .slice a l.length cap] 25)) W → W.cell? ⟨w.heap.size, 0, none⟩ = some (.int .i64 (m : Nat)) ∧ W.cell? ⟨w.heap.size, 1, none⟩ = some (.slice a l.length cap)) := Lib.hid (fun W hW => ⟨by rw [hW.cell (by simp)]; simp, by rw [hW.cell (by simp)]; simp⟩)
  have HTO := Lib.hid (fun W (h : IntsIn W a l) => implTableOk_any (m : Nat) l a cap W h (by omega))
  rw [hT.tab] at HTO
  have HTM := Lib.hid (fun i k W (h : IntsIn W a l) hi hk => implTimes_any m _ a l.length cap i k W (hT.nats.2.1 W a h) hT.nats.1.toTb hT.nats.2.2 hi hk)
  have HL := Lib.hid hl
  generalize hz : l.map Int.toNat = zn at *
  clear hl hT hz
  go_enter Tryz.func18, Tryz.ntmps18
  go_wp2_with fail
  generalize w.alloc (.cells #[.int .i64 (m : Nat), .slice a l.length cap] 25) = w1 at *
  refine (HTO.out _ (HL.out.later HB1.out)).mono ?_
  rintro e w2 ⟨rfl, hb2⟩
  have HB2 := Lib.hid hb2
  obtain ⟨z0, z1⟩ := HX.out _ hb2
  clear hb2
  go_wp2_with fail
  go_loopw [10] (fun i wr => ∃ c : Nat, c ≤ m ∧ i = .int .i64 (c : Nat) ∧ Hid (comTo m zn c) ∧ Below w1.heap.size w1 wr) (fun i _ => m - (intOf i).toNat)
  case atStart => exact ⟨0, Nat.zero_le _, rfl, Lib.hid (fun x y hx => absurd hx (Nat.not_lt_zero _)), HB2.out⟩
  case round =>
    clear z0 z1
    obtain ⟨c, hcm, rfl, HC, hbr⟩ := hrel
    have HBR := Lib.hid hbr
    obtain ⟨z0, z1⟩ := HX.out _ hbr
    clear hbr
    by_cases hc : c < m
    · go_wp2_with fail
      generalize hWR : wr = wr0 at *
      clear hWR z0 z1
      go_loopw [14] (fun i wr => ∃ d : Nat, d ≤ c ∧ i = .int .i64 (d : Nat) ∧ Hid (comRow m zn c d) ∧ Below w1.heap.size w1 wr) (fun i _ => c - (intOf i).toNat)
      case atStart => exact ⟨0, Nat.zero_le _, rfl, Lib.hid (fun y hy => absurd hy (Nat.not_lt_zero _)), HBR.out⟩
      case round =>
        obtain ⟨d, hdc, rfl, HD, hbr⟩ := hrel
        have HBI := Lib.hid hbr
        clear hbr
        by_cases hdl : d < c
        · have hd : d < m := by omega
          go_upto_region 9 with fail
          refine region_each (fun W => Below wr.heap.size wr W) (fun W W2 => Below W.heap.size W W2) (fun u => by simp only [fPut, Act.put, List.setIfInBounds_toArray, List.set_cons_succ, List.set_cons_zero, Nat.zero_add, Nat.reduceAdd]; rfl) (by kernel_rfl) (by kernel_rfl) (by kernel_rfl) (Below.drew (Below.refl _ _)) ?_
          apply each_read (fun _ => Below.refl _ _) rfl
          · intro u wv hC hf
            have z0 := (HX.out _ (Below.now HBI.out hC)).1
            have z1 := (HX.out _ (Below.now HBI.out hC)).2
            clear hf
            go_simp
            try rfl
          apply each_read (fun _ => Below.refl _ _) rfl
          · intro u wv hC hf
            have z0 := (HX.out _ (Below.now HBI.out hC)).1
            have z1 := (HX.out _ (Below.now HBI.out hC)).2
            clear hf
            go_simp
            try rfl
          apply each_read (fun _ => Below.refl _ _) rfl
          · intro u wv hC hf
            have z0 := (HX.out _ (Below.now HBI.out hC)).1
            have z1 := (HX.out _ (Below.now HBI.out hC)).2
            clear hf
            go_simp
            try rfl
          apply each_callR rfl
          · intro u wv hC hf
            have z0 := (HX.out _ (Below.now HBI.out hC)).1
            have z1 := (HX.out _ (Below.now HBI.out hC)).2
            obtain ⟨d0_0, d1_1, d2_2, -⟩ := hf
            have e0 : u 0 = _ := d0_0 rfl
            clear d0_0
            have e1 : u 1 = _ := d1_1 rfl
            clear d1_1
            have e2 : u 2 = _ := d2_2 rfl
            clear d2_2
            apply Exists.intro; apply Exists.intro; apply And.intro
            · go_simp; exact ⟨rfl, rfl⟩
            · refine (HTM.out c d _ (HL.out.later (Below.now HB1.out (Below.now HBI.out hC))) hc hd).mono ?_
              rintro e w3 ⟨rfl, hb⟩
              exact ⟨rfl, Below.now hC hb, hb⟩
          apply each_read (fun _ => Below.refl _ _) rfl
          · intro u wv hC hf
            have z0 := (HX.out _ (Below.now HBI.out hC)).1
            have z1 := (HX.out _ (Below.now HBI.out hC)).2
            clear hf
            go_simp
            try rfl
          apply each_read (fun _ => Below.refl _ _) rfl
          · intro u wv hC hf
            have z0 := (HX.out _ (Below.now HBI.out hC)).1
            have z1 := (HX.out _ (Below.now HBI.out hC)).2
            clear hf
            go_simp
            try rfl
          apply each_read (fun _ => Below.refl _ _) rfl
          · intro u wv hC hf
            have z0 := (HX.out _ (Below.now HBI.out hC)).1
            have z1 := (HX.out _ (Below.now HBI.out hC)).2
            clear hf
            go_simp
            try rfl
          apply each_callR rfl
          · intro u wv hC hf
            have z0 := (HX.out _ (Below.now HBI.out hC)).1
            have z1 := (HX.out _ (Below.now HBI.out hC)).2
            obtain ⟨d4_0, d5_1, d6_2, d3_3, -⟩ := hf
            have e4 : u 4 = _ := d4_0 rfl
            clear d4_0
            have e5 : u 5 = _ := d5_1 rfl
            clear d5_1
            have e6 : u 6 = _ := d6_2 rfl
            clear d6_2
            have e3 : u 3 = _ := d3_3 rfl
            clear d3_3
            apply Exists.intro; apply Exists.intro; apply And.intro
            · go_simp; exact ⟨rfl, rfl⟩
            · refine (HTM.out d c _ (HL.out.later (Below.now HB1.out (Below.now HBI.out hC))) hd hc).mono ?_
              rintro e w3 ⟨rfl, hb⟩
              exact ⟨rfl, Below.now hC hb, hb⟩
          apply each_read (fun _ => Below.refl _ _) rfl
          · intro u wv hC hf
            have z0 := (HX.out _ (Below.now HBI.out hC)).1
            have z1 := (HX.out _ (Below.now HBI.out hC)).2
            obtain ⟨d3_0, d7_1, -⟩ := hf
            have e3 : u 3 = _ := d3_0 rfl
            clear d3_0
            have e7 : u 7 = _ := d7_1 rfl
            clear d7_1
            go_simp
            try rfl
          intro u w7 d1 hall
          obtain ⟨a0, a1, a2, a3, a4, a5, a6, a7, a8, -⟩ := hall
          have e0 : u 0 = _ := a0
          clear a0
          have e1 : u 1 = _ := a1
          clear a1
          have e2 : u 2 = _ := a2
          clear a2
          have e3 : u 3 = _ := a3
          clear a3
          have e4 : u 4 = _ := a4
          clear a4
          have e5 : u 5 = _ := a5
          clear a5
          have e6 : u 6 = _ := a6
          clear a6
          have e7 : u 7 = _ := a7
          clear a7
          have e8 : u 8 = _ := a8
          clear a8
          simp only [e0, e1, e2, e3, e4, e5, e6, e7, e8]
          clear e0 e1 e2 e3 e4 e5 e6 e7 e8
          cases hq : (((tm m zn c d : Nat) : Int) == ((tm m zn d c : Nat) : Int))
          · have F : Hid (false = comB m zn) := Lib.hid (com_not hc hd (fun e => by rw [e] at hq; simp at hq)).symm
            go_wp2_with fail
            go_ret
            exact ⟨ret_bool F.out, Below.now HB1.out (Below.now HBI.out d1)⟩
          · have F : Hid (comRow m zn c (d + 1)) := Lib.hid (fun y hy => by
              by_cases e : y = d
              · subst e; have := beq_iff_eq.1 hq; omega
              · exact HD.out y (by omega))
            go_wp2_with fail
            go_roundw
            case rel => exact ⟨d + 1, by omega, by go_num, F, Below.now HBI.out d1⟩
            case measure => simp [intOf]; omega
        · obtain rfl : d = c := by omega
          have F : Hid (comTo m zn (d + 1)) := Lib.hid (comTo_succ HC.out HD.out)
          go_wp2_with fail
          go_roundw
          case rel => exact ⟨d + 1, by omega, by go_num, F, HBI.out⟩
          case measure => simp [intOf]; omega
    · obtain rfl : c = m := by omega
      have F : Hid (true = comB c zn) := Lib.hid (comTo_all HC.out).symm
      go_wp2_with fail
      go_ret
      exact ⟨ret_bool F.out, Below.now HB1.out HBR.out⟩
end Go.Proofs.YtngbimgabcacpaaGreat
