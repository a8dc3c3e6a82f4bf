/-
  'FnTableSystems' holds: for every argument the law answers true and leaves its argument as it was. No condition.
-/
import Derived.Test.YtdhaebbfiaddnaaGreatDoorGts33
import Derived.Test.YtdhaebbfiaddnaaGreatDoorGts35
import Derived.Test.YtdhaebbfiaddnaaGreatDoorGts37
import Derived.Test.YtdhaebbfiaddnaaGreatDoorGts39
import Derived.Test.YtdhaebbfiaddnaaGreatDoorGts25
import Derived.Test.YtdhaebbfiaddnaaGreatDoorGts04
import Derived.Test.YtdhaebbfiaddnaaGreatDoorGts27
import Derived.Test.YtdhaebbfiaddnaaGreatDoorTie
import Derived.Test.YtdhaebbfiaddnaaGreatDoorCards
import Derived.LaidMore
import Derived.Lib.LaidTab
import Derived.Stop.Joined
import Derived.Stop.LaidErr
import Derived.SevenTiedAt
import Derived.ChangeSame
namespace Go.Proofs.YtdhaebbfiaddnaaGreatDoor.fnTableSystems
open Go.RowKit
set_option linter.unusedVariables false
set_option maxRecDepth 100000 in
set_option maxHeartbeats 16000000 in
theorem walkSmall (a : Option Addr) (l : List UInt8) (cap : Nat) (w : World) (hl : BytesIn w a l) (hlen : l.length ≤ 1048576) (ht : Tab10 w) :
    Calls Tryz.prog 5 #[.slice a l.length cap] w fun e w' => e = .returned (.bool true) ∧ Below w.heap.size w w' := by
  have hq0 : ¬ (1048576 : Int) < (l.length : Int) := by omega
  have HM := Lib.hid (makeTable_any a l cap 0 w hl (by omega) (by omega))
  have HT10 := Lib.hid ht
  clear hl ht
  go_enter Tryz.func5, Tryz.ntmps5
  go_wp2_with fail
  refine HM.out.mono ?_
  rintro e w1 ⟨m, z, az, cz, hT, rfl, hz, hcap, hb1⟩
  obtain ⟨hzl, hm1, hm2⟩ := hT.few
  have HT := Lib.hid hT
  have HTK := Lib.hid hT.nats.1
  have HZZ : Hid ((z.map Int.toNat).map Int.ofNat = z) := Lib.hid (by obtain ⟨ln, rfl, _⟩ := hT; rw [map_nat])
  have HZI : Hid (∀ W, Below w1.heap.size w1 W → IntsIn W az z) := Lib.hid (fun W h => hz.later h)
  have HB1 := Lib.hid hb1
  have HOP := Lib.hid (fun W (h : IntsIn W az z) => implOppositeTable_ok m z az cz W h hT)
  have hol := hT.opp.few.1
  have HIC := Lib.hid (fun W (h : IntsIn W az z) => implIsCommutative_ok m z az cz W h hT)
  rw [hT.com] at HIC
  generalize (oppT m (z.map Int.toNat)).map Int.ofNat = O at *
  have HI1 := Lib.hid (fun aO cO W (h : IntsIn W az z) (h2 : IntsIn W aO O) => implAreIsomorphic_any (m : Nat) z az cz (m : Nat) O aO cO W h (by omega) h2 (by omega))
  have HI2 := Lib.hid (fun W (h : IntsIn W az z) => implAreIsomorphic_any (m : Nat) z az cz (m : Nat) z az cz W h (by omega) h (by omega))
  have HIS := Lib.hid (fun (h : m ≤ 6) => TabG.iso hT h)
  clear hb1 HM hT hz
  have HW2 := Lib.hid (alloc_belowT w1 (.cells #[.int .i64 (m : Nat), .slice az z.length cz] 60))
  have HX : Hid (∀ W, Below (w1.alloc (.cells #[.int .i64 (m : Nat), .slice az z.length cz] 60)).heap.size (w1.alloc (.cells #[.int .i64 (m : Nat), .slice az z.length cz] 60)) W → W.cell? ⟨w1.heap.size, 0, none⟩ = some (.int .i64 (m : Nat)) ∧ W.cell? ⟨w1.heap.size, 1, none⟩ = some (.slice az z.length cz)) := Lib.hid (fun W hW => ⟨by rw [hW.cell (by simp)]; simp, by rw [hW.cell (by simp)]; simp⟩)
  have HZW : Hid (∀ W, Below (w1.alloc (.cells #[.int .i64 (m : Nat), .slice az z.length cz] 60)).heap.size (w1.alloc (.cells #[.int .i64 (m : Nat), .slice az z.length cz] 60)) W → IntsIn W az z) := Lib.hid (fun W h => HZI.out W (Below.now HW2.out h))
  clear HZI
  by_cases hm24 : 2 ≤ m ∧ m ≤ 4
  · have HTS := Lib.hid (fun W (h : IntsIn W az z) => implTableSystem_ok m z az cz W h HT.out hm24)
    have HRS := Lib.hid (ts_sys HTK.out hm24)
    have HCP := Lib.hid (ts_comp HTK.out hm24)
    have hRl : (tsR m (z.map Int.toNat)).length ≤ 12 := HRS.out.1.1.2
    have HMO := Lib.hid (fun aR cR W (h : RulesIn W aR (tsR m (z.map Int.toNat))) (h2 : Tab10 W) => implMonoidOf_any ((m - 1 : Nat) : Int) (tsR m (z.map Int.toNat)) aR cR W h (by omega) (szR_of HRS.out) h2)
    have HCO := Lib.hid (fun aR cR W (h : RulesIn W aR (tsR m (z.map Int.toNat))) => implIsComplete_any ((m - 1 : Nat) : Int) (tsR m (z.map Int.toNat)) aR cR W h (by omega) (szR_of HRS.out))
    generalize hRR : tsR m (z.map Int.toNat) = R at *
    have HRR := Lib.hid hRR
    clear hRR
    have t2 : (2 : Int) ≤ ((m : Nat) : Int) := by omega
    have t4 : ((m : Nat) : Int) ≤ 4 := by omega
    have t2b : decide ((2 : Int) ≤ ((m : Nat) : Int)) = true := decide_eq_true t2
    have t4b : decide (((m : Nat) : Int) ≤ 4) = true := decide_eq_true t4
    have t2c : 2 ≤ m := hm24.1
    have t4c : m ≤ 4 := hm24.2
    go_wp2_with fail
    generalize w1.alloc (.cells #[.int .i64 (m : Nat), .slice az z.length cz] 60) = w2 at *
    refine (HTS.out _ (HZW.out _ (Below.refl _ _))).mono ?_
    rintro e w3 ⟨aR, cR, rfl, hR3, hb3⟩
    have HB3 := Lib.hid hb3
    have HR3 := Lib.hid hR3
    clear hb3 hR3 HTS
    have HXS : Hid (∀ W, Below (w3.alloc (.cells #[.int .i64 ((m - 1 : Nat) : Int), .slice aR R.length cR] 25)).heap.size (w3.alloc (.cells #[.int .i64 ((m - 1 : Nat) : Int), .slice aR R.length cR] 25)) W → W.cell? ⟨w3.heap.size, 0, none⟩ = some (.int .i64 ((m - 1 : Nat) : Int)) ∧ W.cell? ⟨w3.heap.size, 1, none⟩ = some (.slice aR R.length cR)) := Lib.hid (fun W hW => ⟨by rw [hW.cell (by simp)]; simp, by rw [hW.cell (by simp)]; simp⟩)
    have HB4 := Lib.hid (Below.now HB3.out (alloc_belowT w3 (.cells #[.int .i64 ((m - 1 : Nat) : Int), .slice aR R.length cR] 25)))
    have H34 := Lib.hid (alloc_belowT w3 (.cells #[.int .i64 ((m - 1 : Nat) : Int), .slice aR R.length cR] 25))
    have z0a : ∀ o, (w3.alloc o).cell? ⟨w1.heap.size, 0, none⟩ = some (.int .i64 (m : Nat)) := fun o => (HX.out _ (Below.now HB3.out (alloc_belowT w3 o))).1
    have z1a : ∀ o, (w3.alloc o).cell? ⟨w1.heap.size, 1, none⟩ = some (.slice az z.length cz) := fun o => (HX.out _ (Below.now HB3.out (alloc_belowT w3 o))).2
    go_wp2_with fail
    clear z0a z1a
    generalize w3.alloc (.cells #[.int .i64 ((m - 1 : Nat) : Int), .slice aR R.length cR] 25) = w4 at *
    refine (HOP.out _ (HZW.out _ HB4.out)).mono ?_
    rintro e w5 ⟨aO, cO, rfl, hO5, hb5⟩
    have HW6 := Lib.hid (Below.now HB4.out (Below.now hb5 (alloc_belowT w5 (.cells #[.int .i64 (m : Nat), .slice aO O.length cO] 60))))
    have HS36 := Lib.hid (Below.now H34.out (Below.now hb5 (alloc_belowT w5 (.cells #[.int .i64 (m : Nat), .slice aO O.length cO] 60))))
    have HS6 := Lib.hid (Below.now hb5 (alloc_belowT w5 (.cells #[.int .i64 (m : Nat), .slice aO O.length cO] 60)))
    have HXO : Hid (∀ W, Below (w5.alloc (.cells #[.int .i64 (m : Nat), .slice aO O.length cO] 60)).heap.size (w5.alloc (.cells #[.int .i64 (m : Nat), .slice aO O.length cO] 60)) W → W.cell? ⟨w5.heap.size, 0, none⟩ = some (.int .i64 (m : Nat)) ∧ W.cell? ⟨w5.heap.size, 1, none⟩ = some (.slice aO O.length cO)) := Lib.hid (fun W hW => ⟨by rw [hW.cell (by simp)]; simp, by rw [hW.cell (by simp)]; simp⟩)
    have HO6 : Hid (∀ W, Below (w5.alloc (.cells #[.int .i64 (m : Nat), .slice aO O.length cO] 60)).heap.size (w5.alloc (.cells #[.int .i64 (m : Nat), .slice aO O.length cO] 60)) W → IntsIn W aO O) := Lib.hid (fun W h => hO5.later (Below.now (alloc_belowT _ _) h))
    clear hO5 hb5
    go_upto_region 8 with fail
    generalize w5.alloc (.cells #[.int .i64 (m : Nat), .slice aO O.length cO] 60) = w6 at *
    have HX6 : Hid (∀ W, Below w6.heap.size w6 W → W.cell? ⟨w1.heap.size, 0, none⟩ = some (.int .i64 (m : Nat)) ∧ W.cell? ⟨w1.heap.size, 1, none⟩ = some (.slice az z.length cz) ∧ W.cell? ⟨w3.heap.size, 0, none⟩ = some (.int .i64 ((m - 1 : Nat) : Int)) ∧ W.cell? ⟨w3.heap.size, 1, none⟩ = some (.slice aR R.length cR) ∧ W.cell? ⟨w5.heap.size, 0, none⟩ = some (.int .i64 (m : Nat)) ∧ W.cell? ⟨w5.heap.size, 1, none⟩ = some (.slice aO O.length cO)) := Lib.hid (fun W hW => by
      have e1 := HX.out W (Below.now HW6.out hW)
      have e2 := HXS.out W (Below.now HS6.out hW)
      have e3 := HXO.out W hW
      exact ⟨e1.1, e1.2, e2.1, e2.2, e3.1, e3.2⟩)
    have HZ6 : Hid (∀ W, Below w6.heap.size w6 W → IntsIn W az z) := Lib.hid (fun W h => HZW.out _ (Below.now HW6.out h))
    have HC6 : Hid (Below w6.heap.size w6 w6) := Lib.hid (Below.refl _ _)
    have HBF := Lib.hid (Below.now HB1.out (Below.now HW2.out HW6.out))
    obtain ⟨z0, z1, s0, s1, o0, o1⟩ := HX6.out _ HC6.out
    clear HXS HXO
    have HR6 : Hid (∀ W, Below w6.heap.size w6 W → RulesIn W aR R) := Lib.hid (fun W h => HR3.out.later (Below.now HS36.out h))
    have HT6 : Hid (∀ W, Below w6.heap.size w6 W → Tab10 W) := Lib.hid (fun W h => HT10.out.later (Below.now HBF.out h))
    by_cases hoz : O = z
    · have hsm : m ≤ 6 := by omega
      have hoz2 : z = O := hoz.symm
      subst hoz2
      rw [decide_eq_true (rfl : z = z)] at HIC
      rw [HIS.out hsm] at HI1
      rw [HIS.out hsm] at HI2
      have t6 : ((m : Nat) : Int) ≤ 6 := by omega
      have t6b : decide (((m : Nat) : Int) ≤ 6) = true := decide_eq_true t6
      have t6c : m ≤ 6 := hsm
      go_wp2_with fail
      refine (HIC.out _ (HZ6.out _ HC6.out)).mono ?_
      rintro e w11 ⟨rfl, hb⟩
      have HC11 := Lib.hid (Below.now HC6.out hb)
      clear z0 z1 s0 s1 o0 o1 hb
      obtain ⟨z0, z1, s0, s1, o0, o1⟩ := HX6.out _ HC11.out
      go_wp2_with fail
      refine (HI1.out _ _ _ (HZ6.out _ HC11.out) (HO6.out _ HC11.out)).mono ?_
      rintro e w12 ⟨rfl, hb⟩
      have HC12 := Lib.hid (Below.now HC11.out hb)
      clear z0 z1 s0 s1 o0 o1 hb
      obtain ⟨z0, z1, s0, s1, o0, o1⟩ := HX6.out _ HC12.out
      go_wp2_with fail
      refine (HI2.out _ (HZ6.out _ HC12.out)).mono ?_
      rintro e w13 ⟨rfl, hb⟩
      have HC13 := Lib.hid (Below.now HC12.out hb)
      clear z0 z1 s0 s1 o0 o1 hb
      obtain ⟨z0, z1, s0, s1, o0, o1⟩ := HX6.out _ HC13.out
      go_wp2_with fail
      refine (HMO.out _ _ _ (HR6.out _ HC13.out) (HT6.out _ HC13.out)).mono ?_
      rintro e w7 ⟨L, P, f, aP, aL, cP, cL, hM, rfl, hoP, hoL, hb7⟩
      obtain ⟨rfl, hLl, hPz⟩ := ts_mon HTK.out hm24 (by rw [HRR.out]; exact hM)
      have hPP : P = z := hPz.trans HZZ.out
      subst hPP
      rw [hLl]
      have hb78 := Below.now hb7 (alloc_belowT w7 (.cells #[.int .i64 (m : Nat), .slice aP P.length cP] 60))
      have HB8 := Lib.hid (Below.now HC13.out hb78)
      have HXU : Hid (∀ W, Below (w7.alloc (.cells #[.int .i64 (m : Nat), .slice aP P.length cP] 60)).heap.size (w7.alloc (.cells #[.int .i64 (m : Nat), .slice aP P.length cP] 60)) W → W.cell? ⟨w7.heap.size, 0, none⟩ = some (.int .i64 (m : Nat)) ∧ W.cell? ⟨w7.heap.size, 1, none⟩ = some (.slice aP P.length cP)) := Lib.hid (fun W hW => ⟨by rw [hW.cell (by simp)]; simp, by rw [hW.cell (by simp)]; simp⟩)
      have HPI : Hid (∀ W, Below (w7.alloc (.cells #[.int .i64 (m : Nat), .slice aP P.length cP] 60)).heap.size (w7.alloc (.cells #[.int .i64 (m : Nat), .slice aP P.length cP] 60)) W → IntsIn W aP P) := Lib.hid (fun W h => (owns_ints (l := P) hoP).later (Below.now (alloc_belowT _ _) h))
      clear z0 z1 s0 s1 o0 o1
      have z0a : ∀ o, (w7.alloc o).cell? ⟨w1.heap.size, 0, none⟩ = some (.int .i64 (m : Nat)) := fun o => (HX6.out _ (Below.now HC13.out (Below.now hb7 (alloc_belowT w7 o)))).1
      have s0a : ∀ o, (w7.alloc o).cell? ⟨w3.heap.size, 0, none⟩ = some (.int .i64 ((m - 1 : Nat) : Int)) := fun o => (HX6.out _ (Below.now HC13.out (Below.now hb7 (alloc_belowT w7 o)))).2.2.1
      have s1a : ∀ o, (w7.alloc o).cell? ⟨w3.heap.size, 1, none⟩ = some (.slice aR R.length cR) := fun o => (HX6.out _ (Below.now HC13.out (Below.now hb7 (alloc_belowT w7 o)))).2.2.2.1
      clear hM hoP hoL hb7 hb78 hPz hLl HMO
      go_wp2_with fail
      refine (HCO.out _ _ _ (HR6.out _ HB8.out)).mono ?_
      rintro e w9 ⟨bc, hbc, rfl, hb9⟩
      obtain rfl : bc = true := hbc.2 HCP.out
      have HB9 := Lib.hid (Below.now HB8.out hb9)
      obtain ⟨u0, u1⟩ := HXU.out _ hb9
      obtain ⟨z0, z1, s0, s1, o0, o1⟩ := HX6.out _ HB9.out
      have HPQ := Lib.hid (HPI.out _ hb9)
      clear hb9 hbc z0a s0a s1a HXU HPI HB8
      go_wp2_with fail
      refine (lawSame_any P P aP az cP cz _ HPQ.out (HZ6.out _ HB9.out) (by omega) (by omega)).mono ?_
      rintro e w10 ⟨rfl, rfl⟩
      rw [decide_eq_true (rfl : P = P)]
      go_wp2_with fail
      go_ret
      exact ⟨rfl, Below.now HBF.out HB9.out⟩
    · have hsm : m ≤ 6 := by omega
      rw [decide_eq_false hoz] at HIC
      rw [HIS.out hsm] at HI2
      have t6 : ((m : Nat) : Int) ≤ 6 := by omega
      have t6b : decide (((m : Nat) : Int) ≤ 6) = true := decide_eq_true t6
      have t6c : m ≤ 6 := hsm
      go_wp2_with fail
      refine (HIC.out _ (HZ6.out _ HC6.out)).mono ?_
      rintro e w14 ⟨rfl, hb⟩
      have HC14 := Lib.hid (Below.now HC6.out hb)
      clear z0 z1 s0 s1 o0 o1 hb
      obtain ⟨z0, z1, s0, s1, o0, o1⟩ := HX6.out _ HC14.out
      go_wp2_with fail
      refine (HI2.out _ (HZ6.out _ HC14.out)).mono ?_
      rintro e w15 ⟨rfl, hb⟩
      have HC15 := Lib.hid (Below.now HC14.out hb)
      clear z0 z1 s0 s1 o0 o1 hb
      obtain ⟨z0, z1, s0, s1, o0, o1⟩ := HX6.out _ HC15.out
      go_wp2_with fail
      refine (HMO.out _ _ _ (HR6.out _ HC15.out) (HT6.out _ HC15.out)).mono ?_
      rintro e w7 ⟨L, P, f, aP, aL, cP, cL, hM, rfl, hoP, hoL, hb7⟩
      obtain ⟨rfl, hLl, hPz⟩ := ts_mon HTK.out hm24 (by rw [HRR.out]; exact hM)
      have hPP : P = z := hPz.trans HZZ.out
      subst hPP
      rw [hLl]
      have hb78 := Below.now hb7 (alloc_belowT w7 (.cells #[.int .i64 (m : Nat), .slice aP P.length cP] 60))
      have HB8 := Lib.hid (Below.now HC15.out hb78)
      have HXU : Hid (∀ W, Below (w7.alloc (.cells #[.int .i64 (m : Nat), .slice aP P.length cP] 60)).heap.size (w7.alloc (.cells #[.int .i64 (m : Nat), .slice aP P.length cP] 60)) W → W.cell? ⟨w7.heap.size, 0, none⟩ = some (.int .i64 (m : Nat)) ∧ W.cell? ⟨w7.heap.size, 1, none⟩ = some (.slice aP P.length cP)) := Lib.hid (fun W hW => ⟨by rw [hW.cell (by simp)]; simp, by rw [hW.cell (by simp)]; simp⟩)
      have HPI : Hid (∀ W, Below (w7.alloc (.cells #[.int .i64 (m : Nat), .slice aP P.length cP] 60)).heap.size (w7.alloc (.cells #[.int .i64 (m : Nat), .slice aP P.length cP] 60)) W → IntsIn W aP P) := Lib.hid (fun W h => (owns_ints (l := P) hoP).later (Below.now (alloc_belowT _ _) h))
      clear z0 z1 s0 s1 o0 o1
      have z0a : ∀ o, (w7.alloc o).cell? ⟨w1.heap.size, 0, none⟩ = some (.int .i64 (m : Nat)) := fun o => (HX6.out _ (Below.now HC15.out (Below.now hb7 (alloc_belowT w7 o)))).1
      have s0a : ∀ o, (w7.alloc o).cell? ⟨w3.heap.size, 0, none⟩ = some (.int .i64 ((m - 1 : Nat) : Int)) := fun o => (HX6.out _ (Below.now HC15.out (Below.now hb7 (alloc_belowT w7 o)))).2.2.1
      have s1a : ∀ o, (w7.alloc o).cell? ⟨w3.heap.size, 1, none⟩ = some (.slice aR R.length cR) := fun o => (HX6.out _ (Below.now HC15.out (Below.now hb7 (alloc_belowT w7 o)))).2.2.2.1
      clear hM hoP hoL hb7 hb78 hPz hLl HMO
      go_wp2_with fail
      refine (HCO.out _ _ _ (HR6.out _ HB8.out)).mono ?_
      rintro e w9 ⟨bc, hbc, rfl, hb9⟩
      obtain rfl : bc = true := hbc.2 HCP.out
      have HB9 := Lib.hid (Below.now HB8.out hb9)
      obtain ⟨u0, u1⟩ := HXU.out _ hb9
      obtain ⟨z0, z1, s0, s1, o0, o1⟩ := HX6.out _ HB9.out
      have HPQ := Lib.hid (HPI.out _ hb9)
      clear hb9 hbc z0a s0a s1a HXU HPI HB8
      go_wp2_with fail
      refine (lawSame_any P P aP az cP cz _ HPQ.out (HZ6.out _ HB9.out) (by omega) (by omega)).mono ?_
      rintro e w10 ⟨rfl, rfl⟩
      rw [decide_eq_true (rfl : P = P)]
      go_wp2_with fail
      go_ret
      exact ⟨rfl, Below.now HBF.out HB9.out⟩
  · have HTS := Lib.hid (fun W (h : IntsIn W az z) => implTableSystem_no m z az cz W h HT.out hm24)
    clear HT10
    by_cases h2 : 2 ≤ m
    · have t2 : (2 : Int) ≤ ((m : Nat) : Int) := by omega
      have t4 : ¬ ((m : Nat) : Int) ≤ 4 := by omega
      have t2b : decide ((2 : Int) ≤ ((m : Nat) : Int)) = true := decide_eq_true t2
      have t4b : decide (((m : Nat) : Int) ≤ 4) = false := decide_eq_false t4
      have t4c : ¬ m ≤ 4 := by omega
      have t4d : decide (m ≤ 4) = false := decide_eq_false t4c
      go_wp2_with fail
      generalize w1.alloc (.cells #[.int .i64 (m : Nat), .slice az z.length cz] 60) = w2 at *
      refine (HTS.out _ (HZW.out _ (Below.refl _ _))).mono ?_
      rintro e w3 ⟨rfl, hb3⟩
      have HB3 := Lib.hid hb3
      clear hb3 HTS
      have HXS : Hid (∀ W, Below (w3.alloc (.cells #[.int .i64 0, .slice none 0 0] 25)).heap.size (w3.alloc (.cells #[.int .i64 0, .slice none 0 0] 25)) W → W.cell? ⟨w3.heap.size, 0, none⟩ = some (.int .i64 0) ∧ W.cell? ⟨w3.heap.size, 1, none⟩ = some (.slice none 0 0)) := Lib.hid (fun W hW => ⟨by rw [hW.cell (by simp)]; simp, by rw [hW.cell (by simp)]; simp⟩)
      have HB4 := Lib.hid (Below.now HB3.out (alloc_belowT w3 (.cells #[.int .i64 0, .slice none 0 0] 25)))
      have z0a : ∀ o, (w3.alloc o).cell? ⟨w1.heap.size, 0, none⟩ = some (.int .i64 (m : Nat)) := fun o => (HX.out _ (Below.now HB3.out (alloc_belowT w3 o))).1
      have z1a : ∀ o, (w3.alloc o).cell? ⟨w1.heap.size, 1, none⟩ = some (.slice az z.length cz) := fun o => (HX.out _ (Below.now HB3.out (alloc_belowT w3 o))).2
      go_wp2_with fail
      clear z0a z1a
      generalize w3.alloc (.cells #[.int .i64 0, .slice none 0 0] 25) = w4 at *
      refine (HOP.out _ (HZW.out _ HB4.out)).mono ?_
      rintro e w5 ⟨aO, cO, rfl, hO5, hb5⟩
      have HW6 := Lib.hid (Below.now HB4.out (Below.now hb5 (alloc_belowT w5 (.cells #[.int .i64 (m : Nat), .slice aO O.length cO] 60))))
      have HS6 := Lib.hid (Below.now hb5 (alloc_belowT w5 (.cells #[.int .i64 (m : Nat), .slice aO O.length cO] 60)))
      have HXO : Hid (∀ W, Below (w5.alloc (.cells #[.int .i64 (m : Nat), .slice aO O.length cO] 60)).heap.size (w5.alloc (.cells #[.int .i64 (m : Nat), .slice aO O.length cO] 60)) W → W.cell? ⟨w5.heap.size, 0, none⟩ = some (.int .i64 (m : Nat)) ∧ W.cell? ⟨w5.heap.size, 1, none⟩ = some (.slice aO O.length cO)) := Lib.hid (fun W hW => ⟨by rw [hW.cell (by simp)]; simp, by rw [hW.cell (by simp)]; simp⟩)
      have HO6 : Hid (∀ W, Below (w5.alloc (.cells #[.int .i64 (m : Nat), .slice aO O.length cO] 60)).heap.size (w5.alloc (.cells #[.int .i64 (m : Nat), .slice aO O.length cO] 60)) W → IntsIn W aO O) := Lib.hid (fun W h => hO5.later (Below.now (alloc_belowT _ _) h))
      clear hO5 hb5
      go_upto_region 8 with fail
      generalize w5.alloc (.cells #[.int .i64 (m : Nat), .slice aO O.length cO] 60) = w6 at *
      have HX6 : Hid (∀ W, Below w6.heap.size w6 W → W.cell? ⟨w1.heap.size, 0, none⟩ = some (.int .i64 (m : Nat)) ∧ W.cell? ⟨w1.heap.size, 1, none⟩ = some (.slice az z.length cz) ∧ W.cell? ⟨w3.heap.size, 0, none⟩ = some (.int .i64 0) ∧ W.cell? ⟨w3.heap.size, 1, none⟩ = some (.slice none 0 0) ∧ W.cell? ⟨w5.heap.size, 0, none⟩ = some (.int .i64 (m : Nat)) ∧ W.cell? ⟨w5.heap.size, 1, none⟩ = some (.slice aO O.length cO)) := Lib.hid (fun W hW => by
        have e1 := HX.out W (Below.now HW6.out hW)
        have e2 := HXS.out W (Below.now HS6.out hW)
        have e3 := HXO.out W hW
        exact ⟨e1.1, e1.2, e2.1, e2.2, e3.1, e3.2⟩)
      have HZ6 : Hid (∀ W, Below w6.heap.size w6 W → IntsIn W az z) := Lib.hid (fun W h => HZW.out _ (Below.now HW6.out h))
      have HC6 : Hid (Below w6.heap.size w6 w6) := Lib.hid (Below.refl _ _)
      have HBF := Lib.hid (Below.now HB1.out (Below.now HW2.out HW6.out))
      obtain ⟨z0, z1, s0, s1, o0, o1⟩ := HX6.out _ HC6.out
      clear HXS HXO
      by_cases hoz : O = z
      · by_cases hsm : m ≤ 6
        · have hoz2 : z = O := hoz.symm
          subst hoz2
          rw [decide_eq_true (rfl : z = z)] at HIC
          rw [HIS.out hsm] at HI1
          rw [HIS.out hsm] at HI2
          have t6 : ((m : Nat) : Int) ≤ 6 := by omega
          have t6b : decide (((m : Nat) : Int) ≤ 6) = true := decide_eq_true t6
          have t6c : m ≤ 6 := hsm
          go_wp2_with fail
          refine (HIC.out _ (HZ6.out _ HC6.out)).mono ?_
          rintro e w16 ⟨rfl, hb⟩
          have HC16 := Lib.hid (Below.now HC6.out hb)
          clear z0 z1 s0 s1 o0 o1 hb
          obtain ⟨z0, z1, s0, s1, o0, o1⟩ := HX6.out _ HC16.out
          go_wp2_with fail
          refine (HI1.out _ _ _ (HZ6.out _ HC16.out) (HO6.out _ HC16.out)).mono ?_
          rintro e w17 ⟨rfl, hb⟩
          have HC17 := Lib.hid (Below.now HC16.out hb)
          clear z0 z1 s0 s1 o0 o1 hb
          obtain ⟨z0, z1, s0, s1, o0, o1⟩ := HX6.out _ HC17.out
          go_wp2_with fail
          refine (HI2.out _ (HZ6.out _ HC17.out)).mono ?_
          rintro e w18 ⟨rfl, hb⟩
          have HC18 := Lib.hid (Below.now HC17.out hb)
          clear z0 z1 s0 s1 o0 o1 hb
          obtain ⟨z0, z1, s0, s1, o0, o1⟩ := HX6.out _ HC18.out
          go_wp2_with fail
          go_ret
          exact ⟨rfl, Below.now HBF.out HC18.out⟩
        · have hoz2 : z = O := hoz.symm
          subst hoz2
          rw [decide_eq_true (rfl : z = z)] at HIC
          have t6 : ¬ ((m : Nat) : Int) ≤ 6 := by omega
          have t6b : decide (((m : Nat) : Int) ≤ 6) = false := decide_eq_false t6
          have t6c : ¬ m ≤ 6 := hsm
          have t6d : decide (m ≤ 6) = false := decide_eq_false hsm
          go_wp2_with fail
          refine (HIC.out _ (HZ6.out _ HC6.out)).mono ?_
          rintro e w19 ⟨rfl, hb⟩
          have HC19 := Lib.hid (Below.now HC6.out hb)
          clear z0 z1 s0 s1 o0 o1 hb
          obtain ⟨z0, z1, s0, s1, o0, o1⟩ := HX6.out _ HC19.out
          go_wp2_with fail
          go_ret
          exact ⟨rfl, Below.now HBF.out HC19.out⟩
      · by_cases hsm : m ≤ 6
        · rw [decide_eq_false hoz] at HIC
          rw [HIS.out hsm] at HI2
          have t6 : ((m : Nat) : Int) ≤ 6 := by omega
          have t6b : decide (((m : Nat) : Int) ≤ 6) = true := decide_eq_true t6
          have t6c : m ≤ 6 := hsm
          go_wp2_with fail
          refine (HIC.out _ (HZ6.out _ HC6.out)).mono ?_
          rintro e w20 ⟨rfl, hb⟩
          have HC20 := Lib.hid (Below.now HC6.out hb)
          clear z0 z1 s0 s1 o0 o1 hb
          obtain ⟨z0, z1, s0, s1, o0, o1⟩ := HX6.out _ HC20.out
          go_wp2_with fail
          refine (HI2.out _ (HZ6.out _ HC20.out)).mono ?_
          rintro e w21 ⟨rfl, hb⟩
          have HC21 := Lib.hid (Below.now HC20.out hb)
          clear z0 z1 s0 s1 o0 o1 hb
          obtain ⟨z0, z1, s0, s1, o0, o1⟩ := HX6.out _ HC21.out
          go_wp2_with fail
          go_ret
          exact ⟨rfl, Below.now HBF.out HC21.out⟩
        · rw [decide_eq_false hoz] at HIC
          have t6 : ¬ ((m : Nat) : Int) ≤ 6 := by omega
          have t6b : decide (((m : Nat) : Int) ≤ 6) = false := decide_eq_false t6
          have t6c : ¬ m ≤ 6 := hsm
          have t6d : decide (m ≤ 6) = false := decide_eq_false hsm
          go_wp2_with fail
          refine (HIC.out _ (HZ6.out _ HC6.out)).mono ?_
          rintro e w22 ⟨rfl, hb⟩
          have HC22 := Lib.hid (Below.now HC6.out hb)
          clear z0 z1 s0 s1 o0 o1 hb
          obtain ⟨z0, z1, s0, s1, o0, o1⟩ := HX6.out _ HC22.out
          go_wp2_with fail
          go_ret
          exact ⟨rfl, Below.now HBF.out HC22.out⟩
    · have t2 : ¬ (2 : Int) ≤ ((m : Nat) : Int) := by omega
      have t2b : decide ((2 : Int) ≤ ((m : Nat) : Int)) = false := decide_eq_false t2
      have t2d : decide (2 ≤ m) = false := decide_eq_false h2
      go_wp2_with fail
      generalize w1.alloc (.cells #[.int .i64 (m : Nat), .slice az z.length cz] 60) = w2 at *
      refine (HTS.out _ (HZW.out _ (Below.refl _ _))).mono ?_
      rintro e w3 ⟨rfl, hb3⟩
      have HB3 := Lib.hid hb3
      clear hb3 HTS
      have HXS : Hid (∀ W, Below (w3.alloc (.cells #[.int .i64 0, .slice none 0 0] 25)).heap.size (w3.alloc (.cells #[.int .i64 0, .slice none 0 0] 25)) W → W.cell? ⟨w3.heap.size, 0, none⟩ = some (.int .i64 0) ∧ W.cell? ⟨w3.heap.size, 1, none⟩ = some (.slice none 0 0)) := Lib.hid (fun W hW => ⟨by rw [hW.cell (by simp)]; simp, by rw [hW.cell (by simp)]; simp⟩)
      have HB4 := Lib.hid (Below.now HB3.out (alloc_belowT w3 (.cells #[.int .i64 0, .slice none 0 0] 25)))
      have z0a : ∀ o, (w3.alloc o).cell? ⟨w1.heap.size, 0, none⟩ = some (.int .i64 (m : Nat)) := fun o => (HX.out _ (Below.now HB3.out (alloc_belowT w3 o))).1
      have z1a : ∀ o, (w3.alloc o).cell? ⟨w1.heap.size, 1, none⟩ = some (.slice az z.length cz) := fun o => (HX.out _ (Below.now HB3.out (alloc_belowT w3 o))).2
      go_wp2_with fail
      clear z0a z1a
      generalize w3.alloc (.cells #[.int .i64 0, .slice none 0 0] 25) = w4 at *
      refine (HOP.out _ (HZW.out _ HB4.out)).mono ?_
      rintro e w5 ⟨aO, cO, rfl, hO5, hb5⟩
      have HW6 := Lib.hid (Below.now HB4.out (Below.now hb5 (alloc_belowT w5 (.cells #[.int .i64 (m : Nat), .slice aO O.length cO] 60))))
      have HS6 := Lib.hid (Below.now hb5 (alloc_belowT w5 (.cells #[.int .i64 (m : Nat), .slice aO O.length cO] 60)))
      have HXO : Hid (∀ W, Below (w5.alloc (.cells #[.int .i64 (m : Nat), .slice aO O.length cO] 60)).heap.size (w5.alloc (.cells #[.int .i64 (m : Nat), .slice aO O.length cO] 60)) W → W.cell? ⟨w5.heap.size, 0, none⟩ = some (.int .i64 (m : Nat)) ∧ W.cell? ⟨w5.heap.size, 1, none⟩ = some (.slice aO O.length cO)) := Lib.hid (fun W hW => ⟨by rw [hW.cell (by simp)]; simp, by rw [hW.cell (by simp)]; simp⟩)
      have HO6 : Hid (∀ W, Below (w5.alloc (.cells #[.int .i64 (m : Nat), .slice aO O.length cO] 60)).heap.size (w5.alloc (.cells #[.int .i64 (m : Nat), .slice aO O.length cO] 60)) W → IntsIn W aO O) := Lib.hid (fun W h => hO5.later (Below.now (alloc_belowT _ _) h))
      clear hO5 hb5
      go_upto_region 8 with fail
      generalize w5.alloc (.cells #[.int .i64 (m : Nat), .slice aO O.length cO] 60) = w6 at *
      have HX6 : Hid (∀ W, Below w6.heap.size w6 W → W.cell? ⟨w1.heap.size, 0, none⟩ = some (.int .i64 (m : Nat)) ∧ W.cell? ⟨w1.heap.size, 1, none⟩ = some (.slice az z.length cz) ∧ W.cell? ⟨w3.heap.size, 0, none⟩ = some (.int .i64 0) ∧ W.cell? ⟨w3.heap.size, 1, none⟩ = some (.slice none 0 0) ∧ W.cell? ⟨w5.heap.size, 0, none⟩ = some (.int .i64 (m : Nat)) ∧ W.cell? ⟨w5.heap.size, 1, none⟩ = some (.slice aO O.length cO)) := Lib.hid (fun W hW => by
        have e1 := HX.out W (Below.now HW6.out hW)
        have e2 := HXS.out W (Below.now HS6.out hW)
        have e3 := HXO.out W hW
        exact ⟨e1.1, e1.2, e2.1, e2.2, e3.1, e3.2⟩)
      have HZ6 : Hid (∀ W, Below w6.heap.size w6 W → IntsIn W az z) := Lib.hid (fun W h => HZW.out _ (Below.now HW6.out h))
      have HC6 : Hid (Below w6.heap.size w6 w6) := Lib.hid (Below.refl _ _)
      have HBF := Lib.hid (Below.now HB1.out (Below.now HW2.out HW6.out))
      obtain ⟨z0, z1, s0, s1, o0, o1⟩ := HX6.out _ HC6.out
      clear HXS HXO
      by_cases hoz : O = z
      · have hsm : m ≤ 6 := by omega
        have hoz2 : z = O := hoz.symm
        subst hoz2
        rw [decide_eq_true (rfl : z = z)] at HIC
        rw [HIS.out hsm] at HI1
        rw [HIS.out hsm] at HI2
        have t6 : ((m : Nat) : Int) ≤ 6 := by omega
        have t6b : decide (((m : Nat) : Int) ≤ 6) = true := decide_eq_true t6
        have t6c : m ≤ 6 := hsm
        go_wp2_with fail
        refine (HIC.out _ (HZ6.out _ HC6.out)).mono ?_
        rintro e w23 ⟨rfl, hb⟩
        have HC23 := Lib.hid (Below.now HC6.out hb)
        clear z0 z1 s0 s1 o0 o1 hb
        obtain ⟨z0, z1, s0, s1, o0, o1⟩ := HX6.out _ HC23.out
        go_wp2_with fail
        refine (HI1.out _ _ _ (HZ6.out _ HC23.out) (HO6.out _ HC23.out)).mono ?_
        rintro e w24 ⟨rfl, hb⟩
        have HC24 := Lib.hid (Below.now HC23.out hb)
        clear z0 z1 s0 s1 o0 o1 hb
        obtain ⟨z0, z1, s0, s1, o0, o1⟩ := HX6.out _ HC24.out
        go_wp2_with fail
        refine (HI2.out _ (HZ6.out _ HC24.out)).mono ?_
        rintro e w25 ⟨rfl, hb⟩
        have HC25 := Lib.hid (Below.now HC24.out hb)
        clear z0 z1 s0 s1 o0 o1 hb
        obtain ⟨z0, z1, s0, s1, o0, o1⟩ := HX6.out _ HC25.out
        go_wp2_with fail
        go_ret
        exact ⟨rfl, Below.now HBF.out HC25.out⟩
      · have hsm : m ≤ 6 := by omega
        rw [decide_eq_false hoz] at HIC
        rw [HIS.out hsm] at HI2
        have t6 : ((m : Nat) : Int) ≤ 6 := by omega
        have t6b : decide (((m : Nat) : Int) ≤ 6) = true := decide_eq_true t6
        have t6c : m ≤ 6 := hsm
        go_wp2_with fail
        refine (HIC.out _ (HZ6.out _ HC6.out)).mono ?_
        rintro e w26 ⟨rfl, hb⟩
        have HC26 := Lib.hid (Below.now HC6.out hb)
        clear z0 z1 s0 s1 o0 o1 hb
        obtain ⟨z0, z1, s0, s1, o0, o1⟩ := HX6.out _ HC26.out
        go_wp2_with fail
        refine (HI2.out _ (HZ6.out _ HC26.out)).mono ?_
        rintro e w27 ⟨rfl, hb⟩
        have HC27 := Lib.hid (Below.now HC26.out hb)
        clear z0 z1 s0 s1 o0 o1 hb
        obtain ⟨z0, z1, s0, s1, o0, o1⟩ := HX6.out _ HC27.out
        go_wp2_with fail
        go_ret
        exact ⟨rfl, Below.now HBF.out HC27.out⟩
theorem walkBig (a : Option Addr) (n cap : Nat) (w : World) (hn : n ≤ 9223372036854775807) (hlen : 1048576 < n) :
    Calls Tryz.prog 5 #[.slice a n cap] w fun e w' => e = .returned (.bool true) ∧ Below w.heap.size w w' := by
  have hq0 : (1048576 : Int) < (n : Int) := by omega
  go_enter Tryz.func5, Tryz.ntmps5
  go_wp2_with fail
  go_ret
  exact ⟨rfl, Below.refl _ _⟩
end Go.Proofs.YtdhaebbfiaddnaaGreatDoor.fnTableSystems
namespace Go.Proofs.YtdhaebbfiaddnaaGreatDoor
open Go.ChangeShapes Go.WideShapes Go.ChangeAt Go.RowKit Go.Joins Go.Deep
set_option linter.unusedVariables false
theorem open_bytesIn {H : Type} {enc : TypeId × Value → H} {P : Program} {w : World} {r : Go.Reach} {b0 : Nat} {t e : TypeId} {v : Value} {d : DataW H} {p : List MemPlace} (ht : P.underlying t = some (.slice e)) (he : P.underlying e = some (.int .u8)) (hc : P.cellsOf e = 1)
    (hv : Value.okWide P w r b0 t v) (h : DataW.Trod enc P w 0 (fun _ => true) true t v d p) : ∃ a l cap, v = .slice a (List.length (α := UInt8) l) cap ∧ BytesIn w a l ∧ l.length ≤ 9223372036854775807 := by
  obtain ⟨a0, len0, cap0, rfl⟩ := okWide_slice ht hv
  obtain ⟨fuel, hf⟩ := h
  rcases open_ints ht he hc hf with ⟨hcs, _⟩ | ⟨a, len, cap, zs, hcs, _, hl, hm, hz, _, hcell, hwz⟩
  · have e : (Value.slice a0 len0 cap0) = .slice none 0 0 := by simpa [Value.cells] using hcs
    rw [e]
    exact ⟨none, [], 0, rfl, .inl rfl, by simp⟩
  · have e : (Value.slice a0 len0 cap0) = .slice (some a) len cap := by simpa [Value.cells] using hcs
    rw [e]
    simp only [if_true] at hz
    have hlen : ((zs.take len).map fun n => UInt8.ofNat n.toNat).length = len := by rw [List.length_map, List.length_take]; omega
    refine ⟨some a, (zs.take len).map fun n => UInt8.ofNat n.toNat, cap, by rw [hlen], ?_, by rw [hlen]; unfold maxLen at hm; omega⟩
    by_cases h0 : len = 0
    · left; subst h0; simp
    · obtain ⟨b, off, rfl, hc'⟩ := ints_at hcell (by omega)
      right
      refine ⟨b, off, rfl, fun i hi => ?_⟩
      rw [List.length_map, hlen] at hi
      rw [hc' i (by omega)]
      have hb := range_u8 hwz i
      rw [List.getElem?_eq_getElem (show i < zs.length by omega), Option.getD_some] at hb
      have e : zs.getD i 0 = zs[i]'(by omega) := by simp [List.getD, List.getElem?_eq_getElem (show i < zs.length by omega)]
      simp only [List.getElem_map, List.getElem_take]
      rw [e]
      congr 2
      simp only [UInt8.toNat_ofNat']
      omega
end Go.Proofs.YtdhaebbfiaddnaaGreatDoor
namespace Go.Proofs.YtdhaebbfiaddnaaGreatDoor.fnTableSystems
open Go.ChangeShapes Go.WideShapes Go.ChangeAt Go.RowKit Go.Joins
open Go.ChangeMaps (open_string shut_string)
set_option linter.unusedVariables false
theorem own : ownKnob Tryz.prog.godebug = none := by kernel_rfl
theorem cellsB : Tryz.prog.cellsOf 5 = 1 := by kernel_rfl
theorem laidOut : laidOutB Tryz.prog = true := by kernel_rfl
theorem rdT : Tryz.prog.readableRec 22 = true ∧ 22 < Tryz.prog.types.size := ⟨by kernel_rfl, of_decide_eq_true (by kernel_rfl)⟩
theorem rd : ∀ t ∈ Tryz.f5.params.toList, Tryz.prog.readableRec t = true ∧ t < Tryz.prog.types.size := by
  rw [Tryz.params5]
  intro t ht
  simp at ht
  subst ht
  exact rdT
theorem door_met (os : Os) (args : Array Value) : laidMetH Tryz.prog Rows.fnTableSystemsRow.laid ((World.doorLaid Tryz.prog 24 os).forCall (fun _ _ => 0) ⟨#[], args, []⟩).memory :=
  laidMetH_of_parts3 (fuel := 8) (laidMet_of_run' 8 (by kernel_rfl) (by kernel_rfl)) (by kernel_rfl) (by kernel_rfl)
theorem tab_laid {W : World} (h : laidMetH Tryz.prog Rows.fnTableSystemsRow.laid W) : Tab10 W := by
  rw [MakeChecks.laidMetH_plain _ _ _ (by kernel_rfl)] at h
  have h3 : laidMet Tryz.prog [("internal/strconv.uint64pow10", Lib.tabData .u64 Lib.pow10Tab)] W := by
    have e : (Rows.laid_internal_strconv_uint64pow10 : DataW Unit) = Lib.tabData .u64 Lib.pow10Tab := by kernel_rfl
    rw [← e]
    exact laidMet.tail (laidMet.tail h)
  exact Lib.tabIs_of_head (rest := []) (g := 0) (by kernel_rfl) (by kernel_rfl) Tryz.underlying177 Tryz.underlying159 (by kernel_rfl) (by kernel_rfl) h3
theorem walk (a : Option Addr) (l : List UInt8) (cap : Nat) (w : World) (hl : BytesIn w a l) (hn : l.length ≤ 9223372036854775807) (ht : Tab10 w) :
    Calls Tryz.prog 5 #[.slice a l.length cap] w fun e w' => e = .returned (.bool true) ∧ Below w.heap.size w w' := by
  by_cases h : l.length ≤ 1048576
  · exact walkSmall a l cap w hl h ht
  · exact walkBig a l.length cap w hn (by omega)
set_option maxRecDepth 100000 in
theorem lifted (os : Os) (started : os.Started) (H : Type) (enc : TypeId × Value → H) :
    ReturnsInHanded {} Tryz.checked os 5 .any (fun w args => (Rows.fnTableSystemsSpec.pre enc Tryz.prog Tryz.f5 [] false w args ∧ laidMetH Tryz.prog Rows.fnTableSystemsRow.laid w) ∧ sizedMet enc Tryz.prog Tryz.f5 (OpenSpec.ofChange Rows.fnTableSystemsSpec) false w args)
      (Rows.fnTableSystemsSpec.post enc Tryz.prog Tryz.f5 false true false false) := by
  refine returnsInHanded_of_change_and (C := Tryz.checked) (X := fun w _ => laidMetH Tryz.prog Rows.fnTableSystemsRow.laid w) (fun _ _ _ hh h => h.of_heap hh) own started (by kernel_rfl) Tryz.func5
    (ChangeSpec.witness_shaped (enc := enc) (C := Tryz.checked) (os := os) (X := fun w _ => laidMetH Tryz.prog Rows.fnTableSystemsRow.laid w) false (World.doorLaid Tryz.prog 24 os) #[.slice none 0 0] 8 rfl (World.shaped_of_RefB (by kernel_rfl) (by kernel_rfl)) (by kernel_rfl) (by kernel_rfl) (by kernel_rfl) (door_met os _)) ?_
  intro W base args ds gs before hval0 hW _ _ hL _
  have ht := tab_laid hL
  have hval : ∀ (j : Nat) t v, Tryz.f5.params[j]? = some t → args[j]? = some v → Value.okWide Tryz.prog W .any base t v := hval0
  have hW' := hW
  obtain ⟨p, q, hA0, hV, rfl, hfz, hnd⟩ := hW
  have hA : DataW.TrodAll enc Tryz.prog W 0 (fun _ => true) true Tryz.f5.params.toList args.toList ds p := hA0
  rw [Tryz.params5] at hA hval
  obtain ⟨v0, vs0, d0, ds0, p0, q0, hargs, rfl, rfl, h0, r0⟩ := trodAll_cons hA
  obtain ⟨rfl, rfl, rfl⟩ := trodAll_nil r0
  obtain rfl : args = #[v0] := by cases args; simp_all
  obtain ⟨rfl, rfl⟩ := trodVars_none hV
  obtain ⟨a0, l0, c0, rfl, hl0, hn0⟩ := open_bytesIn Tryz.underlying22 Tryz.underlying5 cellsB (hval 0 22 v0 rfl rfl) h0
  clear hA0 hval0
  refine (walk a0 l0 c0 W hl0 hn0 ht).mono fun e W' ⟨he, hg⟩ => ?_
  subst he
  exact ⟨_, rfl, law_post laidOut rd rfl hW' rfl Tryz.underlying4 rfl hg⟩
theorem over : Rows.fnTableSystemsRow.holds Tryz.pinned (OpenSpec.ofChange Rows.fnTableSystemsSpec) :=
  OpenClaim.holds_of_wide 5 Tryz.f5 rfl rfl rfl rfl rfl rfl rfl ⟨rfl, rfl, rfl, rfl, rfl⟩ rfl rfl rfl rfl rfl (by kernel_rfl) Tryz.func5 (by kernel_rfl)
    (of_decide_eq_true (by kernel_rfl)) (by unfold Func.isWrapper; first | (rw [if_pos (by decide +kernel)]; kernel_rfl) | (rw [if_neg (by decide +kernel)]; exact ⟨rfl, rfl⟩))
    (fun os started H enc _ => lifted os started H enc)
theorem proved : Rows.FnTableSystemsCardSaid :=
  Claim7.holds_tied_plain_at .later [] [.data, .data, .data] true (true, "ac59f0413169a81ea2b72a0f3e8c110ff1de9675cd288bc8653110e8d77400d4") false
    over (fun _ h => by cases h) (by kernel_rfl) (fun _ h => by cases h) fnTableSystems_row_tie rfl ⟨rfl, rfl⟩ (by kernel_rfl) rfl
    (fun f fn hf hfn => by
      obtain rfl : f = 5 := Option.some.inj ((show Tryz.prog.funcNamed "loop.example/g03201/laws.FnTableSystems" = some 5 by kernel_rfl).symm.trans hf) |>.symm
      obtain rfl : fn = Tryz.f5 := (Option.some.inj (Tryz.func5.symm.trans hfn)).symm
      exact ⟨by kernel_rfl, fun j t ht => by
        rw [Tryz.params5] at ht
        have hm : t ∈ [22] := by simpa using Array.mem_of_getElem? ht
        have hall : ([22].all fun u => !Tryz.prog.wantsStandIn u) = true := by kernel_rfl
        exact (show Tryz.prog.wantsStandIn t = false by simpa using List.all_eq_true.1 hall t hm)⟩)
    (by kernel_rfl)
#print axioms proved
end Go.Proofs.YtdhaebbfiaddnaaGreatDoor.fnTableSystems
