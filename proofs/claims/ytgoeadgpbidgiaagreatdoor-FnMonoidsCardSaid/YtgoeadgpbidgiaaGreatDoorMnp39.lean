/-
  The walk of 'FnMonoids' (printed by monoids.py).
-/
import Derived.Test.YtgoeadgpbidgiaaGreatDoorMnp27
import Derived.Test.YtgoeadgpbidgiaaGreatDoorMnp37
import Derived.Test.YtgoeadgpbidgiaaGreatDoorMnp38
import Derived.Test.YtgoeadgpbidgiaaGreatDoorMnp09
import Derived.Test.YtgoeadgpbidgiaaGreatDoorMnp21
import Derived.Test.YtgoeadgpbidgiaaGreatDoorMnp23
import Derived.Test.YtgoeadgpbidgiaaGreatDoorMnp03
namespace Go.Proofs.YtgoeadgpbidgiaaGreatDoor.fnMonoids
open Go.RowKit
set_option linter.unusedVariables false
theorem abcd_at {j : Nat} (h : j < 4) : (⟨#[97, 98, 99, 100]⟩ : ByteArray).extract j (j + 1) = letterN j := by
  match j, h with
  | 0, _ => rfl
  | 1, _ => rfl
  | 2, _ => rfl
  | 3, _ => rfl
set_option maxRecDepth 100000 in
set_option maxHeartbeats 8000000 in
theorem walkSmall (a : Option Addr) (l : List UInt8) (cap : Nat) (w : World) (hl : BytesIn w a l) (hlen : l.length ≤ 1048576) (ht : Tab10 w) :
    Calls Tryz.prog 5 #[.slice a l.length cap] w fun e w' => e = .returned (.bool true) ∧ Below w.heap.size w w' := by
  have hq0 : ¬ (1048576 : Int) < (l.length : Int) := by omega
  have HM := Lib.hid (specMakeComplete_any a l cap 0 w hl (by omega) (by omega))
  have HNUM := Lib.hid (fun n (hn : n ≤ 1000) W (h : BytesIn W a l) => makeNum_any a l cap n W h (by omega) hn)
  have HBY0 := Lib.hid hl
  have HTB := Lib.hid ht
  clear hl ht
  go_enter Tryz.func5, Tryz.ntmps5
  go_wp2_with fail
  refine HM.out.mono ?_
  rintro e w1 ⟨k, R, aR, cR, hcom, rfl, hR, hb1⟩
  obtain ⟨kn, rfl⟩ : ∃ kn : Nat, k = (kn : Int) := ⟨k.toNat, by have := hcom.1.1.1.1; omega⟩
  have hk1 : 1 ≤ kn := by have := hcom.1.1.1.1; omega
  have hk4 : kn ≤ 4 := by have := hcom.1.1.1.1; omega
  have hR12 : R.length ≤ 12 := hcom.1.1.1.2
  have HCM := Lib.hid hcom
  have hSz : SzR R := szR_of hcom.1
  have HMO := Lib.hid (fun W h hT => implMonoidOf_any (kn : Int) R aR cR W h (by omega) hSz hT)
  have HLG := Lib.hid (fun W h => implLongestReduced_any (kn : Int) R aR cR W h (by omega) hSz)
  have HCA := Lib.hid (fun W h => implCountAll_any (kn : Int) R aR cR W h (by omega) hSz)
  have HNF : Hid (∀ u W, RulesIn W aR R → wordOkB (kn : Int) u = true → Calls Tryz.prog 15 #[.agg #[.int .i64 (kn : Int), .slice aR R.length cR], .string u] W fun e w' => e = .returned (.tuple #[.string (nfC R u), .bool true]) ∧ Below W.heap.size W w') := Lib.hid (fun u W h hw => (implNormalForm_ok (kn : Int) R aR cR u W h hcom.1 hw).mono fun e w' ⟨x, hx, he, hb⟩ => ⟨by rw [nfC_eq hx]; exact he, hb⟩)
  have HIF := Lib.hid (fun n z aT cT zq az cz W h1 h2 h3 h4 h5 hT => implIsFaithful_any (kn : Int) R aR cR n z aT cT zq az cz W h1 (by omega) hSz h2 h3 h4 h5 hT)
  have HB1 := Lib.hid hb1
  have HR1 := Lib.hid hR
  clear hcom hSz hR hb1 HM
  go_upto_region 4 with fail
  have HB2 := Lib.hid (alloc_belowS w1 (.cells #[.int .i64 (kn : Int), .slice aR R.length cR] 33))
  have HXS : Hid (∀ W, Below (w1.alloc (.cells #[.int .i64 (kn : Int), .slice aR R.length cR] 33)).heap.size (w1.alloc (.cells #[.int .i64 (kn : Int), .slice aR R.length cR] 33)) W → (W.cell? ⟨w1.heap.size, 0, none⟩ = some (.int .i64 (kn : Int)) ∧ W.cell? ⟨w1.heap.size, 1, none⟩ = some (.slice aR R.length cR)) ∧ RulesIn W aR R ∧ BytesIn W a l ∧ Tab10 W) := Lib.hid (fun W hW => ⟨⟨by rw [hW.cell (by simp)]; simp, by rw [hW.cell (by simp)]; simp⟩, (HR1.out.later HB2.out).later hW, (HBY0.out.later (Below.now HB1.out HB2.out)).later hW, (HTB.out.later (Below.now HB1.out HB2.out)).later hW⟩)
  have HBW := Lib.hid (Below.now HB1.out HB2.out)
  clear HB2 HR1 HBY0 HTB HB1
  generalize hg1 : w1.heap.size = g1 at *
  clear hg1
  generalize (w1.alloc (.cells #[.int .i64 (kn : Int), .slice aR R.length cR] 33)) = w2 at *
  obtain ⟨⟨s0, s1⟩, hR2, hY2, hT2⟩ := HXS.out w2 (Below.refl _ _)
  have HR2 := Lib.hid hR2
  have HT2 := Lib.hid hT2
  clear hR2 hY2 hT2
  go_wp2_with fail
  refine (HMO.out _ HR2.out HT2.out).mono ?_
  rintro e w3 ⟨L, P, f, aP, aL, cP, cL, hmon, rfl, hoP, hoL, hb3⟩
  have HMN := Lib.hid hmon
  have HPI := Lib.hid (owns_ints hoP)
  have HLI := Lib.hid (owns_strs hoL)
  have HB3 := Lib.hid hb3
  clear s0 s1 hmon hoP hoL hb3 HR2 HT2
  obtain ⟨m, hm⟩ : ∃ m, L.length = m := ⟨_, rfl⟩
  rw [hm]
  go_upto_region 5 with fail
  have HB4 := Lib.hid (alloc_belowS w3 (.cells #[.int .i64 (m : Nat), .slice aP P.length cP] 47))
  have HXT : Hid (∀ W, Below (w3.alloc (.cells #[.int .i64 (m : Nat), .slice aP P.length cP] 47)).heap.size (w3.alloc (.cells #[.int .i64 (m : Nat), .slice aP P.length cP] 47)) W → ((W.cell? ⟨g1, 0, none⟩ = some (.int .i64 (kn : Int)) ∧ W.cell? ⟨g1, 1, none⟩ = some (.slice aR R.length cR)) ∧ RulesIn W aR R ∧ BytesIn W a l ∧ Tab10 W) ∧ (W.cell? ⟨w3.heap.size, 0, none⟩ = some (.int .i64 (m : Nat)) ∧ W.cell? ⟨w3.heap.size, 1, none⟩ = some (.slice aP P.length cP)) ∧ IntsIn W aP P ∧ StrsIn W aL L) := Lib.hid (fun W hW =>
    ⟨HXS.out W (Below.now (Below.now HB3.out HB4.out) hW), ⟨by rw [hW.cell (by simp)]; simp, by rw [hW.cell (by simp)]; simp⟩, (HPI.out.later HB4.out).later hW, (HLI.out.later HB4.out).later hW⟩)
  have HBW4 := Lib.hid (Below.now HBW.out (Below.now HB3.out HB4.out))
  clear HXS HB3 HB4 HPI HLI HBW
  generalize hg3 : w3.heap.size = g3 at *
  clear hg3
  generalize (w3.alloc (.cells #[.int .i64 (m : Nat), .slice aP P.length cP] 47)) = w4 at *
  obtain ⟨⟨⟨s0, s1⟩, hR4, -, -⟩, -⟩ := HXT.out w4 (Below.refl _ _)
  have HR4 := Lib.hid hR4
  have HML := Lib.hid hm
  clear hR4 hm
  go_wp2_with fail
  refine (HLG.out _ HR4.out).mono ?_
  rintro e w5 ⟨h, hlg, rfl, hb5⟩
  have HLGI := Lib.hid hlg
  have HB5 := Lib.hid hb5
  clear s0 s1 hlg hb5 HR4
  cases f
  · by_cases hneg : h < 0
    · go_wp2_with fail
      go_ret
      exact ⟨rfl, Below.now HBW4.out HB5.out⟩
    · by_cases h8 : 8 < h
      · go_wp2_with fail
        go_ret
        exact ⟨rfl, Below.now HBW4.out HB5.out⟩
      · obtain ⟨⟨⟨s0, s1⟩, hR5, -, -⟩, -⟩ := HXT.out w5 HB5.out
        have HR5 := Lib.hid hR5
        clear hR5
        go_wp2_with fail
        refine (HCA.out _ HR5.out).mono ?_
        rintro e w6 ⟨c, hcn, rfl, hb6⟩
        have h40 : 40 < c := mon_no HCM.out HMN.out HLGI.out (by omega) (by omega) hcn
        have HB6 := Lib.hid (Below.now HBW4.out (Below.now HB5.out hb6))
        clear s0 s1 hcn hb6
        go_wp2_with fail
        go_ret
        exact ⟨rfl, HB6.out⟩
  · obtain ⟨ln, hP, hTab, hG⟩ := mon_table HMN.out
    have hm1 : 1 ≤ m := by have := hG.pos; have := HML.out; omega
    have hm40 : m ≤ 40 := by have := hG.few; have := HML.out; omega
    have HG := Lib.hid hG
    have HP := Lib.hid hP
    have hPl : P.length = m * m := by rw [hP, List.length_map, hG.len, HML.out]
    have hsq := sq_le hm40
    have hTG : TabG m P := by rw [← HML.out]; exact ⟨ln, hP, hTab⟩
    have hhd : nthS L 0 = ⟨#[]⟩ := hG.head
    have HTO : Hid (∀ W, IntsIn W aP P → Calls Tryz.prog 23 #[.agg #[.int .i64 (m : Nat), .slice aP P.length cP]] W fun e w' => e = .returned (.bool true) ∧ Below W.heap.size W w') := Lib.hid (fun W hW => by
      have := implTableOk_any (m : Nat) P aP cP W hW (by omega)
      rw [hTG.tab] at this
      exact this)
    have HPR := Lib.hid (fun i q W h hi hq => implProductOf_ok m P aP cP i q W h hTG hi hq)
    clear hG hP hTab hTG hPl hsq
    obtain ⟨⟨⟨s0, s1⟩, -⟩, ⟨t0, t1⟩, hPI, hLI⟩ := HXT.out w5 HB5.out
    have HPI5 := Lib.hid hPI
    clear hPI
    go_wp2_with fail
    refine (HTO.out _ HPI5.out).mono ?_
    rintro e w6 ⟨rfl, hb6⟩
    have HB6 := Lib.hid (Below.now HB5.out hb6)
    clear s0 s1 t0 t1 hLI hb6 HPI5 HTO HLG HLGI HCA
    obtain ⟨⟨⟨s0, s1⟩, -⟩, ⟨t0, t1⟩, hPI, hLI⟩ := HXT.out w6 HB6.out
    obtain ⟨bL, oL, rfl, hbL, hcL⟩ := hLI.cell (i := 0) (by rw [HML.out]; omega)
    have l0 : w6.cell? ⟨bL, oL, none⟩ = some (.string ⟨#[]⟩) := by
      have := hcL 0 (by rw [HML.out]; omega)
      rw [Nat.add_zero, hhd] at this
      exact this
    have HLC : Hid (∀ W, Below w6.heap.size w6 W → ∀ i, i < m → W.cell? ⟨bL, oL + i, none⟩ = some (.string (nthS L i))) := Lib.hid (fun W hW i hi => by
      rw [hW.cell hbL]; exact hcL i (by rw [HML.out]; exact hi))
    have hmz : ((m : Int) == 0) = false := by rw [beq_eq_false_iff_ne]; omega
    have hmpos : (0 : Int) < (m : Int) := by omega
    clear hhd hcL hPI hLI
    go_upto_region 10 with fail
    clear s0 s1 t0 t1 l0
    obtain ⟨⟨-, -, hY6, -⟩, -⟩ := HXT.out w6 HB6.out
    have HY6 := Lib.hid hY6
    clear hY6
    go_wp2_with fail
    refine (HNUM.out 40 (by omega) _ HY6.out).mono ?_
    rintro e w7 ⟨x, hx, rfl, hb7⟩
    have HB67 := Lib.hid hb7
    obtain ⟨i, hi, hie⟩ : ∃ i, i < m ∧ ((x : Int)).tmod (m : Int) = ((i : Nat) : Int) := ⟨x % m, Nat.mod_lt _ (by omega), (Int.ofNat_tmod x m).symm⟩
    have hmnz : ¬ m = 0 := by omega
    have hi40 : i ≤ 40 := by omega
    obtain ⟨⟨-, -, hY7, -⟩, -⟩ := HXT.out w7 (Below.now HB6.out HB67.out)
    have HY7 := Lib.hid hY7
    clear hY7 hb7 hx HY6
    go_wp2_with fail
    refine (HNUM.out 42 (by omega) _ HY7.out).mono ?_
    rintro e w8 ⟨y, hy, rfl, hb8⟩
    have HB68 := Lib.hid (Below.now HB67.out hb8)
    obtain ⟨q, hq, hqe⟩ : ∃ q, q < m ∧ ((y : Int)).tmod (m : Int) = ((q : Nat) : Int) := ⟨y % m, Nat.mod_lt _ (by omega), (Int.ofNat_tmod y m).symm⟩
    have hq40 : q ≤ 40 := by omega
    obtain ⟨⟨⟨s0, s1⟩, -⟩, ⟨t0, t1⟩, hPI, -⟩ := HXT.out w8 (Below.now HB6.out HB68.out)
    have HPI8 := Lib.hid hPI
    clear hPI hb8 hy HY7 hie
    go_wp2_with fail
    obtain ⟨p, hpe⟩ : ∃ p, tm m (P.map Int.toNat) i q = p := ⟨_, rfl⟩
    have hpp : p < m ∧ NormIs R (nthS L i ++ nthS L q) (nthS L p) := by
      rw [← hpe, HP.out, map_toNat', ← HML.out]
      exact HG.out.prod i q (by rw [HML.out]; exact hi) (by rw [HML.out]; exact hq)
    have hp := hpp.1
    have HMW := Lib.hid HMN.out.goM.2
    have hpair := HMW.out.pair (i := i) (j := q) (by rw [HML.out]; exact hi) (by rw [HML.out]; exact hq)
    have HNU : Hid (∀ W, RulesIn W aR R → Calls Tryz.prog 15 #[.agg #[.int .i64 (kn : Int), .slice aR R.length cR], .string (nthS L i ++ nthS L q)] W fun e w' => e = .returned (.tuple #[.string (nthS L p), .bool true]) ∧ Below W.heap.size W w') := Lib.hid (fun W hW => by
      have := HNF.out (nthS L i ++ nthS L q) W hW hpair.1
      rw [nfC_eq hpp.2] at this
      exact this)
    have HPQ := Lib.hid (HPR.out i q _ HPI8.out hi hq)
    rw [hpe] at HPQ
    have hsum := hpair.2
    clear hpe hpp hpair HPR
    refine HPQ.out.mono ?_
    rintro e w9 ⟨rfl, hb9⟩
    have HB69 := Lib.hid (Below.now HB68.out hb9)
    clear s0 s1 t0 t1 hb9 HPQ HPI8
    obtain ⟨⟨⟨s0, s1⟩, hR9, -⟩, -⟩ := HXT.out w9 (Below.now HB6.out HB69.out)
    have k0 : ∀ x, (wide w9 x).cell? ⟨g1, 0, none⟩ = some (.int .i64 (kn : Int)) := wide_cell s0
    have k1 : ∀ x, (wide w9 x).cell? ⟨g1, 1, none⟩ = some (.slice aR R.length cR) := wide_cell s1
    have k2 : ∀ x, (wide w9 x).cell? ⟨bL, oL + i, none⟩ = some (.string (nthS L i)) := wide_cell (HLC.out _ HB69.out i hi)
    have k3 : ∀ x, (wide w9 x).cell? ⟨bL, oL + q, none⟩ = some (.string (nthS L q)) := wide_cell (HLC.out _ HB69.out q hq)
    have HRW : Hid (∀ x, RulesIn (wide w9 x) aR R) := Lib.hid (fun x => hR9.later (below_wide _ _))
    have hi2 : (i : Int) < (m : Int) := by omega
    have hq2 : (q : Int) < (m : Int) := by omega
    have n1 : ¬ 9223372036854775807 < (nthS L i).size + (nthS L q).size := by omega
    clear s0 s1 hR9
    go_upto_region 13 with fail
    refine region_wide (by kernel_rfl) (by kernel_rfl) ?_
    repeat (quiet_step ((go_at_call 15; refine (HNU.out _ (HRW.out _)).mono ?_; rintro e wx ⟨rfl, hbx⟩; exact ⟨rfl, wide_next hbx⟩)))
    refine wpQuiet_nil ?_
    rintro w10 ⟨x10, rfl⟩
    have HB610 := Lib.hid (Below.now HB69.out (below_wide w9 x10))
    generalize wide w9 x10 = w10 at *
    have lp := HLC.out _ HB610.out p hp
    have hp2 : ¬ (m : Int) ≤ (p : Int) := by omega
    have hp3 : ¬ (p : Int) < 0 := by omega
    have hp4 : (p : Int) < (m : Int) := by omega
    clear k0 k1 k2 k3 HRW HNU n1 HB69 HB68 HB67 hsum
    go_upto_region 16 with fail
    clear lp hp2 hp3 hp4
    have HSE := Lib.hid (Bld.empty 3 1 w10)
    go_wp2_with fail
    go_loopw [14, 15] (fun v c wr => ∃ (j : Nat) (zq : List Nat), j ≤ kn ∧ c = .int .i64 (j : Nat) ∧ Hid (ImgP R L j zq) ∧ Hid (Bld 3 1 w10 wr v j (intVals (zq.map Int.ofNat)))) (fun _ c _ => kn - (intOf c).toNat)
    case atStart => exact ⟨0, [], Nat.zero_le _, rfl, Lib.hid (ImgP.start R L), HSE⟩
    case round =>
      clear HSE
      obtain ⟨j, zq, hj, rfl, HIM, HBD⟩ := hrel
      obtain ⟨a3, c3, rfl⟩ := owns_form HBD.out.1
      have HBR := Lib.hid (Below.now HB610.out HBD.out.2)
      obtain ⟨⟨⟨s0, s1⟩, hRr, -⟩, -⟩ := HXT.out wr (Below.now HB6.out HBR.out)
      by_cases hlt : j < kn
      · obtain ⟨pj, hpj, hpe, hpn⟩ := mon_idx HG.out HCM.out (letterN j) (letter_ok hlt hk4)
        rw [HML.out] at hpj
        have HNJ : Hid (∀ W, RulesIn W aR R → Calls Tryz.prog 15 #[.agg #[.int .i64 (kn : Int), .slice aR R.length cR], .string (letterN j)] W fun e w' => e = .returned (.tuple #[.string (nthS L pj), .bool true]) ∧ Below W.heap.size W w') := Lib.hid (fun W hW => by
          have := HNF.out (letterN j) W hW (letter_ok hlt hk4)
          rw [← hpe] at this
          exact this)
        have HIN : Hid (ImgP R L (j + 1) (zq ++ [pj])) := Lib.hid (HIM.out.next (by rw [HML.out]; exact hpj) hpn)
        have HZL := Lib.hid HIM.out.len
        have hjk : (j : Int) < (kn : Int) := by omega
        have hj6 : (0 : Int) ≤ (j : Int) + 1 := by omega
        have hj7 : (j : Int) ≤ (j : Int) + 1 := by omega
        have hj8 : ¬ (j : Int) + 1 < (j : Int) := by omega
        have hw1 : IntKind.i64.wrap ((j : Int) + 1) = ((j + 1 : Nat) : Int) := by rw [IntWalk.i64_in _ ⟨by omega, by omega⟩]; omega
        have hj4 : j < 4 := by omega
        have hj5 : (j : Int) + 1 ≤ 4 := by omega
        clear hRr hpe hpn HIM
        have HBRE := Lib.hid (Below.now HB6.out HBR.out)
        go_upto_region 20 with fail
        clear s0 s1
        refine region_each (fun W => Below wr.heap.size wr W) (fun W W2 => Below W.heap.size W W2) (fun u => by simp only [fPut, Act.put, List.setIfInBounds_toArray, List.set_cons_succ, List.set_cons_zero, Nat.zero_add, Nat.reduceAdd]; rfl) (by kernel_rfl) (by kernel_rfl) (by kernel_rfl) (Below.drew (Below.refl _ _)) ?_
        apply each_read (fun _ => Below.refl _ _) rfl
        · intro u wv hC hf
          obtain ⟨⟨⟨s0, s1⟩, hRW, -, -⟩, -⟩ := HXT.out wv (Below.now HBRE.out hC)
          clear hf
          go_simp
          try rfl
        apply each_read (fun _ => Below.refl _ _) rfl
        · intro u wv hC hf
          obtain ⟨⟨⟨s0, s1⟩, hRW, -, -⟩, -⟩ := HXT.out wv (Below.now HBRE.out hC)
          clear hf
          go_simp
          try rfl
        conv => arg 8; simp only [List.cons_append, List.nil_append]
        apply each_read (fun _ => Below.refl _ _) rfl
        · intro u wv hC hf
          obtain ⟨⟨⟨s0, s1⟩, hRW, -, -⟩, -⟩ := HXT.out wv (Below.now HBRE.out hC)
          clear hf
          go_simp
          try rfl
        conv => arg 8; simp only [List.cons_append, List.nil_append]
        apply each_read (fun _ => Below.refl _ _) rfl
        · intro u wv hC hf
          obtain ⟨⟨⟨s0, s1⟩, hRW, -, -⟩, -⟩ := HXT.out wv (Below.now HBRE.out hC)
          obtain ⟨d2_0, -⟩ := hf
          have e2 : u 2 = _ := d2_0 rfl
          clear d2_0
          go_simp
          try rfl
        conv => arg 8; simp only [List.cons_append, List.nil_append]
        refine each_do (fun v wv => True ∧ v = .string (letterN j)) (fun v w w2 _ hR h => h) rfl ?_ ?_
        · intro u wv hC hf
          obtain ⟨⟨⟨s0, s1⟩, hRW, -, -⟩, -⟩ := HXT.out wv (Below.now HBRE.out hC)
          obtain ⟨d1_0, d3_1, -⟩ := hf
          have e1 : u 1 = _ := d1_0 rfl
          clear d1_0
          have e3 : u 3 = _ := d3_1 rfl
          clear d3_1
          refine ⟨.string (letterN j), wv, ?_, hC, Below.refl _ _, trivial, rfl⟩
          rw [← abcd_at hj4]
          go_simp
          try rfl
        conv => arg 8; simp only [List.cons_append, List.nil_append]
        apply each_callR rfl
        · intro u wv hC hf
          obtain ⟨⟨⟨s0, s1⟩, hRW, -, -⟩, -⟩ := HXT.out wv (Below.now HBRE.out hC)
          obtain ⟨d0_0, d4_1, -⟩ := hf
          have e0 : u 0 = _ := d0_0 rfl
          clear d0_0
          obtain ⟨-, e4⟩ := d4_1 rfl
          apply Exists.intro; apply Exists.intro; apply And.intro
          · go_simp; exact ⟨rfl, rfl⟩
          · refine (HNJ.out _ hRW).mono ?_
            rintro e wx ⟨rfl, hb⟩
            exact ⟨rfl, Below.now hC hb, hb⟩
        conv => arg 8; simp only [List.cons_append, List.nil_append]
        apply each_read (fun _ => Below.refl _ _) rfl
        · intro u wv hC hf
          obtain ⟨⟨⟨s0, s1⟩, hRW, -, -⟩, -⟩ := HXT.out wv (Below.now HBRE.out hC)
          obtain ⟨d5_0, -⟩ := hf
          have e5 : u 5 = _ := d5_0 rfl
          clear d5_0
          go_simp
          try rfl
        conv => arg 8; simp only [List.cons_append, List.nil_append]
        apply each_read (fun _ => Below.refl _ _) rfl
        · intro u wv hC hf
          obtain ⟨⟨⟨s0, s1⟩, hRW, -, -⟩, -⟩ := HXT.out wv (Below.now HBRE.out hC)
          obtain ⟨d6_0, -⟩ := hf
          have e6 : u 6 = _ := d6_0 rfl
          clear d6_0
          go_simp
          try rfl
        conv => arg 8; simp only [List.cons_append, List.nil_append]
        apply each_read (fun _ => Below.refl _ _) rfl
        · intro u wv hC hf
          obtain ⟨⟨⟨s0, s1⟩, hRW, -, -⟩, -⟩ := HXT.out wv (Below.now HBRE.out hC)
          obtain ⟨d6_0, d9_1, -⟩ := hf
          have e6 : u 6 = _ := d6_0 rfl
          clear d6_0
          clear d9_1
          go_simp
          try rfl
        conv => arg 8; simp only [List.cons_append, List.nil_append]
        apply each_read (fun _ => Below.refl _ _) rfl
        · intro u wv hC hf
          obtain ⟨⟨⟨s0, s1⟩, hRW, -, -⟩, -⟩ := HXT.out wv (Below.now HBRE.out hC)
          obtain ⟨d7_0, d5_1, d0_2, d1_3, d2_4, d3_5, d4_6, d5_7, d6_8, d7_9, d8_10, -⟩ := hf
          have e7 : u 7 = _ := d7_0 rfl
          clear d7_0
          have e5 : u 5 = _ := d5_1 rfl
          clear d5_1
          have e0 : u 0 = _ := d0_2 rfl
          clear d0_2
          have e1 : u 1 = _ := d1_3 rfl
          clear d1_3
          have e2 : u 2 = _ := d2_4 rfl
          clear d2_4
          have e3 : u 3 = _ := d3_5 rfl
          clear d3_5
          obtain ⟨-, e4⟩ := d4_6 rfl
          clear d5_7
          have e6 : u 6 = _ := d6_8 rfl
          clear d6_8
          clear d7_9
          clear d8_10
          go_simp
          try rfl
        conv => arg 8; simp only [List.cons_append, List.nil_append]
        apply each_read (fun _ => Below.refl _ _) rfl
        · intro u wv hC hf
          obtain ⟨⟨⟨s0, s1⟩, hRW, -, -⟩, -⟩ := HXT.out wv (Below.now HBRE.out hC)
          obtain ⟨d8_0, d9_1, d0_2, d1_3, d2_4, d3_5, d4_6, d5_7, d6_8, d7_9, d8_10, d9_11, -⟩ := hf
          have e8 : u 8 = _ := d8_0 rfl
          clear d8_0
          have e9 : u 9 = _ := d9_1 rfl
          clear d9_1
          have e0 : u 0 = _ := d0_2 rfl
          clear d0_2
          have e1 : u 1 = _ := d1_3 rfl
          clear d1_3
          have e2 : u 2 = _ := d2_4 rfl
          clear d2_4
          have e3 : u 3 = _ := d3_5 rfl
          clear d3_5
          obtain ⟨-, e4⟩ := d4_6 rfl
          have e5 : u 5 = _ := d5_7 rfl
          clear d5_7
          have e6 : u 6 = _ := d6_8 rfl
          clear d6_8
          have e7 : u 7 = _ := d7_9 rfl
          clear d7_9
          clear d8_10
          clear d9_11
          go_simp
          try rfl
        intro u wv hC hall
        obtain ⟨a0, a1, a2, a3, a4, a5, a6, a7, a8, a9, a10, -⟩ := hall
        have e0 : u 0 = _ := a0
        clear a0
        have e1 : u 1 = _ := a1
        clear a1
        have e2 : u 2 = _ := a2
        clear a2
        have e3 : u 3 = _ := a3
        clear a3
        obtain ⟨-, e4⟩ := a4
        replace e4 : u 4 = _ := e4
        have e5 : u 5 = _ := a5
        clear a5
        have e6 : u 6 = _ := a6
        clear a6
        have e7 : u 7 = _ := a7
        clear a7
        have e8 : u 8 = _ := a8
        clear a8
        have e9 : u 9 = _ := a9
        clear a9
        have e10 : u 10 = _ := a10
        clear a10
        simp only [e0, e1, e2, e3, e4, e5, e6, e7, e8, e9, e10]
        clear e0 e1 e2 e3 e4 e5 e6 e7 e8 e9 e10
        have HB11 := Lib.hid (HBD.out.later hC)
        clear hC HNJ HBR HBD HBRE
        have HSB : Hid (Bld 3 1 w10 wv (.slice a3 j c3) (imT zq pj 0).length (intVals ((imT zq pj 0).map Int.ofNat))) := Lib.hid (by
          unfold imT
          rw [if_pos (Nat.zero_le _), HZL.out]; exact HB11.out)
        go_wp2_with fail
        generalize hW : wr = wr0 at *
        clear hW
        go_loopw [14, 144] (fun v c wr => ∃ t : Nat, t ≤ m ∧ c = .int .i64 (t : Nat) ∧ Hid (Bld 3 1 w10 wr v (imT zq pj t).length (intVals ((imT zq pj t).map Int.ofNat)))) (fun _ c _ => m - (intOf c).toNat)
        case atStart => exact ⟨0, Nat.zero_le _, rfl, by
          have h : (imT zq pj 0).length = j := by unfold imT; rw [if_pos (Nat.zero_le _), HZL.out]
          rw [h]; rw [h] at HSB; exact HSB⟩
        case round =>
          clear HSB HB11
          obtain ⟨t, htm, rfl, HBD⟩ := hrel
          have HBR := Lib.hid (Below.now HB610.out HBD.out.2)
          by_cases hlt2 : t < m
          · have lt0 := HLC.out _ HBR.out t hlt2
            have htm2 : (t : Int) < (m : Int) := by omega
            by_cases htp : t = pj
            · have HE0 : Hid (imT zq pj t = zq) := Lib.hid (by unfold imT; rw [if_pos (by omega)])
              have HE1 : Hid (imT zq pj (t + 1) = zq ++ [pj]) := Lib.hid (by unfold imT; rw [if_neg (by omega)])
              have hzj := HZL.out
              have HBZ : Hid (Bld 3 1 w10 wr u14 zq.length (intVals (zq.map Int.ofNat))) := Lib.hid (by rw [← HE0.out]; exact HBD.out)
              subst htp
              obtain ⟨a5, c5, hv5⟩ := owns_form HBZ.out.1
              have hz40 : zq.length ≤ 4 := by omega
              rw [hv5] at HBZ ⊢
              clear HBD hv5
              go_wp2_with (at_builtin; refine wpList_app1 rfl _ _ rfl Tryz.underlying45 Tryz.infoInt rfl (by decide) rfl HBZ.out rfl rfl ?c1 ?c2 ?c3 ?c4)
              case c1 => simp [Value.oneCell']
              case c2 => unfold maxLen; omega
              case c3 => omega
              intro v6 w12 hb12
              have F2 : Hid (Bld 3 1 w10 w12 v6 (imT zq t (t + 1)).length (intVals ((imT zq t (t + 1)).map Int.ofNat))) := Lib.hid (by
                rw [HE1.out, List.length_append, List.map_append, HZL.out]
                unfold intVals at *
                rw [List.map_append]
                exact hb12)
              clear hb12
              go_wp2_with fail
              go_roundw
              case rel => exact ⟨t + 1, by omega, by go_num, F2⟩
              case measure => simp [intOf]; omega
            · have HE1 : Hid (imT zq pj (t + 1) = imT zq pj t) := Lib.hid (by
                unfold imT
                by_cases h1 : t ≤ pj
                · rw [if_pos h1, if_pos (by omega)]
                · rw [if_neg h1, if_neg (by omega)])
              have hne : ((nthS L t).toList == (nthS L pj).toList) = false := by
                cases hb : ((nthS L t).toList == (nthS L pj).toList)
                · rfl
                · exact absurd (nodup_nth HG.out.nd (by rw [HML.out]; exact hlt2) (by rw [HML.out]; exact hpj) (bytes_eq.1 hb)) htp
              have F2 : Hid (Bld 3 1 w10 wr u14 (imT zq pj (t + 1)).length (intVals ((imT zq pj (t + 1)).map Int.ofNat))) := Lib.hid (by rw [HE1.out]; exact HBD.out)
              go_wp2_with fail
              go_roundw
              case rel => exact ⟨t + 1, by omega, by go_num, F2⟩
              case measure => simp [intOf]; omega
          · obtain rfl : t = m := by omega
            have F2 : Hid (Bld 3 1 w10 wr u14 (j + 1) (intVals ((zq ++ [pj]).map Int.ofNat))) := Lib.hid (by
              have h := HBD.out
              unfold imT at h
              rw [if_neg (by omega), List.length_append, HZL.out] at h
              exact h)
            go_wp2_with fail
            go_roundw
            case rel => exact ⟨j + 1, zq ++ [pj], by omega, by go_num, HIN, F2⟩
            case measure => simp [intOf]; omega
      · obtain rfl : j = kn := by omega
        have HZL := Lib.hid HIM.out.len
        have HZI := Lib.hid HIM.out
        have HOK := Lib.hid (mon_imgs HG.out HCM.out HIM.out ⟨hk1, hk4⟩)
        rw [HML.out] at HOK
        have HZW : Hid (∀ W, Below wr.heap.size wr W → IntsIn W a3 (zq.map Int.ofNat)) := Lib.hid (fun W hW => (owns_ints HBD.out.1).later hW)
        have hzl : (zq.map Int.ofNat).length = j := by rw [List.length_map]; exact HZL.out
        have HRB : Hid (∀ W, IntsIn W aP P → IntsIn W a3 (zq.map Int.ofNat) → Calls Tryz.prog 26 #[.agg #[.int .i64 (m : Nat), .slice aP P.length cP], .slice a3 j c3] W fun e w' => ∃ a2 c2, e = .returned (.slice a2 m c2) ∧ Below W.heap.size W w') := Lib.hid (fun W h1 h2 => by
          have := implReachedBy_any m ln zq P (zq.map Int.ofNat) aP cP a3 c3 W HP.out rfl HOK.out h1 h2
          rw [hzl] at this
          refine this.mono ?_
          rintro e w' ⟨S, hS, a2, c2, rfl, ho, hb⟩
          have hr := mon_reach HG.out HCM.out HZI.out hk4 (S := S) (by rw [HML.out]; exact hS)
          rw [HML.out] at hr
          rw [hr]
          exact ⟨a2, c2, rfl, hb⟩)
        have HFA : Hid (∀ W, RulesIn W aR R → IntsIn W aP P → IntsIn W a3 (zq.map Int.ofNat) → Tab10 W → Calls Tryz.prog 27 #[.agg #[.int .i64 (j : Int), .slice aR R.length cR], .agg #[.int .i64 (m : Nat), .slice aP P.length cP], .slice a3 j c3] W fun e w' => e = .returned (.bool true) ∧ Below W.heap.size W w') := Lib.hid (fun W h1 h2 h3 h4 => by
          have hpl : P.length ≤ 1600 := by rw [HP.out, List.length_map, HG.out.len, HML.out]; exact sq_le hm40
          have := HIF.out (m : Nat) P aP cP (zq.map Int.ofNat) a3 c3 W h1 h2 (by omega) h3 (by rw [hzl]; omega) h4
          rw [hzl] at this
          refine this.mono ?_
          rintro e w' ⟨b, hb, rfl, hbl⟩
          have hf := mon_fai HG.out HCM.out HZI.out HP.out HMN.out
          rw [HML.out] at hf
          rw [hb.2 hf]
          exact ⟨rfl, hbl⟩)
        have HSW : Hid (∀ W, IntsIn W aP P → IntsIn W a3 (zq.map Int.ofNat) → Calls Tryz.prog 28 #[.agg #[.int .i64 (m : Nat), .slice aP P.length cP], .slice a3 j c3, .int .i64 (i : Nat)] W fun e w' => e = .returned (.tuple #[.string (nthS L i), .bool true]) ∧ Below W.heap.size W w') := Lib.hid (fun W h1 h2 => by
          have := implShortestWord_any m ln zq P (zq.map Int.ofNat) aP cP a3 c3 i W HP.out rfl HOK.out h1 h2 hi
          rw [hzl] at this
          refine this.mono ?_
          rintro e w' ⟨S, hS, hb, hcase⟩
          obtain ⟨h1, h2⟩ := mon_short HG.out HCM.out HZI.out hk4 (S := S) (by rw [HML.out]; exact hS) (i := i) (by rw [HML.out]; exact hi)
          rw [h2] at hcase
          rw [h2] at h1
          have hw8 := (HG.out.word _ (nth_mem (show i < L.length by rw [HML.out]; exact hi))).2
          rcases hcase with ⟨_, _, he⟩ | ⟨hn, _⟩
          · exact ⟨he, hb⟩
          · exact absurd ⟨h1, by omega⟩ hn)
        have HVO : Hid (∀ W, IntsIn W aP P → IntsIn W a3 (zq.map Int.ofNat) → Calls Tryz.prog 29 #[.agg #[.int .i64 (m : Nat), .slice aP P.length cP], .slice a3 j c3, .string (nthS L i)] W fun e w' => e = .returned (.tuple #[.int .i64 (i : Nat), .bool true]) ∧ Below W.heap.size W w') := Lib.hid (fun W h1 h2 => by
          have hw := (HG.out.word _ (nth_mem (show i < L.length by rw [HML.out]; exact hi))).1
          have := implValueOf_any m ln zq P (zq.map Int.ofNat) aP cP a3 c3 (nthS L i) W HP.out rfl HOK.out h1 h2 (by rw [HZL.out]; exact hw)
          have hv := val_word HG.out HCM.out HZI.out hk4 (i := i) (by rw [HML.out]; exact hi)
          rw [HML.out] at hv
          rw [hzl, hv] at this
          exact this)
        clear HIM hzl hRr HBD
        have HBE := Lib.hid (Below.now HB6.out HBR.out)
        go_upto_region 27 with fail
        clear s0 s1
        refine region_each (fun W => Below wr.heap.size wr W) (fun W W2 => Below W.heap.size W W2) (fun u => by simp only [fPut, Act.put, List.setIfInBounds_toArray, List.set_cons_succ, List.set_cons_zero, Nat.zero_add, Nat.reduceAdd]; rfl) (by kernel_rfl) (by kernel_rfl) (by kernel_rfl) (Below.drew (Below.refl _ _)) ?_
        apply each_read (fun _ => Below.refl _ _) rfl
        · intro u wv hC hf
          obtain ⟨⟨⟨s0, s1⟩, hRW, -, hTW⟩, ⟨t0, t1⟩, hPW, -⟩ := HXT.out wv (Below.now HBE.out hC)
          have hZW := HZW.out wv hC
          clear hf
          go_simp
          try rfl
        apply each_read (fun _ => Below.refl _ _) rfl
        · intro u wv hC hf
          obtain ⟨⟨⟨s0, s1⟩, hRW, -, hTW⟩, ⟨t0, t1⟩, hPW, -⟩ := HXT.out wv (Below.now HBE.out hC)
          have hZW := HZW.out wv hC
          obtain ⟨d0_0, -⟩ := hf
          have e0 : u 0 = _ := d0_0 rfl
          clear d0_0
          go_simp
          try rfl
        conv => arg 8; simp only [List.cons_append, List.nil_append]
        apply each_read (fun _ => Below.refl _ _) rfl
        · intro u wv hC hf
          obtain ⟨⟨⟨s0, s1⟩, hRW, -, hTW⟩, ⟨t0, t1⟩, hPW, -⟩ := HXT.out wv (Below.now HBE.out hC)
          have hZW := HZW.out wv hC
          clear hf
          go_simp
          try rfl
        conv => arg 8; simp only [List.cons_append, List.nil_append]
        apply each_read (fun _ => Below.refl _ _) rfl
        · intro u wv hC hf
          obtain ⟨⟨⟨s0, s1⟩, hRW, -, hTW⟩, ⟨t0, t1⟩, hPW, -⟩ := HXT.out wv (Below.now HBE.out hC)
          have hZW := HZW.out wv hC
          obtain ⟨d2_0, -⟩ := hf
          have e2 : u 2 = _ := d2_0 rfl
          clear d2_0
          go_simp
          try rfl
        conv => arg 8; simp only [List.cons_append, List.nil_append]
        apply each_read (fun _ => Below.refl _ _) rfl
        · intro u wv hC hf
          obtain ⟨⟨⟨s0, s1⟩, hRW, -, hTW⟩, ⟨t0, t1⟩, hPW, -⟩ := HXT.out wv (Below.now HBE.out hC)
          have hZW := HZW.out wv hC
          obtain ⟨d1_0, d3_1, -⟩ := hf
          have e1 : u 1 = _ := d1_0 rfl
          clear d1_0
          have e3 : u 3 = _ := d3_1 rfl
          clear d3_1
          go_simp
          try rfl
        conv => arg 8; simp only [List.cons_append, List.nil_append]
        apply each_read (fun _ => Below.refl _ _) rfl
        · intro u wv hC hf
          obtain ⟨⟨⟨s0, s1⟩, hRW, -, hTW⟩, ⟨t0, t1⟩, hPW, -⟩ := HXT.out wv (Below.now HBE.out hC)
          have hZW := HZW.out wv hC
          obtain ⟨d4_0, -⟩ := hf
          have e4 : u 4 = _ := d4_0 rfl
          clear d4_0
          go_simp
          try rfl
        conv => arg 8; simp only [List.cons_append, List.nil_append]
        apply each_readG (fun _ => Below.refl _ _)
        · intro u wv hC hf
          obtain ⟨⟨⟨s0, s1⟩, hRW, -, hTW⟩, ⟨t0, t1⟩, hPW, -⟩ := HXT.out wv (Below.now HBE.out hC)
          have hZW := HZW.out wv hC
          obtain ⟨d5_0, -⟩ := hf
          have e5 : u 5 = _ := d5_0 rfl
          clear d5_0
          refine ⟨wanted_at rfl rfl rfl e5 rfl, ?_⟩
          go_simp
          try rfl
        conv => arg 8; simp only [List.cons_append, List.nil_append]
        apply each_readG (fun _ => Below.refl _ _)
        · intro u wv hC hf
          obtain ⟨⟨⟨s0, s1⟩, hRW, -, hTW⟩, ⟨t0, t1⟩, hPW, -⟩ := HXT.out wv (Below.now HBE.out hC)
          have hZW := HZW.out wv hC
          obtain ⟨d5_0, -⟩ := hf
          have e5 : u 5 = _ := d5_0 rfl
          clear d5_0
          refine ⟨wanted_at rfl rfl rfl e5 rfl, ?_⟩
          go_simp
          try rfl
        conv => arg 8; simp only [List.cons_append, List.nil_append]
        refine each_callG (fun v wv => ∃ a2 c2, v = .slice a2 m c2) (fun v w w2 _ hR h => h) ?_ ?_
        · intro u wv hC hf
          obtain ⟨⟨⟨s0, s1⟩, hRW, -, hTW⟩, ⟨t0, t1⟩, hPW, -⟩ := HXT.out wv (Below.now HBE.out hC)
          have hZW := HZW.out wv hC
          obtain ⟨d6_0, d7_1, d5_2, d5_3, -⟩ := hf
          have e6 : u 6 = _ := d6_0 rfl
          clear d6_0
          have e7 : u 7 = _ := d7_1 rfl
          clear d7_1
          have e5 : u 5 = _ := d5_2 rfl
          clear d5_2
          clear d5_3
          refine ⟨wanted_at rfl rfl rfl e5 rfl, ?_⟩
          apply Exists.intro; apply Exists.intro; apply And.intro
          · go_simp; exact ⟨rfl, rfl⟩
          · refine (HRB.out _ hPW hZW).mono ?_
            rintro e wx ⟨a2, c2, rfl, hb⟩
            exact ⟨_, rfl, Below.now hC hb, hb, a2, c2, rfl⟩
        conv => arg 8; simp only [List.cons_append, List.nil_append]
        apply each_readG (fun _ => Below.refl _ _)
        · intro u wv hC hf
          obtain ⟨⟨⟨s0, s1⟩, hRW, -, hTW⟩, ⟨t0, t1⟩, hPW, -⟩ := HXT.out wv (Below.now HBE.out hC)
          have hZW := HZW.out wv hC
          obtain ⟨d8_0, d5_1, -⟩ := hf
          obtain ⟨a8, c8, e8⟩ := d8_0 rfl
          have e5 : u 5 = _ := d5_1 rfl
          clear d5_1
          refine ⟨wanted_at rfl rfl rfl e5 rfl, ?_⟩
          go_simp
          try rfl
        conv => arg 8; simp only [List.cons_append, List.nil_append]
        apply each_readG (fun _ => Below.refl _ _)
        · intro u wv hC hf
          obtain ⟨⟨⟨s0, s1⟩, hRW, -, hTW⟩, ⟨t0, t1⟩, hPW, -⟩ := HXT.out wv (Below.now HBE.out hC)
          have hZW := HZW.out wv hC
          obtain ⟨d5_0, -⟩ := hf
          have e5 : u 5 = _ := d5_0 rfl
          clear d5_0
          refine ⟨wanted_at rfl rfl rfl e5 rfl, ?_⟩
          go_simp
          try rfl
        conv => arg 8; simp only [List.cons_append, List.nil_append]
        apply each_readG (fun _ => Below.refl _ _)
        · intro u wv hC hf
          obtain ⟨⟨⟨s0, s1⟩, hRW, -, hTW⟩, ⟨t0, t1⟩, hPW, -⟩ := HXT.out wv (Below.now HBE.out hC)
          have hZW := HZW.out wv hC
          obtain ⟨d10_0, d5_1, -⟩ := hf
          have e10 : u 10 = _ := d10_0 rfl
          clear d10_0
          have e5 : u 5 = _ := d5_1 rfl
          clear d5_1
          refine ⟨wanted_at rfl rfl rfl e5 rfl, ?_⟩
          go_simp
          try rfl
        conv => arg 8; simp only [List.cons_append, List.nil_append]
        apply each_readG (fun _ => Below.refl _ _)
        · intro u wv hC hf
          obtain ⟨⟨⟨s0, s1⟩, hRW, -, hTW⟩, ⟨t0, t1⟩, hPW, -⟩ := HXT.out wv (Below.now HBE.out hC)
          have hZW := HZW.out wv hC
          obtain ⟨d9_0, d11_1, d5_2, -⟩ := hf
          have e9 : u 9 = _ := d9_0 rfl
          clear d9_0
          have e11 : u 11 = _ := d11_1 rfl
          clear d11_1
          have e5 : u 5 = _ := d5_2 rfl
          clear d5_2
          refine ⟨wanted_at rfl rfl rfl e5 rfl, ?_⟩
          go_simp
          try rfl
        conv => arg 8; simp only [List.cons_append, List.nil_append]
        apply each_read (fun _ => Below.refl _ _) rfl
        · intro u wv hC hf
          obtain ⟨⟨⟨s0, s1⟩, hRW, -, hTW⟩, ⟨t0, t1⟩, hPW, -⟩ := HXT.out wv (Below.now HBE.out hC)
          have hZW := HZW.out wv hC
          obtain ⟨d5_0, d12_1, -⟩ := hf
          have e5 : u 5 = _ := d5_0 rfl
          clear d5_0
          have e12 : u 12 = _ := d12_1 rfl
          clear d12_1
          go_simp
          try rfl
        conv => arg 8; simp only [List.cons_append, List.nil_append]
        apply each_read (fun _ => Below.refl _ _) rfl
        · intro u wv hC hf
          obtain ⟨⟨⟨s0, s1⟩, hRW, -, hTW⟩, ⟨t0, t1⟩, hPW, -⟩ := HXT.out wv (Below.now HBE.out hC)
          have hZW := HZW.out wv hC
          obtain ⟨d13_0, d8_1, -⟩ := hf
          have e13 : u 13 = _ := d13_0 rfl
          clear d13_0
          obtain ⟨a8, c8, e8⟩ := d8_1 rfl
          go_simp
          try rfl
        conv => arg 8; simp only [List.cons_append, List.nil_append]
        apply each_readG (fun _ => Below.refl _ _)
        · intro u wv hC hf
          obtain ⟨⟨⟨s0, s1⟩, hRW, -, hTW⟩, ⟨t0, t1⟩, hPW, -⟩ := HXT.out wv (Below.now HBE.out hC)
          have hZW := HZW.out wv hC
          obtain ⟨d14_0, -⟩ := hf
          have e14 : u 14 = _ := d14_0 rfl
          clear d14_0
          refine ⟨wanted_at rfl rfl rfl e14 rfl, ?_⟩
          go_simp
          try rfl
        conv => arg 8; simp only [List.cons_append, List.nil_append]
        apply each_readG (fun _ => Below.refl _ _)
        · intro u wv hC hf
          obtain ⟨⟨⟨s0, s1⟩, hRW, -, hTW⟩, ⟨t0, t1⟩, hPW, -⟩ := HXT.out wv (Below.now HBE.out hC)
          have hZW := HZW.out wv hC
          obtain ⟨d14_0, -⟩ := hf
          have e14 : u 14 = _ := d14_0 rfl
          clear d14_0
          refine ⟨wanted_at rfl rfl rfl e14 rfl, ?_⟩
          go_simp
          try rfl
        conv => arg 8; simp only [List.cons_append, List.nil_append]
        apply each_readG (fun _ => Below.refl _ _)
        · intro u wv hC hf
          obtain ⟨⟨⟨s0, s1⟩, hRW, -, hTW⟩, ⟨t0, t1⟩, hPW, -⟩ := HXT.out wv (Below.now HBE.out hC)
          have hZW := HZW.out wv hC
          obtain ⟨d14_0, -⟩ := hf
          have e14 : u 14 = _ := d14_0 rfl
          clear d14_0
          refine ⟨wanted_at rfl rfl rfl e14 rfl, ?_⟩
          go_simp
          try rfl
        conv => arg 8; simp only [List.cons_append, List.nil_append]
        apply each_callRG
        · intro u wv hC hf
          obtain ⟨⟨⟨s0, s1⟩, hRW, -, hTW⟩, ⟨t0, t1⟩, hPW, -⟩ := HXT.out wv (Below.now HBE.out hC)
          have hZW := HZW.out wv hC
          obtain ⟨d15_0, d16_1, d17_2, d14_3, d14_4, -⟩ := hf
          have e15 : u 15 = _ := d15_0 rfl
          clear d15_0
          have e16 : u 16 = _ := d16_1 rfl
          clear d16_1
          have e17 : u 17 = _ := d17_2 rfl
          clear d17_2
          have e14 : u 14 = _ := d14_3 rfl
          clear d14_3
          clear d14_4
          refine ⟨wanted_at rfl rfl rfl e14 rfl, ?_⟩
          apply Exists.intro; apply Exists.intro; apply And.intro
          · go_simp; exact ⟨rfl, rfl⟩
          · refine (HFA.out _ hRW hPW hZW hTW).mono ?_
            rintro e wx ⟨rfl, hb⟩
            exact ⟨rfl, Below.now hC hb, hb⟩
        conv => arg 8; simp only [List.cons_append, List.nil_append]
        apply each_readG (fun _ => Below.refl _ _)
        · intro u wv hC hf
          obtain ⟨⟨⟨s0, s1⟩, hRW, -, hTW⟩, ⟨t0, t1⟩, hPW, -⟩ := HXT.out wv (Below.now HBE.out hC)
          have hZW := HZW.out wv hC
          obtain ⟨d18_0, d14_1, -⟩ := hf
          have e18 : u 18 = _ := d18_0 rfl
          clear d18_0
          have e14 : u 14 = _ := d14_1 rfl
          clear d14_1
          refine ⟨wanted_at rfl rfl rfl e14 rfl, ?_⟩
          go_simp
          try rfl
        conv => arg 8; simp only [List.cons_append, List.nil_append]
        apply each_read (fun _ => Below.refl _ _) rfl
        · intro u wv hC hf
          obtain ⟨⟨⟨s0, s1⟩, hRW, -, hTW⟩, ⟨t0, t1⟩, hPW, -⟩ := HXT.out wv (Below.now HBE.out hC)
          have hZW := HZW.out wv hC
          obtain ⟨d14_0, d19_1, -⟩ := hf
          have e14 : u 14 = _ := d14_0 rfl
          clear d14_0
          have e19 : u 19 = _ := d19_1 rfl
          clear d19_1
          go_simp
          try rfl
        intro u wv hC hall
        obtain ⟨a0, a1, a2, a3, a4, a5, a6, a7, a8, a9, a10, a11, a12, a13, a14, a15, a16, a17, a18, a19, a20, -⟩ := hall
        have e0 : u 0 = _ := a0
        clear a0
        have e1 : u 1 = _ := a1
        clear a1
        have e2 : u 2 = _ := a2
        clear a2
        have e3 : u 3 = _ := a3
        clear a3
        have e4 : u 4 = _ := a4
        clear a4
        have e5 : u 5 = _ := a5
        clear a5
        have e6 : u 6 = _ := a6
        clear a6
        have e7 : u 7 = _ := a7
        clear a7
        obtain ⟨a8, c8, e8⟩ := a8
        replace e8 : u 8 = _ := e8
        have e9 : u 9 = _ := a9
        clear a9
        have e10 : u 10 = _ := a10
        clear a10
        have e11 : u 11 = _ := a11
        clear a11
        have e12 : u 12 = _ := a12
        clear a12
        have e13 : u 13 = _ := a13
        clear a13
        have e14 : u 14 = _ := a14
        clear a14
        have e15 : u 15 = _ := a15
        clear a15
        have e16 : u 16 = _ := a16
        clear a16
        have e17 : u 17 = _ := a17
        clear a17
        have e18 : u 18 = _ := a18
        clear a18
        have e19 : u 19 = _ := a19
        clear a19
        have e20 : u 20 = _ := a20
        clear a20
        simp only [e0, e1, e2, e3, e4, e5, e6, e7, e8, e9, e10, e11, e12, e13, e14, e15, e16, e17, e18, e19, e20]
        clear e0 e1 e2 e3 e4 e5 e6 e7 e8 e9 e10 e11 e12 e13 e14 e15 e16 e17 e18 e19 e20
        have HB28 := Lib.hid (Below.now HBR.out hC)
        obtain ⟨⟨⟨s0, s1⟩, -⟩, ⟨t0, t1⟩, hPI, -⟩ := HXT.out wv (Below.now HB6.out HB28.out)
        have HPI2 := Lib.hid hPI
        clear hPI
        go_wp2_with fail
        refine (HSW.out _ HPI2.out (HZW.out _ hC)).mono ?_
        rintro e w29 ⟨rfl, hb29⟩
        have HB29 := Lib.hid (Below.now HB28.out hb29)
        have HZ29 := Lib.hid (HZW.out _ (Below.now hC hb29))
        clear s0 s1 t0 t1 hb29 hC
        obtain ⟨-, ⟨t0, t1⟩, hPI, -⟩ := HXT.out w29 (Below.now HB6.out HB29.out)
        have k0 : ∀ x, (wide w29 x).cell? ⟨g3, 0, none⟩ = some (.int .i64 (m : Nat)) := wide_cell t0
        have k1 : ∀ x, (wide w29 x).cell? ⟨g3, 1, none⟩ = some (.slice aP P.length cP) := wide_cell t1
        have k2 : ∀ x, (wide w29 x).cell? ⟨bL, oL + i, none⟩ = some (.string (nthS L i)) := wide_cell (HLC.out _ HB29.out i hi)
        have HVW : Hid (∀ x, IntsIn (wide w29 x) aP P ∧ IntsIn (wide w29 x) a3 (zq.map Int.ofNat)) := Lib.hid (fun x => ⟨hPI.later (below_wide _ _), HZ29.out.later (below_wide _ _)⟩)
        clear t0 t1 hPI
        go_upto_region 30 with fail
        refine region_wide (by kernel_rfl) (by kernel_rfl) ?_
        repeat (quiet_step ((go_at_call 29; refine (HVO.out _ (HVW.out _).1 (HVW.out _).2).mono ?_; rintro e wx ⟨rfl, hbx⟩; exact ⟨rfl, wide_next hbx⟩)))
        refine wpQuiet_nil ?_
        rintro w30 ⟨x30, rfl⟩
        have HB30 := Lib.hid (Below.now HB29.out (below_wide w29 x30))
        generalize wide w29 x30 = w30 at *
        have li := HLC.out _ HB30.out i hi
        clear k0 k1 k2 HVW
        go_wp2_with fail
        go_ret
        exact ⟨by first | rfl | simp, Below.now HBW4.out (Below.now HB6.out HB30.out)⟩
set_option maxRecDepth 100000 in
theorem walkBig (a : Option Addr) (n cap : Nat) (w : World) (hn : n ≤ 9223372036854775807) (hlen : 1048576 < n) :
    Calls Tryz.prog 5 #[.slice a n cap] w fun e w' => e = .returned (.bool true) ∧ Below w.heap.size w w' := by
  have hq0 : (1048576 : Int) < (n : Int) := by omega
  go_enter Tryz.func5, Tryz.ntmps5
  go_wp2_with fail
  go_ret
  exact ⟨rfl, Below.refl _ _⟩
end Go.Proofs.YtgoeadgpbidgiaaGreatDoor.fnMonoids
