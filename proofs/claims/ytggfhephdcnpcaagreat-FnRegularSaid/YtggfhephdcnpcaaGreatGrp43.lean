/-
  The walk of 'FnRegular'.
-/
import Derived.Test.YtggfhephdcnpcaaGreatGrp31
import Derived.Test.YtggfhephdcnpcaaGreatGrp40
import Derived.Test.YtggfhephdcnpcaaGreatGrp41
import Derived.Test.YtggfhephdcnpcaaGreatGrp42
import Derived.Test.YtggfhephdcnpcaaGreatGrp05
namespace Go.Proofs.YtggfhephdcnpcaaGreat.fnRegular
open Go.RowKit
set_option linter.unusedVariables false
/-- some member of the first c makes the product x -/
def invTo (m : Nat) (zn : List Nat) (G : List Int) (y x c : Nat) : Bool := (G.take c).any fun q => decide (tm m zn y q.toNat = x)
theorem invTo_succ {m : Nat} {zn : List Nat} {G : List Int} {y x c q : Nat} (hc : c < G.length) (hq : nthZ G c = (q : Int)) : invTo m zn G y x (c + 1) = (invTo m zn G y x c || decide (tm m zn y q = x)) := by
  have e : G[c] = (q : Int) := by
    rw [← hq]; unfold nthZ; rw [List.getD_eq_getElem?_getD, List.getElem?_eq_getElem hc]; rfl
  unfold invTo
  rw [List.take_add_one, List.getElem?_eq_getElem hc, List.any_append, e]
  simp
theorem invTo_all {m : Nat} {zn : List Nat} {G : List Int} {y x c : Nat} (hc : ¬ c < G.length) (h : ∃ j : Nat, (j : Int) ∈ G ∧ tm m zn y j = x) : invTo m zn G y x c = true := by
  obtain ⟨j, hj, hp⟩ := h
  unfold invTo
  rw [List.take_of_length_le (by omega), List.any_eq_true]
  exact ⟨_, hj, by simpa using hp⟩
theorem nthZ_mem {G : List Int} {c : Nat} (hc : c < G.length) : nthZ G c ∈ G := by
  unfold nthZ
  rw [List.getD_eq_getElem?_getD, List.getElem?_eq_getElem hc]
  exact List.getElem_mem hc
theorem mgF_len (n : Int) (l : List Int) (x : Int) : (mgF n l x).length ≤ 1000 := by
  unfold mgF
  split
  · exact thoseL_len _ _ _
  · simp
theorem groupB_tab {m : Nat} {l : List Int} (h : TabG m l) : groupB (m : Nat) l = decide (((unitsOfF (m : Nat) l).length : Int) = (m : Nat)) := by
  unfold groupB
  rw [h.tab]
  rfl
set_option maxRecDepth 100000 in
set_option maxHeartbeats 8000000 in
theorem walkSmall (a : Option Addr) (l : List UInt8) (cap : Nat) (w : World) (hl : BytesIn w a l) (hlen : l.length ≤ 1048576) :
    Calls Tryz.prog 4 #[.slice a l.length cap] w fun e w' => e = .returned (.bool true) ∧ Below w.heap.size w w' := by
  have hq0 : ¬ (1048576 : Int) < (l.length : Int) := by omega
  have HM := Lib.hid (makeTable_any a l cap 0 w hl (by omega) (by omega))
  clear hl
  go_enter Tryz.func4, Tryz.ntmps4
  go_wp2_with fail
  refine HM.out.mono ?_
  rintro e w1 ⟨m, z, az, cz, hT, rfl, hz, hcap, hb1⟩
  have hzl : z.length ≤ 1600 := by
    obtain ⟨ln, rfl, h⟩ := hT
    rw [List.length_map, h.len]; exact sq_le h.hi
  obtain ⟨hm1, hm2⟩ : 1 ≤ m ∧ m ≤ 40 := by obtain ⟨ln, _, h⟩ := hT; exact ⟨h.lo, h.hi⟩
  have HREG := Lib.hid (fun W (h : IntsIn W az z) => implRegularOf_any (m : Nat) z az cz W h (by omega))
  have HID := Lib.hid (fun W (h : IntsIn W az z) => implIdempotentsOf_any (m : Nat) z az cz W h (by omega))
  have HUN := Lib.hid (fun W (h : IntsIn W az z) => implUnitsOf_any (m : Nat) z az cz W h (by omega))
  have HIG := Lib.hid (fun W (h : IntsIn W az z) => implIsGroup_any (m : Nat) z az cz W h (by omega))
  have HMX := Lib.hid (fun x W (h : IntsIn W az z) => implMaximalGroup_any (m : Nat) z az cz x W h (by omega))
  have HM0 := Lib.hid (fun W (h : IntsIn W az z) => implMaximalGroup_any (m : Nat) z az cz 0 W h (by omega))
  have HPR := Lib.hid (fun i k W (h : IntsIn W az z) hi hk => implProductOf_ok m z az cz i k W h hT hi hk)
  have HG := hT.reg
  rw [HG.units] at HM0
  rw [groupB_tab hT] at HIG
  have HGR := hT.grp
  have hEl := idemF_len (m : Nat) z
  have hRl := regularOfF_len (m : Nat) z
  have hUl := unitsOfF_len (m : Nat) z
  have HEX : Hid (∀ x ∈ idemF (m : Nat) z, ∃ j : Nat, x = (j : Int) ∧ j < m ∧ RegE m (z.map Int.toNat) j (mgF (m : Nat) z x)) := Lib.hid (fun x hx => by
    obtain ⟨ln, rfl, h⟩ := hT
    rw [map_toNat]
    exact TabG.el h hx)
  have HML := Lib.hid (fun x => mgF_len (m : Nat) z x)
  have hE0 : (((idemF (m : Nat) z).length : Int) == 0) = false := by rw [beq_eq_false_iff_ne]; have := HG.ne; omega
  have hER : decide ((regularOfF (m : Nat) z).length < (idemF (m : Nat) z).length) = false := decide_eq_false (by have := HG.le; omega)
  have hRM : decide (m < (regularOfF (m : Nat) z).length) = false := decide_eq_false (by have := HG.few; omega)
  have HZ0 := Lib.hid HG.zero
  have HRS := Lib.hid HG.reg
  have HSF := Lib.hid HG.self
  have HZI : Hid (∀ W, Below w1.heap.size w1 W → IntsIn W az z) := Lib.hid (fun W h => hz.later h)
  have HB1 := Lib.hid hb1
  generalize mgF (m : Nat) z = mg at *
  generalize idemF (m : Nat) z = E at *
  generalize regularOfF (m : Nat) z = R at *
  generalize unitsOfF (m : Nat) z = U at *
  clear hb1 HM hT HG hz
  go_upto_region 4 with fail
  have HW2 := Lib.hid (alloc_belowT w1 (.cells #[.int .i64 (m : Nat), .slice az z.length cz] 25))
  have HX : Hid (∀ W, Below (w1.alloc (.cells #[.int .i64 (m : Nat), .slice az z.length cz] 25)).heap.size (w1.alloc (.cells #[.int .i64 (m : Nat), .slice az z.length cz] 25)) W → W.cell? ⟨w1.heap.size, 0, none⟩ = some (.int .i64 (m : Nat)) ∧ W.cell? ⟨w1.heap.size, 1, none⟩ = some (.slice az z.length cz)) := Lib.hid (fun W hW => ⟨by rw [hW.cell (by simp)]; simp, by rw [hW.cell (by simp)]; simp⟩)
  generalize w1.alloc (.cells #[.int .i64 (m : Nat), .slice az z.length cz] 25) = w2 at *
  have kr := Below.refl w2.heap.size w2
  obtain ⟨z0, z1⟩ := HX.out _ kr
  have HZW : Hid (∀ W, Below w2.heap.size w2 W → IntsIn W az z) := Lib.hid (fun W h => HZI.out W (Below.now HW2.out h))
  clear HZI
  go_wp2_with fail
  refine (HREG.out _ (HZW.out _ kr)).mono ?_
  rintro e w3 ⟨ar, cr, rfl, hor, hb3⟩
  have kr3 := Below.now kr hb3
  have HR3 := Lib.hid (owns_ints (l := R) hor)
  clear z0 z1 hor hb3
  obtain ⟨z0, z1⟩ := HX.out _ kr3
  go_wp2_with fail
  refine (HID.out _ (HZW.out _ kr3)).mono ?_
  rintro e w4 ⟨ae, ce, rfl, hoe, hb4⟩
  have HK4 := Lib.hid (Below.now kr3 hb4)
  have HR4 := Lib.hid (HR3.out.later hb4)
  have HE4 := Lib.hid (owns_ints (l := E) hoe)
  clear z0 z1 hoe hb4 kr3 HR3 kr HID
  have HHE := Lib.hid (fun W (h : IntsIn W ae E) => lawHas_any E ae ce 0 W h (by omega))
  rw [decide_eq_true HZ0.out] at HHE
  have kr := HK4.out
  obtain ⟨z0, z1⟩ := HX.out _ kr
  go_upto_region 6 with fail
  go_cut [49] (fun v wx => v = .bool false ∧ Below w4.heap.size w4 wx)
  case first =>
    replace kr := Below.refl w4.heap.size w4
    go_region_held3 (fun w' => w'.cell? ⟨w1.heap.size, 0, none⟩ = some (.int .i64 (m : Nat)) ∧ w'.cell? ⟨w1.heap.size, 1, none⟩ = some (.slice az z.length cz)) (go_keep) (first
      | (go_at_call 11; refine (HHE.out _ (HE4.out.later (by repeat (first | exact kr | refine Below.drew ?_ | refine below_drewN ?_ _)))).mono ?_; rintro e w3 ⟨rfl, rfl⟩)
      | (go_at_call 17; refine (HREG.out _ (HZW.out _ (Below.now HK4.out (by repeat (first | exact kr | refine Below.drew ?_ | refine below_drewN ?_ _))))).mono ?_; rintro e w3 ⟨xa, ca, rfl, hra, hb3⟩; clear hra; replace kr : Below w4.heap.size w4 w3 := Below.now (by repeat (first | exact kr | refine Below.drew ?_ | refine below_drewN ?_ _)) hb3; have t0 := (HX.out w3 (Below.now HK4.out kr)).1; have t1 := (HX.out w3 (Below.now HK4.out kr)).2; clear hb3))
    all_goals
      go_wp2_with fail
      go_meet
      exact ⟨rfl, by repeat (first | exact kr | refine Below.drew ?_ | refine below_drewN ?_ _)⟩
  case rest =>
    obtain ⟨rfl, hb5⟩ := hcut
    have HB5 := Lib.hid (Below.now HK4.out hb5)
    have HR5 := Lib.hid (HR4.out.later hb5)
    have HE5 := Lib.hid (HE4.out.later hb5)
    clear hb5 z0 z1 HHE HREG HR4 HE4 hE0 hER hRM kr HK4
    go_wp2_with fail
    generalize wc = w5 at *
    go_loopw [52] (fun i wr => ∃ j : Nat, j ≤ E.length ∧ i = .int .i64 (j : Nat) ∧ Below w5.heap.size w5 wr) (fun i _ => E.length - (intOf i).toNat)
    case atStart => exact ⟨0, Nat.zero_le _, rfl, Below.refl _ _⟩
    case round =>
      obtain ⟨j, hj, rfl, hbr⟩ := hrel
      have HBR := Lib.hid hbr
      obtain ⟨z0, z1⟩ := HX.out _ (Below.now HB5.out hbr)
      clear hbr
      by_cases hlt : j < E.length
      · obtain ⟨b, off, rfl, hb, hcell⟩ := (HE5.out.later HBR.out).cell hlt
        have h1 := hcell j hlt
        obtain ⟨xn, hx, hxm, hre⟩ := HEX.out _ (nthZ_mem hlt)
        have hmE := nthZ_mem hlt
        rw [hx] at h1 hre hmE
        have HRE := Lib.hid hre
        have HMG := Lib.hid (HMX.out (xn : Nat) wr (HZW.out _ (Below.now HB5.out HBR.out)))
        have hml := HML.out (xn : Nat)
        have hself := HSF.out _ hmE
        have hregx := HRS.out _ hmE
        clear hcell hre hx hb
        generalize mg (xn : Nat) = G at *
        have HHR := Lib.hid (fun W (h : IntsIn W ar R) => lawHas_any R ar cr (xn : Nat) W h (by omega))
        have HHG := Lib.hid (fun ag cg W (h : IntsIn W ag G) => lawHas_any G ag cg (xn : Nat) W h (by omega))
        rw [decide_eq_true hregx] at HHR
        rw [decide_eq_true hself] at HHG
        clear hmE hself hregx
        go_wp2_with fail
        refine HMG.out.mono ?_
        rintro e w6 ⟨ag, cg, rfl, hog, hb6⟩
        have HB6 := Lib.hid (Below.now HBR.out hb6)
        have HG6 := Lib.hid (owns_ints (l := G) hog)
        clear hog hb6 z0 z1 h1 HMG
        go_wp2_with fail
        refine (HHR.out _ (HR5.out.later HB6.out)).mono ?_
        rintro e w7 ⟨rfl, rfl⟩
        go_wp2_with fail
        refine (HHG.out _ _ _ HG6.out).mono ?_
        rintro e w8 ⟨rfl, rfl⟩
        clear HHR HHG
        go_wp2_with fail
        generalize hWR : wr = wr0 at *
        clear hWR
        go_loopw [71] (fun i wr => ∃ k : Nat, k ≤ G.length ∧ i = .int .i64 (k : Nat) ∧ Below w8.heap.size w8 wr) (fun i _ => G.length - (intOf i).toNat)
        case atStart => exact ⟨0, Nat.zero_le _, rfl, Below.refl _ _⟩
        case round =>
          obtain ⟨k, hk, rfl, hbr⟩ := hrel
          have HBK := Lib.hid hbr
          clear hbr
          obtain ⟨z0, z1⟩ := HX.out _ (Below.now HB5.out (Below.now HB6.out HBK.out))
          by_cases hkt : k < G.length
          · obtain ⟨b2, off2, rfl, hb2, hcell⟩ := (HG6.out.later HBK.out).cell hkt
            have h2 := hcell k hkt
            obtain ⟨yn, hy, hym, hxy⟩ := HRE.out.el _ (nthZ_mem hkt)
            have hmY := nthZ_mem hkt
            rw [hy] at h2 hmY
            have HY := Lib.hid hmY
            have HXY := Lib.hid hxy
            clear hcell hy hb2 hmY hxy
            go_wp2_with fail
            generalize hWR : wr = wr1 at *
            clear hWR
            go_loopw [11, 77] (fun v i wr => ∃ (c : Nat) (bb : Bool), c ≤ G.length ∧ i = .int .i64 (c : Nat) ∧ v = .bool bb ∧ Hid (bb = invTo m (z.map Int.toNat) G yn xn c) ∧ Below wr1.heap.size wr1 wr) (fun _ i _ => G.length - (intOf i).toNat)
            case atStart => exact ⟨0, false, Nat.zero_le _, rfl, rfl, Lib.hid (by simp [invTo]), Below.refl _ _⟩
            case round =>
              obtain ⟨c, bb, hc, rfl, rfl, hbb, hbr⟩ := hrel
              have HBC := Lib.hid hbr
              have HBA := Lib.hid (Below.now HB5.out (Below.now HB6.out (Below.now HBK.out HBC.out)))
              clear hbr z0 z1
              obtain ⟨z0, z1⟩ := HX.out _ HBA.out
              by_cases hct : c < G.length
              · obtain ⟨b3, off3, hab, _, hcell⟩ := (HG6.out.later (Below.now HBK.out HBC.out)).cell hct
                cases hab
                have h3 := hcell c hct
                obtain ⟨zn, hz3, hzm, _⟩ := HRE.out.el _ (nthZ_mem hct)
                have hmZ := nthZ_mem hct
                have HS := Lib.hid (invTo_succ (m := m) (zn := z.map Int.toNat) (y := yn) (x := xn) hct hz3)
                rw [hz3] at h3 hmZ
                have hpG := HRE.out.prod yn zn HY.out hmZ
                have HPP := Lib.hid (HPR.out yn zn wr (HZW.out _ HBA.out) hym hzm)
                clear hcell hz3 hmZ
                generalize tm m (z.map Int.toNat) yn zn = p at *
                have HHP := Lib.hid (fun W (h : IntsIn W (some ⟨b2, off2, none⟩) G) => lawHas_any G (some ⟨b2, off2, none⟩) cg (p : Nat) W h (by omega))
                rw [decide_eq_true hpG] at HHP
                clear hpG
                go_wp2_with fail
                refine HPP.out.mono ?_
                rintro e w9 ⟨rfl, hb9⟩
                have HB9 := Lib.hid (Below.now HBC.out hb9)
                clear hb9 z0 z1 h3 HPP
                go_wp2_with fail
                refine (HHP.out _ (HG6.out.later (Below.now HBK.out HB9.out))).mono ?_
                rintro e w10 ⟨rfl, rfl⟩
                clear HHP
                cases bb
                · cases hq : (((p : Nat) : Int) == ((xn : Nat) : Int))
                  · have F : Hid (false = invTo m (z.map Int.toNat) G yn xn (c + 1)) := Lib.hid (by
                      rw [HS.out, ← hbb.out, Bool.false_or, decide_eq_false (by have := beq_eq_false_iff_ne.1 hq; omega)])
                    go_wp2_with fail
                    go_roundw
                    case rel => exact ⟨c + 1, false, by omega, by go_num, rfl, F, HB9.out⟩
                    case measure => simp [intOf]; omega
                  · have F : Hid (true = invTo m (z.map Int.toNat) G yn xn (c + 1)) := Lib.hid (by
                      rw [HS.out, ← hbb.out, Bool.false_or, decide_eq_true (by have := beq_iff_eq.1 hq; omega)])
                    go_wp2_with fail
                    go_roundw
                    case rel => exact ⟨c + 1, true, by omega, by go_num, rfl, F, HB9.out⟩
                    case measure => simp [intOf]; omega
                · have F : Hid (true = invTo m (z.map Int.toNat) G yn xn (c + 1)) := Lib.hid (by
                    rw [HS.out, ← hbb.out, Bool.true_or])
                  go_wp2_with fail
                  go_roundw
                  case rel => exact ⟨c + 1, true, by omega, by go_num, rfl, F, HB9.out⟩
                  case measure => simp [intOf]; omega
              · obtain rfl : bb = true := hbb.out.trans (invTo_all hct (HRE.out.inv yn HY.out))
                have HPX := Lib.hid (HPR.out xn yn wr (HZW.out _ HBA.out) hxm hym)
                rw [HXY.out] at HPX
                go_wp2_with fail
                refine HPX.out.mono ?_
                rintro e w9 ⟨rfl, hb9⟩
                have HB9 := Lib.hid (Below.now HBK.out (Below.now HBC.out hb9))
                clear hb9 z0 z1 HPX
                go_wp2_with fail
                go_roundw
                case rel => exact ⟨k + 1, by omega, by go_num, HB9.out⟩
                case measure => simp [intOf]; omega
          · go_wp2_with fail
            go_roundw
            case rel => exact ⟨j + 1, by omega, by go_num, Below.now HB6.out HBK.out⟩
            case measure => simp [intOf]; omega
      · have HSM : Hid (∀ ax ay cx cy W, IntsIn W ax U → IntsIn W ay U → Calls Tryz.prog 21 #[.slice ax U.length cx, .slice ay U.length cy] W fun e w' => e = .returned (.bool true) ∧ w' = W) := Lib.hid (fun ax ay cx cy W h1 h2 => by
          have h := lawSame_any U U ax ay cx cy W h1 h2 (by omega) (by omega)
          rw [decide_eq_true rfl] at h
          exact h)
        have HBW := Lib.hid (Below.now HB5.out HBR.out)
        have HB6 := Lib.hid (Below.now HB1.out (Below.now HW2.out HBW.out))
        obtain ⟨b1, hb1, hd1⟩ : ∃ b1, (((E.length : Nat) : Int) == 1) = b1 ∧ decide (E.length = 1) = b1 := ⟨_, rfl, by rw [Bool.eq_iff_iff]; simp; omega⟩
        obtain ⟨b2, hb2, hd2⟩ : ∃ b2, (((U.length : Nat) : Int) == ((m : Nat) : Int)) = b2 ∧ decide (((U.length : Nat) : Int) = ((m : Nat) : Int)) = b2 := ⟨_, rfl, by rw [Bool.eq_iff_iff]; simp⟩
        rw [hd1, hd2] at HGR
        rw [hd2] at HIG
        have hn1 : (E.length == 1) = b1 := by rw [← hd1, Bool.eq_iff_iff]; simp
        have hn2 : (U.length == m) = b2 := by rw [← hd2, Bool.eq_iff_iff]; simp; omega
        have hn3 : decide (U.length = m) = b2 := by rw [← hd2, Bool.eq_iff_iff]; simp; omega
        clear HEX HML HZ0 HRS HSF HMX HPR HR5 HE5 HB5
        have kr := Below.refl wr.heap.size wr
        obtain ⟨z0, z1⟩ := HX.out _ HBW.out
        go_upto_region 31 with fail
        cases b1 <;> cases b2
        case false.true => cases HGR
        case false.false =>
          clear HGR z0 z1 kr
          refine region_each (fun W => Below wr.heap.size wr W) (fun W W2 => Below W.heap.size W W2) (fun u => by simp only [fPut, Act.put, List.setIfInBounds_toArray, List.set_cons_succ, List.set_cons_zero, Nat.zero_add, Nat.reduceAdd]; rfl) (by kernel_rfl) (by kernel_rfl) (by kernel_rfl) (Below.drew (Below.refl _ _)) ?_
          apply each_read (fun _ => Below.refl _ _) rfl
          · intro u wv hC hf
            have z0 := (HX.out _ (Below.now HBW.out hC)).1
            have z1 := (HX.out _ (Below.now HBW.out hC)).2
            clear hf
            go_simp
            try rfl
          refine each_call (fun v wv => ∃ a c, v = .slice a U.length c ∧ IntsIn wv a U) (fun v w w2 _ hR ⟨a, c, h1, h2⟩ => ⟨a, c, h1, h2.later hR⟩) rfl ?_ ?_
          · intro u wv hC hf
            have z0 := (HX.out _ (Below.now HBW.out hC)).1
            have z1 := (HX.out _ (Below.now HBW.out hC)).2
            obtain ⟨d0_0, -⟩ := hf
            have e0 : u 0 = _ := d0_0 rfl
            clear d0_0
            apply Exists.intro; apply Exists.intro; apply And.intro
            · go_simp; exact ⟨rfl, rfl⟩
            · refine (HM0.out _ (HZW.out _ (Below.now HBW.out hC))).mono ?_
              rintro e w3 ⟨ap, cp, rfl, ho, hb⟩
              exact ⟨_, rfl, Below.now hC hb, hb, ap, cp, rfl, owns_ints (l := U) ho⟩
          conv => arg 8; simp only [List.cons_append, List.nil_append]
          apply each_read (fun _ => Below.refl _ _) rfl
          · intro u wv hC hf
            have z0 := (HX.out _ (Below.now HBW.out hC)).1
            have z1 := (HX.out _ (Below.now HBW.out hC)).2
            clear hf
            go_simp
            try rfl
          conv => arg 8; simp only [List.cons_append, List.nil_append]
          refine each_call (fun v wv => ∃ a c, v = .slice a U.length c ∧ IntsIn wv a U) (fun v w w2 _ hR ⟨a, c, h1, h2⟩ => ⟨a, c, h1, h2.later hR⟩) rfl ?_ ?_
          · intro u wv hC hf
            have z0 := (HX.out _ (Below.now HBW.out hC)).1
            have z1 := (HX.out _ (Below.now HBW.out hC)).2
            obtain ⟨d2_0, d1_1, -⟩ := hf
            have e2 : u 2 = _ := d2_0 rfl
            clear d2_0
            obtain ⟨ap1, cp1, e1, r1⟩ := d1_1 rfl
            apply Exists.intro; apply Exists.intro; apply And.intro
            · go_simp; exact ⟨rfl, rfl⟩
            · refine (HUN.out _ (HZW.out _ (Below.now HBW.out hC))).mono ?_
              rintro e w3 ⟨ap, cp, rfl, ho, hb⟩
              exact ⟨_, rfl, Below.now hC hb, hb, ap, cp, rfl, owns_ints (l := U) ho⟩
          conv => arg 8; simp only [List.cons_append, List.nil_append]
          apply each_callR rfl
          · intro u wv hC hf
            have z0 := (HX.out _ (Below.now HBW.out hC)).1
            have z1 := (HX.out _ (Below.now HBW.out hC)).2
            obtain ⟨d1_0, d3_1, d3_2, -⟩ := hf
            obtain ⟨ap1, cp1, e1, r1⟩ := d1_0 rfl
            obtain ⟨ap3, cp3, e3, r3⟩ := d3_1 rfl
            clear d3_2
            apply Exists.intro; apply Exists.intro; apply And.intro
            · go_simp; exact ⟨rfl, rfl⟩
            · refine (HSM.out ap1 ap3 cp1 cp3 _ r1 r3).mono ?_
              rintro e w3 ⟨rfl, rfl⟩
              exact ⟨rfl, hC, Below.refl _ _⟩
          conv => arg 8; simp only [List.cons_append, List.nil_append]
          apply each_read (fun _ => Below.refl _ _) rfl
          · intro u wv hC hf
            have z0 := (HX.out _ (Below.now HBW.out hC)).1
            have z1 := (HX.out _ (Below.now HBW.out hC)).2
            obtain ⟨d4_0, d4_1, -⟩ := hf
            have e4 : u 4 = _ := d4_0 rfl
            clear d4_0
            clear d4_1
            go_simp
            try rfl
          conv => arg 8; simp only [List.cons_append, List.nil_append]
          apply each_readG (fun _ => Below.refl _ _)
          · intro u wv hC hf
            have z0 := (HX.out _ (Below.now HBW.out hC)).1
            have z1 := (HX.out _ (Below.now HBW.out hC)).2
            obtain ⟨d5_0, -⟩ := hf
            have e5 : u 5 = _ := d5_0 rfl
            clear d5_0
            refine ⟨wanted_at rfl rfl rfl e5 rfl, ?_⟩
            go_simp
            try rfl
          conv => arg 8; simp only [List.cons_append, List.nil_append]
          apply each_callRG
          · intro u wv hC hf
            have z0 := (HX.out _ (Below.now HBW.out hC)).1
            have z1 := (HX.out _ (Below.now HBW.out hC)).2
            obtain ⟨d6_0, d5_1, d5_2, -⟩ := hf
            have e6 : u 6 = _ := d6_0 rfl
            clear d6_0
            have e5 : u 5 = _ := d5_1 rfl
            clear d5_1
            clear d5_2
            refine ⟨wanted_at rfl rfl rfl e5 rfl, ?_⟩
            apply Exists.intro; apply Exists.intro; apply And.intro
            · go_simp; exact ⟨rfl, rfl⟩
            · refine (HIG.out _ (HZW.out _ (Below.now HBW.out hC))).mono ?_
              rintro e w3 ⟨rfl, hb⟩
              exact ⟨rfl, Below.now hC hb, hb⟩
          conv => arg 8; simp only [List.cons_append, List.nil_append]
          apply each_readG (fun _ => Below.refl _ _)
          · intro u wv hC hf
            have z0 := (HX.out _ (Below.now HBW.out hC)).1
            have z1 := (HX.out _ (Below.now HBW.out hC)).2
            obtain ⟨d5_0, -⟩ := hf
            have e5 : u 5 = _ := d5_0 rfl
            clear d5_0
            refine ⟨wanted_at rfl rfl rfl e5 rfl, ?_⟩
            go_simp
            try rfl
          conv => arg 8; simp only [List.cons_append, List.nil_append]
          apply each_readG (fun _ => Below.refl _ _)
          · intro u wv hC hf
            have z0 := (HX.out _ (Below.now HBW.out hC)).1
            have z1 := (HX.out _ (Below.now HBW.out hC)).2
            obtain ⟨d8_0, d5_1, -⟩ := hf
            have e8 : u 8 = _ := d8_0 rfl
            clear d8_0
            have e5 : u 5 = _ := d5_1 rfl
            clear d5_1
            refine ⟨wanted_at rfl rfl rfl e5 rfl, ?_⟩
            go_simp
            try rfl
          conv => arg 8; simp only [List.cons_append, List.nil_append]
          apply each_readG (fun _ => Below.refl _ _)
          · intro u wv hC hf
            have z0 := (HX.out _ (Below.now HBW.out hC)).1
            have z1 := (HX.out _ (Below.now HBW.out hC)).2
            obtain ⟨d9_0, d5_1, -⟩ := hf
            have e9 : u 9 = _ := d9_0 rfl
            clear d9_0
            have e5 : u 5 = _ := d5_1 rfl
            clear d5_1
            refine ⟨wanted_at rfl rfl rfl e5 rfl, ?_⟩
            go_simp
            try rfl
          conv => arg 8; simp only [List.cons_append, List.nil_append]
          apply each_readG (fun _ => Below.refl _ _)
          · intro u wv hC hf
            have z0 := (HX.out _ (Below.now HBW.out hC)).1
            have z1 := (HX.out _ (Below.now HBW.out hC)).2
            obtain ⟨d10_0, d7_1, d5_2, -⟩ := hf
            have e10 : u 10 = _ := d10_0 rfl
            clear d10_0
            have e7 : u 7 = _ := d7_1 rfl
            clear d7_1
            have e5 : u 5 = _ := d5_2 rfl
            clear d5_2
            refine ⟨wanted_at rfl rfl rfl e5 rfl, ?_⟩
            go_simp
            try rfl
          conv => arg 8; simp only [List.cons_append, List.nil_append]
          refine each_off ?_ ?_
          · intro u wv hC hf
            obtain ⟨d11_0, -⟩ := hf
            have e11 : u 11 = _ := d11_0 rfl
            clear d11_0
            exact wanted_at rfl rfl rfl e11 rfl
          conv => arg 8; simp only [List.cons_append, List.nil_append]
          refine each_off ?_ ?_
          · intro u wv hC hf
            obtain ⟨d12_0, d11_1, d11_2, -⟩ := hf
            have e12 : u 12 = _ := d12_0 rfl
            clear d12_0
            have e11 : u 11 = _ := d11_1 rfl
            clear d11_1
            clear d11_2
            exact wanted_at rfl rfl rfl e11 rfl
          conv => arg 8; simp only [List.cons_append, List.nil_append]
          refine each_off ?_ ?_
          · intro u wv hC hf
            obtain ⟨d13_0, d11_1, -⟩ := hf
            have e13 : u 13 = _ := d13_0 rfl
            clear d13_0
            have e11 : u 11 = _ := d11_1 rfl
            clear d11_1
            exact wanted_at rfl rfl rfl e11 rfl
          conv => arg 8; simp only [List.cons_append, List.nil_append]
          refine each_off ?_ ?_
          · intro u wv hC hf
            obtain ⟨d11_0, -⟩ := hf
            have e11 : u 11 = _ := d11_0 rfl
            clear d11_0
            exact wanted_at rfl rfl rfl e11 rfl
          conv => arg 8; simp only [List.cons_append, List.nil_append]
          refine each_off ?_ ?_
          · intro u wv hC hf
            obtain ⟨d15_0, d11_1, -⟩ := hf
            have e15 : u 15 = _ := d15_0 rfl
            clear d15_0
            have e11 : u 11 = _ := d11_1 rfl
            clear d11_1
            exact wanted_at rfl rfl rfl e11 rfl
          conv => arg 8; simp only [List.cons_append, List.nil_append]
          refine each_off ?_ ?_
          · intro u wv hC hf
            obtain ⟨d14_0, d16_1, d11_2, -⟩ := hf
            have e14 : u 14 = _ := d14_0 rfl
            clear d14_0
            have e16 : u 16 = _ := d16_1 rfl
            clear d16_1
            have e11 : u 11 = _ := d11_2 rfl
            clear d11_2
            exact wanted_at rfl rfl rfl e11 rfl
          conv => arg 8; simp only [List.cons_append, List.nil_append]
          apply each_readG (fun _ => Below.refl _ _)
          · intro u wv hC hf
            have z0 := (HX.out _ (Below.now HBW.out hC)).1
            have z1 := (HX.out _ (Below.now HBW.out hC)).2
            obtain ⟨d11_0, d17_1, d5_2, -⟩ := hf
            have e11 : u 11 = _ := d11_0 rfl
            clear d11_0
            have e17 : u 17 = _ := d17_1 rfl
            clear d17_1
            have e5 : u 5 = _ := d5_2 rfl
            clear d5_2
            refine ⟨wanted_at rfl rfl rfl e5 rfl, ?_⟩
            go_simp
            try rfl
          conv => arg 8; simp only [List.cons_append, List.nil_append]
          apply each_readG (fun _ => Below.refl _ _)
          · intro u wv hC hf
            have z0 := (HX.out _ (Below.now HBW.out hC)).1
            have z1 := (HX.out _ (Below.now HBW.out hC)).2
            obtain ⟨d7_0, d18_1, d5_2, -⟩ := hf
            have e7 : u 7 = _ := d7_0 rfl
            clear d7_0
            have e18 : u 18 = _ := d18_1 rfl
            clear d18_1
            have e5 : u 5 = _ := d5_2 rfl
            clear d5_2
            refine ⟨wanted_at rfl rfl rfl e5 rfl, ?_⟩
            go_simp
            try rfl
          conv => arg 8; simp only [List.cons_append, List.nil_append]
          apply each_read (fun _ => Below.refl _ _) rfl
          · intro u wv hC hf
            have z0 := (HX.out _ (Below.now HBW.out hC)).1
            have z1 := (HX.out _ (Below.now HBW.out hC)).2
            obtain ⟨d5_0, d19_1, -⟩ := hf
            have e5 : u 5 = _ := d5_0 rfl
            clear d5_0
            have e19 : u 19 = _ := d19_1 rfl
            clear d19_1
            go_simp
            try rfl
          conv => arg 8; simp only [List.cons_append, List.nil_append]
          apply each_read (fun _ => Below.refl _ _) rfl
          · intro u wv hC hf
            have z0 := (HX.out _ (Below.now HBW.out hC)).1
            have z1 := (HX.out _ (Below.now HBW.out hC)).2
            obtain ⟨d20_0, d13_1, d0_2, d1_3, d2_4, d3_5, d4_6, d5_7, d6_8, d7_9, d8_10, d9_11, d10_12, d11_13, d12_14, d13_15, d14_16, d15_17, d16_18, d17_19, d18_20, d19_21, d20_22, -⟩ := hf
            have e20 : u 20 = _ := d20_0 rfl
            clear d20_0
            have e13 : u 13 = _ := d13_1 rfl
            clear d13_1
            have e0 : u 0 = _ := d0_2 rfl
            clear d0_2
            obtain ⟨ap1, cp1, e1, r1⟩ := d1_3 rfl
            have e2 : u 2 = _ := d2_4 rfl
            clear d2_4
            obtain ⟨ap3, cp3, e3, r3⟩ := d3_5 rfl
            have e4 : u 4 = _ := d4_6 rfl
            clear d4_6
            have e5 : u 5 = _ := d5_7 rfl
            clear d5_7
            have e6 : u 6 = _ := d6_8 rfl
            clear d6_8
            have e7 : u 7 = _ := d7_9 rfl
            clear d7_9
            have e8 : u 8 = _ := d8_10 rfl
            clear d8_10
            have e9 : u 9 = _ := d9_11 rfl
            clear d9_11
            have e10 : u 10 = _ := d10_12 rfl
            clear d10_12
            have e11 : u 11 = _ := d11_13 rfl
            clear d11_13
            have e12 : u 12 = _ := d12_14 rfl
            clear d12_14
            clear d13_15
            have e14 : u 14 = _ := d14_16 rfl
            clear d14_16
            have e15 : u 15 = _ := d15_17 rfl
            clear d15_17
            have e16 : u 16 = _ := d16_18 rfl
            clear d16_18
            have e17 : u 17 = _ := d17_19 rfl
            clear d17_19
            have e18 : u 18 = _ := d18_20 rfl
            clear d18_20
            have e19 : u 19 = _ := d19_21 rfl
            clear d19_21
            clear d20_22
            go_simp
            try rfl
          intro u v4 d1 hall
          obtain ⟨a0, a1, a2, a3, a4, a5, a6, a7, a8, a9, a10, a11, a12, a13, a14, a15, a16, a17, a18, a19, a20, a21, -⟩ := hall
          have e0 : u 0 = _ := a0
          clear a0
          obtain ⟨ap1, cp1, e1, r1⟩ := a1
          replace e1 : u 1 = _ := e1
          have e2 : u 2 = _ := a2
          clear a2
          obtain ⟨ap3, cp3, e3, r3⟩ := a3
          replace e3 : u 3 = _ := e3
          have e4 : u 4 = _ := a4
          clear a4
          have e5 : u 5 = _ := a5
          clear a5
          have e6 : u 6 = _ := a6
          clear a6
          have e7 : u 7 = _ := a7
          clear a7
          have e8 : u 8 = _ := a8
          clear a8
          have e9 : u 9 = _ := a9
          clear a9
          have e10 : u 10 = _ := a10
          clear a10
          have e11 : u 11 = _ := a11
          clear a11
          have e12 : u 12 = _ := a12
          clear a12
          have e13 : u 13 = _ := a13
          clear a13
          have e14 : u 14 = _ := a14
          clear a14
          have e15 : u 15 = _ := a15
          clear a15
          have e16 : u 16 = _ := a16
          clear a16
          have e17 : u 17 = _ := a17
          clear a17
          have e18 : u 18 = _ := a18
          clear a18
          have e19 : u 19 = _ := a19
          clear a19
          have e20 : u 20 = _ := a20
          clear a20
          have e21 : u 21 = _ := a21
          clear a21
          simp only [e0, e1, e2, e3, e4, e5, e6, e7, e8, e9, e10, e11, e12, e13, e14, e15, e16, e17, e18, e19, e20, e21]
          clear e0 e1 e2 e3 e4 e5 e6 e7 e8 e9 e10 e11 e12 e13 e14 e15 e16 e17 e18 e19 e20 e21
          go_wp2_with fail
          go_ret
          exact ⟨rfl, Below.now HB6.out d1⟩
        all_goals
          clear HGR z0 z1 kr
          refine region_each (fun W => Below wr.heap.size wr W) (fun W W2 => Below W.heap.size W W2) (fun u => by simp only [fPut, Act.put, List.setIfInBounds_toArray, List.set_cons_succ, List.set_cons_zero, Nat.zero_add, Nat.reduceAdd]; rfl) (by kernel_rfl) (by kernel_rfl) (by kernel_rfl) (Below.drew (Below.refl _ _)) ?_
          apply each_read (fun _ => Below.refl _ _) rfl
          · intro u wv hC hf
            have z0 := (HX.out _ (Below.now HBW.out hC)).1
            have z1 := (HX.out _ (Below.now HBW.out hC)).2
            clear hf
            go_simp
            try rfl
          refine each_call (fun v wv => ∃ a c, v = .slice a U.length c ∧ IntsIn wv a U) (fun v w w2 _ hR ⟨a, c, h1, h2⟩ => ⟨a, c, h1, h2.later hR⟩) rfl ?_ ?_
          · intro u wv hC hf
            have z0 := (HX.out _ (Below.now HBW.out hC)).1
            have z1 := (HX.out _ (Below.now HBW.out hC)).2
            obtain ⟨d0_0, -⟩ := hf
            have e0 : u 0 = _ := d0_0 rfl
            clear d0_0
            apply Exists.intro; apply Exists.intro; apply And.intro
            · go_simp; exact ⟨rfl, rfl⟩
            · refine (HM0.out _ (HZW.out _ (Below.now HBW.out hC))).mono ?_
              rintro e w3 ⟨ap, cp, rfl, ho, hb⟩
              exact ⟨_, rfl, Below.now hC hb, hb, ap, cp, rfl, owns_ints (l := U) ho⟩
          conv => arg 8; simp only [List.cons_append, List.nil_append]
          apply each_read (fun _ => Below.refl _ _) rfl
          · intro u wv hC hf
            have z0 := (HX.out _ (Below.now HBW.out hC)).1
            have z1 := (HX.out _ (Below.now HBW.out hC)).2
            clear hf
            go_simp
            try rfl
          conv => arg 8; simp only [List.cons_append, List.nil_append]
          refine each_call (fun v wv => ∃ a c, v = .slice a U.length c ∧ IntsIn wv a U) (fun v w w2 _ hR ⟨a, c, h1, h2⟩ => ⟨a, c, h1, h2.later hR⟩) rfl ?_ ?_
          · intro u wv hC hf
            have z0 := (HX.out _ (Below.now HBW.out hC)).1
            have z1 := (HX.out _ (Below.now HBW.out hC)).2
            obtain ⟨d2_0, d1_1, -⟩ := hf
            have e2 : u 2 = _ := d2_0 rfl
            clear d2_0
            obtain ⟨ap1, cp1, e1, r1⟩ := d1_1 rfl
            apply Exists.intro; apply Exists.intro; apply And.intro
            · go_simp; exact ⟨rfl, rfl⟩
            · refine (HUN.out _ (HZW.out _ (Below.now HBW.out hC))).mono ?_
              rintro e w3 ⟨ap, cp, rfl, ho, hb⟩
              exact ⟨_, rfl, Below.now hC hb, hb, ap, cp, rfl, owns_ints (l := U) ho⟩
          conv => arg 8; simp only [List.cons_append, List.nil_append]
          apply each_callR rfl
          · intro u wv hC hf
            have z0 := (HX.out _ (Below.now HBW.out hC)).1
            have z1 := (HX.out _ (Below.now HBW.out hC)).2
            obtain ⟨d1_0, d3_1, d3_2, -⟩ := hf
            obtain ⟨ap1, cp1, e1, r1⟩ := d1_0 rfl
            obtain ⟨ap3, cp3, e3, r3⟩ := d3_1 rfl
            clear d3_2
            apply Exists.intro; apply Exists.intro; apply And.intro
            · go_simp; exact ⟨rfl, rfl⟩
            · refine (HSM.out ap1 ap3 cp1 cp3 _ r1 r3).mono ?_
              rintro e w3 ⟨rfl, rfl⟩
              exact ⟨rfl, hC, Below.refl _ _⟩
          conv => arg 8; simp only [List.cons_append, List.nil_append]
          apply each_read (fun _ => Below.refl _ _) rfl
          · intro u wv hC hf
            have z0 := (HX.out _ (Below.now HBW.out hC)).1
            have z1 := (HX.out _ (Below.now HBW.out hC)).2
            obtain ⟨d4_0, d4_1, -⟩ := hf
            have e4 : u 4 = _ := d4_0 rfl
            clear d4_0
            clear d4_1
            go_simp
            try rfl
          conv => arg 8; simp only [List.cons_append, List.nil_append]
          apply each_readG (fun _ => Below.refl _ _)
          · intro u wv hC hf
            have z0 := (HX.out _ (Below.now HBW.out hC)).1
            have z1 := (HX.out _ (Below.now HBW.out hC)).2
            obtain ⟨d5_0, -⟩ := hf
            have e5 : u 5 = _ := d5_0 rfl
            clear d5_0
            refine ⟨wanted_at rfl rfl rfl e5 rfl, ?_⟩
            go_simp
            try rfl
          conv => arg 8; simp only [List.cons_append, List.nil_append]
          apply each_callRG
          · intro u wv hC hf
            have z0 := (HX.out _ (Below.now HBW.out hC)).1
            have z1 := (HX.out _ (Below.now HBW.out hC)).2
            obtain ⟨d6_0, d5_1, d5_2, -⟩ := hf
            have e6 : u 6 = _ := d6_0 rfl
            clear d6_0
            have e5 : u 5 = _ := d5_1 rfl
            clear d5_1
            clear d5_2
            refine ⟨wanted_at rfl rfl rfl e5 rfl, ?_⟩
            apply Exists.intro; apply Exists.intro; apply And.intro
            · go_simp; exact ⟨rfl, rfl⟩
            · refine (HIG.out _ (HZW.out _ (Below.now HBW.out hC))).mono ?_
              rintro e w3 ⟨rfl, hb⟩
              exact ⟨rfl, Below.now hC hb, hb⟩
          conv => arg 8; simp only [List.cons_append, List.nil_append]
          apply each_readG (fun _ => Below.refl _ _)
          · intro u wv hC hf
            have z0 := (HX.out _ (Below.now HBW.out hC)).1
            have z1 := (HX.out _ (Below.now HBW.out hC)).2
            obtain ⟨d5_0, -⟩ := hf
            have e5 : u 5 = _ := d5_0 rfl
            clear d5_0
            refine ⟨wanted_at rfl rfl rfl e5 rfl, ?_⟩
            go_simp
            try rfl
          conv => arg 8; simp only [List.cons_append, List.nil_append]
          apply each_readG (fun _ => Below.refl _ _)
          · intro u wv hC hf
            have z0 := (HX.out _ (Below.now HBW.out hC)).1
            have z1 := (HX.out _ (Below.now HBW.out hC)).2
            obtain ⟨d8_0, d5_1, -⟩ := hf
            have e8 : u 8 = _ := d8_0 rfl
            clear d8_0
            have e5 : u 5 = _ := d5_1 rfl
            clear d5_1
            refine ⟨wanted_at rfl rfl rfl e5 rfl, ?_⟩
            go_simp
            try rfl
          conv => arg 8; simp only [List.cons_append, List.nil_append]
          apply each_readG (fun _ => Below.refl _ _)
          · intro u wv hC hf
            have z0 := (HX.out _ (Below.now HBW.out hC)).1
            have z1 := (HX.out _ (Below.now HBW.out hC)).2
            obtain ⟨d9_0, d5_1, -⟩ := hf
            have e9 : u 9 = _ := d9_0 rfl
            clear d9_0
            have e5 : u 5 = _ := d5_1 rfl
            clear d5_1
            refine ⟨wanted_at rfl rfl rfl e5 rfl, ?_⟩
            go_simp
            try rfl
          conv => arg 8; simp only [List.cons_append, List.nil_append]
          apply each_readG (fun _ => Below.refl _ _)
          · intro u wv hC hf
            have z0 := (HX.out _ (Below.now HBW.out hC)).1
            have z1 := (HX.out _ (Below.now HBW.out hC)).2
            obtain ⟨d10_0, d7_1, d5_2, -⟩ := hf
            have e10 : u 10 = _ := d10_0 rfl
            clear d10_0
            have e7 : u 7 = _ := d7_1 rfl
            clear d7_1
            have e5 : u 5 = _ := d5_2 rfl
            clear d5_2
            refine ⟨wanted_at rfl rfl rfl e5 rfl, ?_⟩
            go_simp
            try rfl
          conv => arg 8; simp only [List.cons_append, List.nil_append]
          apply each_readG (fun _ => Below.refl _ _)
          · intro u wv hC hf
            have z0 := (HX.out _ (Below.now HBW.out hC)).1
            have z1 := (HX.out _ (Below.now HBW.out hC)).2
            obtain ⟨d11_0, -⟩ := hf
            have e11 : u 11 = _ := d11_0 rfl
            clear d11_0
            refine ⟨wanted_at rfl rfl rfl e11 rfl, ?_⟩
            go_simp
            try rfl
          conv => arg 8; simp only [List.cons_append, List.nil_append]
          refine each_callG (fun v wv => ∃ a c, v = .slice a U.length c ∧ IntsIn wv a U) (fun v w w2 _ hR ⟨a, c, h1, h2⟩ => ⟨a, c, h1, h2.later hR⟩) ?_ ?_
          · intro u wv hC hf
            have z0 := (HX.out _ (Below.now HBW.out hC)).1
            have z1 := (HX.out _ (Below.now HBW.out hC)).2
            obtain ⟨d12_0, d11_1, d11_2, -⟩ := hf
            have e12 : u 12 = _ := d12_0 rfl
            clear d12_0
            have e11 : u 11 = _ := d11_1 rfl
            clear d11_1
            clear d11_2
            refine ⟨wanted_at rfl rfl rfl e11 rfl, ?_⟩
            apply Exists.intro; apply Exists.intro; apply And.intro
            · go_simp; exact ⟨rfl, rfl⟩
            · refine (HUN.out _ (HZW.out _ (Below.now HBW.out hC))).mono ?_
              rintro e w3 ⟨ap, cp, rfl, ho, hb⟩
              exact ⟨_, rfl, Below.now hC hb, hb, ap, cp, rfl, owns_ints (l := U) ho⟩
          conv => arg 8; simp only [List.cons_append, List.nil_append]
          apply each_readG (fun _ => Below.refl _ _)
          · intro u wv hC hf
            have z0 := (HX.out _ (Below.now HBW.out hC)).1
            have z1 := (HX.out _ (Below.now HBW.out hC)).2
            obtain ⟨d13_0, d11_1, -⟩ := hf
            obtain ⟨ap13, cp13, e13, r13⟩ := d13_0 rfl
            have e11 : u 11 = _ := d11_1 rfl
            clear d11_1
            refine ⟨wanted_at rfl rfl rfl e11 rfl, ?_⟩
            go_simp
            try rfl
          conv => arg 8; simp only [List.cons_append, List.nil_append]
          apply each_readG (fun _ => Below.refl _ _)
          · intro u wv hC hf
            have z0 := (HX.out _ (Below.now HBW.out hC)).1
            have z1 := (HX.out _ (Below.now HBW.out hC)).2
            obtain ⟨d11_0, -⟩ := hf
            have e11 : u 11 = _ := d11_0 rfl
            clear d11_0
            refine ⟨wanted_at rfl rfl rfl e11 rfl, ?_⟩
            go_simp
            try rfl
          conv => arg 8; simp only [List.cons_append, List.nil_append]
          apply each_readG (fun _ => Below.refl _ _)
          · intro u wv hC hf
            have z0 := (HX.out _ (Below.now HBW.out hC)).1
            have z1 := (HX.out _ (Below.now HBW.out hC)).2
            obtain ⟨d15_0, d11_1, -⟩ := hf
            have e15 : u 15 = _ := d15_0 rfl
            clear d15_0
            have e11 : u 11 = _ := d11_1 rfl
            clear d11_1
            refine ⟨wanted_at rfl rfl rfl e11 rfl, ?_⟩
            go_simp
            try rfl
          conv => arg 8; simp only [List.cons_append, List.nil_append]
          apply each_readG (fun _ => Below.refl _ _)
          · intro u wv hC hf
            have z0 := (HX.out _ (Below.now HBW.out hC)).1
            have z1 := (HX.out _ (Below.now HBW.out hC)).2
            obtain ⟨d14_0, d16_1, d11_2, -⟩ := hf
            have e14 : u 14 = _ := d14_0 rfl
            clear d14_0
            have e16 : u 16 = _ := d16_1 rfl
            clear d16_1
            have e11 : u 11 = _ := d11_2 rfl
            clear d11_2
            refine ⟨wanted_at rfl rfl rfl e11 rfl, ?_⟩
            go_simp
            try rfl
          conv => arg 8; simp only [List.cons_append, List.nil_append]
          apply each_readG (fun _ => Below.refl _ _)
          · intro u wv hC hf
            have z0 := (HX.out _ (Below.now HBW.out hC)).1
            have z1 := (HX.out _ (Below.now HBW.out hC)).2
            obtain ⟨d11_0, d17_1, d5_2, -⟩ := hf
            have e11 : u 11 = _ := d11_0 rfl
            clear d11_0
            have e17 : u 17 = _ := d17_1 rfl
            clear d17_1
            have e5 : u 5 = _ := d5_2 rfl
            clear d5_2
            refine ⟨wanted_at rfl rfl rfl e5 rfl, ?_⟩
            go_simp
            try rfl
          conv => arg 8; simp only [List.cons_append, List.nil_append]
          apply each_readG (fun _ => Below.refl _ _)
          · intro u wv hC hf
            have z0 := (HX.out _ (Below.now HBW.out hC)).1
            have z1 := (HX.out _ (Below.now HBW.out hC)).2
            obtain ⟨d7_0, d18_1, d5_2, -⟩ := hf
            have e7 : u 7 = _ := d7_0 rfl
            clear d7_0
            have e18 : u 18 = _ := d18_1 rfl
            clear d18_1
            have e5 : u 5 = _ := d5_2 rfl
            clear d5_2
            refine ⟨wanted_at rfl rfl rfl e5 rfl, ?_⟩
            go_simp
            try rfl
          conv => arg 8; simp only [List.cons_append, List.nil_append]
          apply each_read (fun _ => Below.refl _ _) rfl
          · intro u wv hC hf
            have z0 := (HX.out _ (Below.now HBW.out hC)).1
            have z1 := (HX.out _ (Below.now HBW.out hC)).2
            obtain ⟨d5_0, d19_1, -⟩ := hf
            have e5 : u 5 = _ := d5_0 rfl
            clear d5_0
            have e19 : u 19 = _ := d19_1 rfl
            clear d19_1
            go_simp
            try rfl
          conv => arg 8; simp only [List.cons_append, List.nil_append]
          apply each_read (fun _ => Below.refl _ _) rfl
          · intro u wv hC hf
            have z0 := (HX.out _ (Below.now HBW.out hC)).1
            have z1 := (HX.out _ (Below.now HBW.out hC)).2
            obtain ⟨d20_0, d13_1, d0_2, d1_3, d2_4, d3_5, d4_6, d5_7, d6_8, d7_9, d8_10, d9_11, d10_12, d11_13, d12_14, d13_15, d14_16, d15_17, d16_18, d17_19, d18_20, d19_21, d20_22, -⟩ := hf
            have e20 : u 20 = _ := d20_0 rfl
            clear d20_0
            obtain ⟨ap13, cp13, e13, r13⟩ := d13_1 rfl
            have e0 : u 0 = _ := d0_2 rfl
            clear d0_2
            obtain ⟨ap1, cp1, e1, r1⟩ := d1_3 rfl
            have e2 : u 2 = _ := d2_4 rfl
            clear d2_4
            obtain ⟨ap3, cp3, e3, r3⟩ := d3_5 rfl
            have e4 : u 4 = _ := d4_6 rfl
            clear d4_6
            have e5 : u 5 = _ := d5_7 rfl
            clear d5_7
            have e6 : u 6 = _ := d6_8 rfl
            clear d6_8
            have e7 : u 7 = _ := d7_9 rfl
            clear d7_9
            have e8 : u 8 = _ := d8_10 rfl
            clear d8_10
            have e9 : u 9 = _ := d9_11 rfl
            clear d9_11
            have e10 : u 10 = _ := d10_12 rfl
            clear d10_12
            have e11 : u 11 = _ := d11_13 rfl
            clear d11_13
            have e12 : u 12 = _ := d12_14 rfl
            clear d12_14
            clear d13_15
            have e14 : u 14 = _ := d14_16 rfl
            clear d14_16
            have e15 : u 15 = _ := d15_17 rfl
            clear d15_17
            have e16 : u 16 = _ := d16_18 rfl
            clear d16_18
            have e17 : u 17 = _ := d17_19 rfl
            clear d17_19
            have e18 : u 18 = _ := d18_20 rfl
            clear d18_20
            have e19 : u 19 = _ := d19_21 rfl
            clear d19_21
            clear d20_22
            go_simp
            try rfl
          intro u v4 d1 hall
          obtain ⟨a0, a1, a2, a3, a4, a5, a6, a7, a8, a9, a10, a11, a12, a13, a14, a15, a16, a17, a18, a19, a20, a21, -⟩ := hall
          have e0 : u 0 = _ := a0
          clear a0
          obtain ⟨ap1, cp1, e1, r1⟩ := a1
          replace e1 : u 1 = _ := e1
          have e2 : u 2 = _ := a2
          clear a2
          obtain ⟨ap3, cp3, e3, r3⟩ := a3
          replace e3 : u 3 = _ := e3
          have e4 : u 4 = _ := a4
          clear a4
          have e5 : u 5 = _ := a5
          clear a5
          have e6 : u 6 = _ := a6
          clear a6
          have e7 : u 7 = _ := a7
          clear a7
          have e8 : u 8 = _ := a8
          clear a8
          have e9 : u 9 = _ := a9
          clear a9
          have e10 : u 10 = _ := a10
          clear a10
          have e11 : u 11 = _ := a11
          clear a11
          have e12 : u 12 = _ := a12
          clear a12
          obtain ⟨ap13, cp13, e13, r13⟩ := a13
          replace e13 : u 13 = _ := e13
          have e14 : u 14 = _ := a14
          clear a14
          have e15 : u 15 = _ := a15
          clear a15
          have e16 : u 16 = _ := a16
          clear a16
          have e17 : u 17 = _ := a17
          clear a17
          have e18 : u 18 = _ := a18
          clear a18
          have e19 : u 19 = _ := a19
          clear a19
          have e20 : u 20 = _ := a20
          clear a20
          have e21 : u 21 = _ := a21
          clear a21
          simp only [e0, e1, e2, e3, e4, e5, e6, e7, e8, e9, e10, e11, e12, e13, e14, e15, e16, e17, e18, e19, e20, e21]
          clear e0 e1 e2 e3 e4 e5 e6 e7 e8 e9 e10 e11 e12 e13 e14 e15 e16 e17 e18 e19 e20 e21
          go_wp2_with fail
          go_ret
          exact ⟨rfl, Below.now HB6.out d1⟩
theorem walkBig (a : Option Addr) (n cap : Nat) (w : World) (hn : n ≤ 9223372036854775807) (hlen : 1048576 < n) :
    Calls Tryz.prog 4 #[.slice a n cap] w fun e w' => e = .returned (.bool true) ∧ Below w.heap.size w w' := by
  have hq0 : (1048576 : Int) < (n : Int) := by omega
  go_enter Tryz.func4, Tryz.ntmps4
  go_wp2_with fail
  go_ret
  exact ⟨rfl, Below.refl _ _⟩
end Go.Proofs.YtggfhephdcnpcaaGreat.fnRegular
