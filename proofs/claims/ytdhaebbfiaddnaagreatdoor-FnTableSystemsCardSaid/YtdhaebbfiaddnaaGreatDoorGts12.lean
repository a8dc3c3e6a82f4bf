/-
  One row appended to a copy of another, in a region that draws its order.
-/
import Derived.Test.YtdhaebbfiaddnaaGreatDoorGts11
import Derived.Test.YtdhaebbfiaddnaaGreatDoorGts08
import Derived.Laws.EntriesVeiled
import Derived.Test.YtdhaebbfiaddnaaGreatDoorGts04
import Derived.Test.YtdhaebbfiaddnaaGreatDoorGts03
namespace Go.Proofs.YtdhaebbfiaddnaaGreatDoor
open Go.RowKit Go.Maps Go.WideMaps
set_option linter.unusedVariables false
theorem wf64A {c : Nat} (h : c ≤ 9223372036854775807) : (Lit.int .i64 (c : Int)).wf = true := by
  have h1 : IntKind.i64.min = -9223372036854775808 := by decide
  have h2 : IntKind.i64.max = 9223372036854775807 := by decide
  simp only [Lit.wf, h1, h2, Bool.and_eq_true, decide_eq_true_eq]; omega
theorem WayG.leT {R : List RulD} {k n : Nat} {W V : WayD} (hap : ApartW W) {i j : Nat} (hW : WayAt R k n W) (hi : i < W.length) {left : Lit → Bool} (hl : left (keyL W[i].1) = true) (hj : j ≤ k) (h : WayG R k (doneW left W) j W[i].1 W[i].2 V) : wsum R k 0 V ≤ paths R k (n + 1) ⟨#[]⟩ := by
  rw [h.eq 0]
  have h1 := doneW_step R k (0 + 1) hap hi hl
  have h0 := doneW_le R k (0 + 1) (fun z => left z && !z.sameKey (keyL W[i].1)) W
  rw [h1, paths_succ] at h0
  have h2 := pTo_mono R k 0 W[i].1 hj
  have h3 : W[i].2 * pTo R k 0 W[i].1 j ≤ W[i].2 * pTo R k 0 W[i].1 k := Nat.mul_le_mul_left _ h2
  have h4 := hW.eq (0 + 1)
  have h6 : n + (0 + 1) = n + 1 := by omega
  rw [h6] at h4
  omega
theorem WayG.le0T {R : List RulD} {k n : Nat} {W V : WayD} (hW : WayAt R k n W) {left : Lit → Bool} {e : ByteArray} {c : Nat} (h : WayG R k (doneW left W) 0 e c V) : wsum R k 0 V ≤ paths R k (n + 1) ⟨#[]⟩ := by
  rw [h.eq 0, pTo_zero]
  have h0 := doneW_le R k (0 + 1) left W
  have h4 := hW.eq (0 + 1)
  have h6 : n + (0 + 1) = n + 1 := by omega
  rw [h6] at h4
  omega
set_option maxRecDepth 100000 in
set_option maxHeartbeats 4000000 in
theorem growthA_any (kn nn : Nat) (R : List RulD) (a : Option Addr) (cap : Nat) (w : World) (hl : RulesIn w a R) (hlen : R.length ≤ 2 ^ 40) (hsp : sysP (kn : Int) R) (hnn : nn ≤ 30000) (hT : ∀ i, i ≤ nn → paths R kn i ⟨#[]⟩ ≤ topB) :
    Calls Tryz.prog 49 #[.agg #[.int .i64 (kn : Nat), .slice a R.length cap], .int .i64 (nn : Nat)] w (RetSl 3 1 (growL R kn nn).length (zVals (growL R kn nn)) w) := by
  obtain ⟨h12, hsz, hk1, hk4⟩ := sys_sizes hsp
  have hkn : kn ≤ 4 := by omega
  have hz : SzR R := fun j hj => by have := hsz j hj; unfold maxLen; omega
  have HL := Lib.hid hl
  have HTT := Lib.hid hT
  clear hT
  have HN := Lib.hid (fun W h => newReader_any (kn : Nat) R a cap W h hlen hz)
  have hk7 : keepR R ≤ 8 := by
    have key : ∀ j, j ≤ R.length → lsTo R j ≤ 8 := fun j => by
      induction j with
      | zero => intro _; exact Nat.zero_le _
      | succ j ih =>
        intro h
        have h1 := ih (by omega)
        have h2 := (hsz j (by omega)).1
        show max _ _ ≤ _
        omega
    have h1 := key R.length (Nat.le_refl _)
    unfold keepR lsL
    omega
  have HK7 := Lib.hid hk7
  have hmm := @run_makeMap Tryz.prog
  have hb0 := alloc_belowS w (.cells #[.int .i64 (kn : Nat), .slice a R.length cap] 25)
  have hbx := alloc_at w (.cells #[.int .i64 (kn : Nat), .slice a R.length cap] 25)
  have hk0 := keyOkG ⟨#[]⟩ (by decide)
  clear hl hz hk7 hsp hsz
  go_enter Tryz.func49, Tryz.ntmps49
  go_wp2_with fail
  refine (HN.out _ (HL.out.later hb0)).mono ?_
  rintro e w5 ⟨p, rfl, hrd, hp, hb5⟩
  have HB5 := Lib.hid (Below.now hb0 hb5)
  have hs5 : w.heap.size < w5.heap.size := by have := hb5.size; simp at this; omega
  have HBX : Hid (∀ W2, Below w5.heap.size w5 W2 → W2.cell? ⟨w.heap.size, 0, none⟩ = some (.int .i64 (kn : Nat))) := Lib.hid (fun W2 hW2 => (sys_cells ((hW2.block w.heap.size hs5).trans ((hb5.block w.heap.size (by simp)).trans hbx))).1)
  have HRD := Lib.hid hrd
  clear hrd hp hb5 hb0 hbx HN
  go_wp2_with (first
    | (refine wpList_insert_ownG _ rfl _ _ _ 122 rfl 9 3 keySG Tryz.underlying122 (plainElem (H := Unit) Tryz.prog 3) w5.heap.size 0 (.map []) rfl (World.ownsMap_made _ _ _ _) (by decide) _ _ _ rfl rfl hk0 _ [] (plainElem_int Tryz.underlying3 (by decide)) ?_; intro w6 hown6 hgrow6)
    | go_in)
  have HB6 : Hid (Below w5.heap.size w5 w6) := Lib.hid ((alloc_belowS w5 (.map #[] 0)).grown hgrow6 (by simp) (fun j hj => by cases hj; exact Nat.le_refl _))
  have HO6 : Hid (OwnM w6 w5.heap.size 1 (DataW.put (.map []) (keyL ⟨#[]⟩) (.lit (.int .i64 1)))) := Lib.hid hown6
  have HR6 : Hid (RepM (DataW.put (.map []) (keyL ⟨#[]⟩) (.lit (.int .i64 1))) [(⟨#[]⟩, 1)]) := Lib.hid (RepM.nil.new 1 (fun p hp => (by cases hp)))
  have h65 := HB6.out.size
  have hl6 := hown6.lt
  have HL6 : Hid (Bld 3 1 w5 (w6.alloc (.cells #[.int .i64 1] 3)) (.slice (some ⟨w6.heap.size, 0, none⟩) 1 1) 1 (zVals (growL R kn 0))) := Lib.hid
    ⟨World.ownsRow_lit w6 (base := w5.heap.size) #[.int .i64 1] 1 h65 (by unfold maxLen; omega) (by simp), HB6.out.alloc h65 _⟩
  have HO6a : Hid (OwnM (w6.alloc (.cells #[.int .i64 1] 3)) w5.heap.size 1 (DataW.put (.map []) (keyL ⟨#[]⟩) (.lit (.int .i64 1)))) := Lib.hid (HO6.out.alloc _)
  have HWS := Lib.hid (WayAt.start R kn)
  clear hown6 hgrow6 hk0 hl6
  go_wp2_with fail
  go_loopw [6, 7, 21] (fun vm vo vi wr => ∃ (i : Nat) (W : WayD) (b m : Nat) (D : DataW Unit), i ≤ nn ∧ vi = .int .i64 (i : Nat) ∧ vm = .map (some b) ∧ WayAt R kn i W ∧ RepM D W ∧ OwnM wr b m D ∧ w5.heap.size ≤ b ∧ Bld 3 1 w5 wr vo (i + 1) (zVals (growL R kn i))) (fun _ _ vi _ => nn - (intOf vi).toNat)
  case atStart => exact ⟨0, _, _, _, _, Nat.zero_le _, rfl, rfl, HWS.out, HR6.out, HO6a.out, Nat.le_refl _, HL6.out⟩
  case round =>
    clear HB6 HO6 HR6 HL6 HO6a HWS h65
    obtain ⟨i, W, b, m, D, hi, rfl, rfl, hwa, hrep, hom, hb5b, hbd⟩ := hrel
    obtain ⟨go, co, rfl⟩ := owns_slot hbd.1 (by omega)
    have HWA := Lib.hid hwa
    have HREP := Lib.hid hrep
    have HOM := Lib.hid hom
    have HB := Lib.hid hbd
    clear hwa hrep hom hbd
    by_cases hlt : i < nn
    · have HOMa := Lib.hid (World.ownsMap.alloc HOM.out (.map #[] 0))
      have HO2 : Hid (OwnM (wr.alloc (.map #[] 0)) wr.heap.size 0 (.map [])) := Lib.hid (World.ownsMap_made _ _ _ _)
      have HBa := Lib.hid (HB.out.later (alloc_belowS wr (.map #[] 0)))
      have hbwr := HOM.out.lt
      have hw5r := HB.out.2.size
      have HRS : Hid (doneW (Maps.has D) W = []) := Lib.hid (doneW_start HREP.out)
      go_wp2_with (first
        | (at_range; refine wpList_range_own _ rfl _ 122 rfl 9 3 keySG Tryz.underlying122 _ b m _ rfl HOMa.out ?_; intro w8 hrg8 hg8 hs8)
        | go_in)
      have hs8' : w8.heap.size = wr.heap.size + 1 + 1 := by rw [hs8]; simp
      have hrr : (wr.alloc (.map #[] 0)).heap.size = wr.heap.size + 1 := by simp
      rw [hrr] at hrg8 ⊢
      have HRG8 := Lib.hid hrg8
      have HO8 : Hid (OwnM w8 wr.heap.size 0 (.map [])) := Lib.hid (HO2.out.kept hg8 (by simp))
      have HB8 : Hid (Bld 3 1 w5 w8 (.slice (some ⟨go, 0, none⟩) (i + 1) co) (i + 1) (zVals (growL R kn i))) := Lib.hid (keptB HBa.out hg8 (fun k hk e => (by cases e)) (fun k hk => (by cases hk)))
      clear hrg8 hg8 hs8 HO2 HOMa HBa HOM HB
      go_frame
      generalize hb2 : wr.heap.size = b2 at *
      have hbb2 : b < b2 := hbwr
      clear hb2 hbwr hs8' hrr
      generalize hW : wr = wr0 at *
      clear hW
      go_loopw [9] (fun vs wr2 => ∃ (left : Lit → Bool) (cnt m2 : Nat) (V : WayD) (D2 : DataW Unit), vs = .int .i64 ((wsum R kn 0 V : Nat) : Int) ∧ wr2.ranges Tryz.prog 9 (plainElem (H := Unit) Tryz.prog 3) b (b2 + 1) m D left cnt ∧ OwnM wr2 b2 m2 D2 ∧ m2 ≤ wsum R kn 0 V ∧ RepM D2 V ∧ WayG R kn (doneW left W) 0 ⟨#[]⟩ 0 V ∧ Bld 3 1 w5 wr2 (.slice (some ⟨go, 0, none⟩) (i + 1) co) (i + 1) (zVals (growL R kn i)))
        (fun _ wr2 => wr2.rangeLeft b (b2 + 1))
      case atStart => exact ⟨_, _, 0, [], .map [], rfl, HRG8.out, HO8.out, Nat.zero_le _, RepM.nil, by rw [HRS.out]; exact WayG.start _ _ _ _, HB8.out⟩
      case round =>
        clear HRG8 HO8 HB8 HRS
        obtain ⟨left, cnt, m2, V, D2, rfl, hrg, hom2, hm2, hrep2, hwg, hbd⟩ := hrel
        have HRG := Lib.hid hrg
        have HO2 := Lib.hid hom2
        have HP2 := Lib.hid hrep2
        have HWG := Lib.hid hwg
        have HB := Lib.hid hbd
        have hsum : wsum R kn 0 V ≤ 4611686018427387903 := by
          have h1 := hwg.le0T HWA.out
          have h2 := HTT.out (i + 1) (by omega)
          unfold topB at h2
          omega
        clear hrg hom2 hrep2 hwg hbd
        go_wp2_with (first
          | (at_next; refine wpList_next_ranges _ rfl _ rfl 9 keySG (plainElem (H := Unit) Tryz.prog 3) Value.string (Value.int .i64) invKG invVG b (b2 + 1) m _ _ _ rfl HRG.out ?_ ?_)
          | go_in)
        · intro _ hl0
          have HWN := Lib.hid (HWG.out.done HWA.out hl0)
          have HSU : Hid (((wsum R kn 0 V : Nat) : Int) = ((paths R kn (i + 1) ⟨#[]⟩ : Nat) : Int)) := Lib.hid (by rw [HWN.out.eq 0, Nat.add_zero])
          clear hl0
          generalize wsum R kn 0 V = su at *
          have HOA : Hid (Bld 3 1 w5 (wr.alloc (.cells #[.int .i64 (su : Int)] 3)) (.slice (some ⟨go, 0, none⟩) (i + 1) co) (i + 1) (zVals (growL R kn i))) := Lib.hid (HB.out.later (alloc_belowS _ _))
          have HO2a := Lib.hid (World.ownsMap.alloc HO2.out (.cells #[.int .i64 (su : Int)] 3))
          have HN1 : Hid ([Value.int .i64 (su : Int)].length = 1 * 1) := Lib.hid rfl
          have HN2 : Hid (∀ u ∈ [Value.int .i64 (su : Int)], u.oneCell' = true) := Lib.hid (fun u hu => by rw [List.mem_singleton.1 hu]; rfl)
          go_wp2_with (at_builtin; refine wpList_appM rfl (.tmp 54) (.tmp 56) rfl Tryz.underlying49 Tryz.infoInt rfl (by decide) rfl HOA.out rfl (Src.lit _) HN1.out HN2.out ?a1 ?a2 ?a3)
          case a1 => unfold maxLen; omega
          case a2 => omega
          intro v4 w4 hb4 hg4 ho4
          have HB4 : Hid (Bld 3 1 w5 w4 v4 (i + 1 + 1) (zVals (growL R kn (i + 1)))) := Lib.hid (by
            rw [growL_succ, zVals_app, ← HSU.out]; exact hb4)
          have HO4 : Hid (OwnM w4 b2 m2 D2) := Lib.hid (HO2a.out.kept hg4 (own_ne_map HOA.out.1 HO2a.out))
          clear hb4 hg4 ho4
          go_wp2_with fail
          go_roundw
          case rel => exact ⟨i + 1, V, b2, m2, D2, by omega, by go_num, rfl, HWN.out, HP2.out, HO4.out, by omega, HB4.out⟩
          case measure => simp [intOf]; omega
        · intro x c kl yd yp w9 cnt9 hkey hlk hv hat hrg9 hlt9 hg9 hs9 hen
          obtain ⟨s', hs', hkl, _⟩ := string_of_keyOf Tryz.underlying9 hkey
          cases hs'
          obtain ⟨c', hc', hy, _⟩ := plainElem_int_inv Tryz.underlying3 hv
          cases hc'
          cases hy
          subst hkl
          obtain ⟨j, hj, hje, hjc⟩ : ∃ j, ∃ hj : j < W.length, W[j].1 = x ∧ (W[j].2 : Int) = c := by
            rcases HREP.out.look x with ⟨j, hj, h1, h2⟩ | ⟨h1, h2⟩
            · have h3 := (h2 (.lit (.bool true))).symm.trans (hat (.lit (.bool true)))
              simp only [DataW.lit.injEq, Lit.int.injEq, true_and] at h3
              exact ⟨j, hj, h1, h3⟩
            · have h3 := (h2 (.lit (.bool true))).symm.trans (hat (.lit (.bool true)))
              simp at h3
          subst hje hjc
          have HAP := HREP.out.1
          have hesz : W[j].1.size ≤ 8 := by
            have h1 := HWA.out.short _ (List.getElem_mem hj)
            have h2 := HK7.out
            omega
          have HCP : Hid (1 ≤ W[j].2) := Lib.hid (HWA.out.pos _ (List.getElem_mem hj))
          have hcb : W[j].2 ≤ 4611686018427387903 := by
            have h2 := wsum_take_le R kn 0 W (j + 1)
            rw [wsum_take _ _ _ _ hj, paths0] at h2
            have h4 := HWA.out.eq 0
            have h5 := HTT.out (i + 0) (by omega)
            unfold topB at h5
            omega
          have HROW : Hid (∀ V, WayG R kn (doneW left W) kn W[j].1 W[j].2 V → WayG R kn (doneW (fun z => left z && !z.sameKey (keyL W[j].1)) W) 0 ⟨#[]⟩ 0 V) := Lib.hid (fun V h => h.row HAP hj hlk _ _)
          have HLE : Hid (∀ V x, x ≤ kn → WayG R kn (doneW left W) x W[j].1 W[j].2 V → wsum R kn 0 V ≤ 4611686018427387903) := Lib.hid (fun V x hx h => by
            have h1 := WayG.leT HAP HWA.out hj hlk hx h
            have h2 := HTT.out (i + 1) (by omega)
            unfold topB at h2
            omega)
          have HWJ : Hid (WayG R kn (doneW left W) 0 W[j].1 W[j].2 V) := Lib.hid HWG.out.other
          have HRG9 : Hid (w9.ranges Tryz.prog 9 (plainElem (H := Unit) Tryz.prog 3) b (b2 + 1) m D (fun z => left z && !z.sameKey (keyL W[j].1)) cnt9) := Lib.hid hrg9
          have HO9 : Hid (OwnM w9 b2 m2 D2) := Lib.hid (HO2.out.kept hg9 (by simp))
          have HB9 : Hid (Bld 3 1 w5 w9 (.slice (some ⟨go, 0, none⟩) (i + 1) co) (i + 1) (zVals (growL R kn i))) := Lib.hid (bldMap HB.out hg9 (own_ne_iter HB.out.1 HRG.out) (by omega))
          have HLO := Lib.hid HRG.out.left_eq
          have hkb := HBX.out w9 HB9.out.2
          clear hrg9 hat hlk hkey hv hg9 hs9 HAP HO2 HB HWG HRG
          generalize (fun z => left z && !z.sameKey (keyL W[j].1)) = lf at *
          generalize W[j].1 = e at *
          generalize W[j].2 = cn at *
          go_wp2_with fail
          generalize hW : wr = wr1 at *
          have HWR := Lib.hid hW
          clear hW
          go_loopw [9, 33] (fun vs vx wr => ∃ (x m2 : Nat) (V : WayD) (D2 : DataW Unit), x ≤ kn ∧ vx = .int .i64 (x : Nat) ∧ vs = .int .i64 ((wsum R kn 0 V : Nat) : Int) ∧ wr.ranges Tryz.prog 9 (plainElem (H := Unit) Tryz.prog 3) b (b2 + 1) m D lf cnt9 ∧ OwnM wr b2 m2 D2 ∧ m2 ≤ wsum R kn 0 V ∧ RepM D2 V ∧ WayG R kn (doneW left W) x e cn V ∧ Bld 3 1 w5 wr (.slice (some ⟨go, 0, none⟩) (i + 1) co) (i + 1) (zVals (growL R kn i))) (fun _ vx _ => kn - (intOf vx).toNat)
          case atStart => exact ⟨0, m2, V, D2, Nat.zero_le _, rfl, rfl, HRG9.out, HO9.out, hm2, HP2.out, HWJ.out, HB9.out⟩
          case round =>
            clear HRG9 HO9 HWJ HB9 HP2 hm2 hsum hkb hen
            obtain ⟨x, m2, V, D2, hx, rfl, rfl, hrg, hom2, hm2, hrep2, hwg, hbd⟩ := hrel
            have HRG := Lib.hid hrg
            have HO2 := Lib.hid hom2
            have HP2 := Lib.hid hrep2
            have HWG := Lib.hid hwg
            have HB := Lib.hid hbd
            have hsum : wsum R kn 0 V ≤ 4611686018427387903 := HLE.out V x hx hwg
            clear hrg hom2 hrep2 hwg hbd
            by_cases hlx : x < kn
            · have HNX := Lib.hid (fun W2 h1 h2 => readerNext_any (kn : Nat) R p e x a cap W2 h1 hlen h2 (by omega) (by omega) (by have := HK7.out; omega))
              go_wp2_with fail
              refine (HNX.out _ (HL.out.later (Below.now HB5.out HB.out.2)) (HRD.out.later HB.out.2)).mono ?_
              rintro e9 w10 (⟨hok, rfl, hb10⟩ | ⟨hok, rfl, hb10⟩)
              · have HOK := Lib.hid hok
                have hg10 := belowGrown hb10
                have HRG1 := Lib.hid (HRG.out.kept hg10 (by simp) (by simp))
                have HO1 : Hid (OwnM w10 b2 m2 D2) := Lib.hid (HO2.out.kept hg10 (by simp))
                have HB1 := Lib.hid (HB.out.later hb10)
                have hns : (nxtX R e x).size ≤ 8 := by have h1 := cutR_size R (e ++ letterN x); have h2 := HK7.out; have h3 : (nxtX R e x).size ≤ keepR R := h1; omega
                have hkn2 := keyOkG (nxtX R e x) (by unfold maxLen; omega)
                clear hok hb10 hg10 HNX HRG HO2 HB
                have HWO := Lib.hid (fun a ha h => WayG.old (a := a) HWG.out HOK.out ha h)
                have HWN := Lib.hid (WayG.new HWG.out HOK.out HCP.out)
                have HLK := Lib.hid (HP2.out.look (nxtX R e x))
                generalize nxtX R e x = nx at *
                go_wp2_with (first
                  | (at_lookup; refine wpList_lookup_own_int _ rfl _ _ 122 rfl 9 3 .i64 keySG Tryz.underlying122 Tryz.underlying3 (zeroIntG _) b2 m2 D2 rfl HO1.out _ _ rfl hkn2 ?k4)
                  | go_in)
                intro c0 hat0 hwc0
                rcases HLK.out with ⟨aa, haa, he1, hat1⟩ | ⟨hno, hat1⟩
                · have hc0 : c0 = (V[aa].2 : Int) := by
                    have h := (hat1 (.lit (.int .i64 0))).symm.trans hat0
                    simp only [DataW.lit.injEq, Lit.int.injEq, true_and] at h
                    exact h.symm
                  have hva : V[aa].2 ≤ 4611686018427387903 := by
                    have h2 := wsum_take_le R kn 0 V (aa + 1)
                    rw [wsum_take _ _ _ _ haa, paths0] at h2
                    omega
                  have HV3 := Lib.hid (HWO.out aa haa he1)
                  have HP3 : Hid (RepM (D2.put (keyL nx) (.lit (.int .i64 ((V[aa].2 + cn : Nat) : Int)))) (addW V aa cn)) := Lib.hid (by rw [← he1]; exact HP2.out.old haa cn)
                  have HS3 : Hid (wsum R kn 0 (addW V aa cn) = wsum R kn 0 V + cn) := Lib.hid (by rw [wsum_add haa, paths0, Nat.mul_one])
                  subst hc0
                  clear hat0 hat1 he1 HWO HWN HLK hwc0
                  generalize addW V aa cn = V3 at *
                  generalize V[aa].2 = va at *
                  have hcc : (va : Int) + (cn : Int) = ((va + cn : Nat) : Int) := by omega
                  have HWF := Lib.hid (plainElem_int (H := Unit) Tryz.underlying3 (wf64A (show va + cn ≤ 9223372036854775807 by omega)))
                  rw [← hcc] at HWF HP3
                  clear hcc
                  have hmx : m2 < maxLen := by unfold maxLen; omega
                  go_wp2_with (first
                    | (at_mapUpdate; (refine wpList_mapUpdate_own _ rfl _ _ _ 122 rfl 9 3 keySG Tryz.underlying122 (plainElem (H := Unit) Tryz.prog 3) b2 m2 D2 rfl HO1.out hmx _ _ _ rfl rfl hkn2 _ [] HWF.out ?_); intro w11 hown11 hgr11)
                    | go_in)
                  have HB11 : Hid (Bld 3 1 w5 w11 (.slice (some ⟨go, 0, none⟩) (i + 1) co) (i + 1) (zVals (growL R kn i))) := Lib.hid (bldMap HB1.out hgr11 (own_ne_map HB1.out.1 HO1.out) (by omega))
                  have HRG11 := Lib.hid (HRG1.out.kept hgr11 (by simp; omega) (by simp))
                  have HO11 := Lib.hid hown11
                  have hcp := HCP.out
                  clear hown11 hgr11 hmx hkn2
                  go_wp2_with fail
                  go_roundw
                  case rel => exact ⟨x + 1, m2 + 1, V3, _, by omega, by go_num, by rw [HS3.out]; go_num, HRG11.out, HO11.out, by rw [HS3.out]; omega, HP3.out, HV3.out, HB11.out⟩
                  case measure => simp [intOf]; omega
                · have hc0 : c0 = 0 := by
                    have h := (hat1 (.lit (.int .i64 0))).symm.trans hat0
                    simp only [DataW.lit.injEq, Lit.int.injEq, true_and] at h
                    exact h.symm
                  have HP3 := Lib.hid (HP2.out.new cn hno)
                  have HS3 : Hid (wsum R kn 0 (V ++ [(nx, cn)]) = wsum R kn 0 V + cn) := Lib.hid (by rw [wsum_app, wsum_one, paths0, Nat.mul_one])
                  subst hc0
                  clear hat0 hat1 hno HWO HLK hwc0
                  generalize V ++ [(nx, cn)] = V3 at *
                  have HWF := Lib.hid (plainElem_int (H := Unit) Tryz.underlying3 (wf64A (show cn ≤ 9223372036854775807 by omega)))
                  have hmx : m2 < maxLen := by unfold maxLen; omega
                  go_wp2_with (first
                    | (at_mapUpdate; (refine wpList_mapUpdate_own _ rfl _ _ _ 122 rfl 9 3 keySG Tryz.underlying122 (plainElem (H := Unit) Tryz.prog 3) b2 m2 D2 rfl HO1.out hmx _ _ _ rfl rfl hkn2 _ [] HWF.out ?_); intro w11 hown11 hgr11)
                    | go_in)
                  have HB11 : Hid (Bld 3 1 w5 w11 (.slice (some ⟨go, 0, none⟩) (i + 1) co) (i + 1) (zVals (growL R kn i))) := Lib.hid (bldMap HB1.out hgr11 (own_ne_map HB1.out.1 HO1.out) (by omega))
                  have HRG11 := Lib.hid (HRG1.out.kept hgr11 (by simp; omega) (by simp))
                  have HO11 := Lib.hid hown11
                  have hcp := HCP.out
                  clear hown11 hgr11 hmx hkn2
                  go_wp2_with fail
                  go_roundw
                  case rel => exact ⟨x + 1, m2 + 1, V3, _, by omega, by go_num, by rw [HS3.out]; go_num, HRG11.out, HO11.out, by rw [HS3.out]; omega, HP3.out, HWN.out, HB11.out⟩
                  case measure => simp [intOf]; omega
              · have F := Lib.hid (HWG.out.no hok)
                have hg10 := belowGrown hb10
                have HRG1 := Lib.hid (HRG.out.kept hg10 (by simp) (by simp))
                have HO1 : Hid (OwnM w10 b2 m2 D2) := Lib.hid (HO2.out.kept hg10 (by simp))
                have HB1 := Lib.hid (HB.out.later hb10)
                clear hok hb10 hg10 HNX
                go_wp2_with fail
                go_roundw
                case rel => exact ⟨x + 1, m2, V, D2, by omega, by go_num, rfl, HRG1.out, HO1.out, hm2, HP2.out, F.out, HB1.out⟩
                case measure => simp [intOf]; omega
            · obtain rfl : x = kn := by omega
              have F := Lib.hid (HROW.out V HWG.out)
              go_wp2_with fail
              go_roundw
              case rel => exact ⟨lf, cnt9, m2, V, D2, rfl, HRG.out, HO2.out, hm2, HP2.out, F.out, HB.out⟩
              case measure => rw [HRG.out.left_eq, HWR.out, HLO.out]; exact hlt9
    · obtain rfl : i = nn := by omega
      have F : Hid (RetSl 3 1 (growL R kn i).length (zVals (growL R kn i)) w (.returned (.slice (some ⟨go, 0, none⟩) (i + 1) co)) wr) := Lib.hid (by
        have h := (HB.out.since HB5.out).ret
        rw [growL_len]; exact h)
      go_wp2_with fail
      go_ret
      exact F.out
end Go.Proofs.YtdhaebbfiaddnaaGreatDoor
namespace Go.Proofs.YtdhaebbfiaddnaaGreatDoor
open Go.RowKit Go.Maps Go.WideMaps
set_option linter.unusedVariables false
/-- a height that is handed back -/
def RetHt (R : List RulD) (k : Nat) (e0 : ByteArray) (w : World) (e : Ending) (w' : World) : Prop := ∃ h, HtIs R k e0 h ∧ e = .returned (.int .i64 h) ∧ Below w.heap.size w w'
set_option maxRecDepth 20000 in
set_option maxHeartbeats 1000000 in
theorem longest_any (k : Nat) (R : List RulD) (p : Nat) (a : Option Addr) (cap : Nat) (w : World) (hl : RulesIn w a R) (hlen : R.length ≤ 2 ^ 40) (hr : RdAt w p (k : Nat) a R.length cap (keepR R)) (G : SysG R k) :
    Calls Tryz.prog 47 #[.pointer (some ⟨p, 0, none⟩)] w (RetHt R k ⟨#[]⟩ w) := by
  have HL := Lib.hid hl
  have HR := Lib.hid hr
  have hmm := @run_makeMap Tryz.prog
  have hp := World.block_lt_of_cell? w _ hr.1
  have HH := Lib.hid (height_any k R (w.heap.size + 1 + 1) w.heap.size (w.heap.size + 1 + 1 + 1) (w.heap.size + 1) p a cap hlen G 21846 [] ⟨#[]⟩)
  clear hl hr
  go_enter Tryz.func47, Tryz.ntmps47
  go_wp2_with fail
  generalize hW : ((((w.alloc (.cells #[.pointer (some ⟨p, 0, none⟩)] 84)).alloc (.map #[] 0)).alloc (.cells #[.map (some (w.heap.size + 1))] 122)).alloc (.cells #[.func (.func 83) #[] #[.pointer (some ⟨w.heap.size + 1 + 1, 0, none⟩), .pointer (some ⟨w.heap.size, 0, none⟩), .pointer (some ⟨w.heap.size + 1 + 1 + 1, 0, none⟩)]] 123)) = W
  have hB : Below w.heap.size w W := by
    rw [← hW]
    repeat (first | exact Below.refl _ _ | refine Below.alloc ?_ (by simp; try omega) _)
  have hO : OwnM W (w.heap.size + 1) 0 (.map []) := by
    rw [← hW]
    have h1 := World.ownsMap_made (w.alloc (.cells #[.pointer (some ⟨p, 0, none⟩)] 84)) Tryz.prog 9 (plainElem (H := Unit) Tryz.prog 3)
    have e1 : (w.alloc (.cells #[.pointer (some ⟨p, 0, none⟩)] 84)).heap.size = w.heap.size + 1 := by simp
    rw [e1] at h1
    exact (h1.alloc _).alloc _
  have hE : EnvH W (w.heap.size + 1 + 1) w.heap.size (w.heap.size + 1 + 1 + 1) (w.heap.size + 1) p (k : Nat) a cap R := by
    refine ⟨?_, ?_, ?_, HR.out.later hB, HL.out.later hB, ⟨by omega, by omega, by omega, by omega⟩, ?_⟩
    · rw [← hW]; simp [go_sem]
    · rw [← hW]; simp [go_sem]
    · rw [← hW]; simp [go_sem]
    · cases R with
      | nil => exact .inl rfl
      | cons r R =>
        right
        intro x hx
        obtain ⟨b', off, ha, hb', _⟩ := HL.out.cell (i := 0) (by simp)
        rw [ha] at hx
        cases hx
        show b' ≠ _
        omega
  clear hW
  refine (HH.out W 0 (.map []) rfl (WayE.start R k) hE hO (HMap.start R k)).mono ?_
  rintro e w2 ⟨h, h1, rfl, h2, _⟩
  have F : Hid (RetHt R k ⟨#[]⟩ w (.returned (.int .i64 h)) w2) := Lib.hid ⟨h, h1, rfl, hB.grown h2 hB.size (fun j hj => by cases hj; omega)⟩
  clear hE hO hB h1 h2 HH
  go_wp2_with fail
  go_ret
  exact F.out
end Go.Proofs.YtdhaebbfiaddnaaGreatDoor
namespace Go.Proofs.YtdhaebbfiaddnaaGreatDoor
open Go.RowKit
set_option linter.unusedVariables false
/-- what LongestReduced is -/
def LngIs (k : Int) (R : List RulD) (h : Int) : Prop := (¬ sysP k R ∧ h = -1) ∨ (sysP k R ∧ HtIs R k.toNat ⟨#[]⟩ h)
theorem LngIs.uniq {k : Int} {R : List RulD} {h h' : Int} (a : LngIs k R h) (b : LngIs k R h') : h = h' := by
  rcases a with ⟨a1, a2⟩ | ⟨a1, a2⟩ <;> rcases b with ⟨b1, b2⟩ | ⟨b1, b2⟩
  · rw [a2, b2]
  · exact absurd b1 a1
  · exact absurd a1 b1
  · exact a2.uniq b2
def RetLg (k : Int) (R : List RulD) (w : World) (e : Ending) (w' : World) : Prop := ∃ h, LngIs k R h ∧ e = .returned (.int .i64 h) ∧ Below w.heap.size w w'
/-- the words of less than j letters -/
def pSum (R : List RulD) (k j : Nat) : Nat := ((List.range j).map fun m => paths R k m ⟨#[]⟩).sum
theorem pSum_succ (R : List RulD) (k j : Nat) : pSum R k (j + 1) = pSum R k j + paths R k j ⟨#[]⟩ := by
  unfold pSum; rw [List.range_succ, List.map_append, List.sum_append]; simp
theorem pSum_mono (R : List RulD) (k : Nat) {i j : Nat} (h : i ≤ j) : pSum R k i ≤ pSum R k j := by
  induction h with
  | refl => exact Nat.le_refl _
  | step _ ih => rw [pSum_succ]; omega
theorem pSum_at (R : List RulD) (k : Nat) {i j : Nat} (h : i < j) : paths R k i ⟨#[]⟩ ≤ pSum R k j := by
  have h1 := pSum_mono R k (show i + 1 ≤ j from h)
  rw [pSum_succ] at h1; omega
theorem pSum_top {R : List RulD} {k n : Nat} (G : SysG R k) (h : HtIs R k ⟨#[]⟩ (n : Int)) : pSum R k (n + 1) ≤ topB := by
  rcases h with ⟨h1, _⟩ | ⟨m, h1, _, h3⟩
  · omega
  · have : m = n := by omega
    subst this
    exact paths_all G h3
/-- what CountAll is -/
def CntIs (k : Int) (R : List RulD) (c : Int) : Prop := ∃ h, LngIs k R h ∧ ((h < 0 ∧ c = -1) ∨ (0 ≤ h ∧ c = ((pSum R k.toNat (h.toNat + 1) : Nat) : Int)))
theorem CntIs.uniq {k : Int} {R : List RulD} {c c' : Int} (a : CntIs k R c) (b : CntIs k R c') : c = c' := by
  obtain ⟨h, a1, a2⟩ := a
  obtain ⟨h', b1, b2⟩ := b
  obtain rfl := a1.uniq b1
  rcases a2 with ⟨a2, a3⟩ | ⟨a2, a3⟩ <;> rcases b2 with ⟨b2, b3⟩ | ⟨b2, b3⟩
  · rw [a3, b3]
  · omega
  · omega
  · rw [a3, b3]
def RetCn (k : Int) (R : List RulD) (w : World) (e : Ending) (w' : World) : Prop := ∃ c, CntIs k R c ∧ e = .returned (.int .i64 c) ∧ Below w.heap.size w w'
set_option maxRecDepth 20000 in
set_option maxHeartbeats 1000000 in
theorem implLongestReduced_any (k : Int) (R : List RulD) (a : Option Addr) (cap : Nat) (w : World) (hl : RulesIn w a R) (hlen : R.length ≤ 2 ^ 40) (hz : SzR R) :
    Calls Tryz.prog 17 #[.agg #[.int .i64 k, .slice a R.length cap]] w (RetLg k R w) := by
  have HL := Lib.hid hl
  have HS := Lib.hid (fun W h => implSystemOk_any k R a cap W h hlen hz)
  have HN := Lib.hid (fun W h => newReader_any k R a cap W h hlen hz)
  have HA := Lib.hid (fun o => alloc_belowS w o)
  have hbx := alloc_at w (.cells #[.int .i64 k, .slice a R.length cap] 25)
  have HBX : Hid (∀ W2, Below (w.alloc (.cells #[.int .i64 k, .slice a R.length cap] 25)).heap.size (w.alloc (.cells #[.int .i64 k, .slice a R.length cap] 25)) W2 → W2.cell? ⟨w.heap.size, 0, none⟩ = some (.int .i64 k) ∧ W2.cell? ⟨w.heap.size, 1, none⟩ = some (.slice a R.length cap)) := Lib.hid (fun W2 hW2 => sys_cells ((hW2.block w.heap.size (by simp)).trans hbx))
  clear hl hz hbx
  go_enter Tryz.func17, Tryz.ntmps17
  go_wp2_with fail
  refine (HS.out _ (HL.out.later (HA.out _))).mono ?_
  rintro e w1 ⟨bb, hbb, rfl, hb1⟩
  have HBB := Lib.hid hbb
  obtain ⟨s0, s1⟩ := HBX.out w1 hb1
  have HW1 := Lib.hid (Below.now (HA.out _) hb1)
  clear hbb hb1 HS HBX
  cases bb
  · have F : Hid (RetLg k R w (.returned (.int .i64 (-1))) w1) := Lib.hid ⟨-1, .inl ⟨fun h => (by have := HBB.out.2 h; cases this), rfl⟩, rfl, HW1.out⟩
    go_wp2_with fail
    go_ret
    exact F.out
  · have HSP := Lib.hid (HBB.out.1 rfl)
    clear HBB
    obtain ⟨_, _, hk1, hk4⟩ := sys_sizes HSP.out
    obtain ⟨kn, rfl⟩ := Int.eq_ofNat_of_zero_le (show 0 ≤ k by omega)
    have HLG := Lib.hid (fun p W h1 h2 => longest_any kn R p a cap W h1 hlen h2 (sysG_of HSP.out))
    go_wp2_with fail
    refine (HN.out _ (HL.out.later HW1.out)).mono ?_
    rintro e w2 ⟨p, rfl, hrd, hp, hb2⟩
    have HRD := Lib.hid hrd
    have HW2 := Lib.hid (Below.now HW1.out hb2)
    clear hrd hp hb2 s0 s1 HN
    go_wp2_with fail
    refine (HLG.out _ _ (HL.out.later HW2.out) HRD.out).mono ?_
    rintro e w3 ⟨h, hh, rfl, hb3⟩
    have F : Hid (RetLg (kn : Int) R w (.returned (.int .i64 h)) w3) := Lib.hid ⟨h, .inr ⟨HSP.out, by simpa using hh⟩, rfl, Below.now HW2.out hb3⟩
    clear hh hb3 HLG
    go_wp2_with fail
    go_ret
    exact F.out
set_option maxHeartbeats 1000000 in
theorem sumOf_any (R : List RulD) (k n : Nat) (a : Option Addr) (cap : Nat) (w : World) (hl : IntsIn w a (growL R k n)) (hn : n ≤ 30000) (ht : pSum R k (n + 1) ≤ topB) :
    Calls Tryz.prog 92 #[.slice a (growL R k n).length cap] w fun e w' => e = .returned (.int .i64 ((pSum R k (n + 1) : Nat) : Int)) ∧ Below w.heap.size w w' := by
  have HL := Lib.hid hl
  have HT : Hid (∀ j, j ≤ n + 1 → pSum R k j ≤ 4611686018427387903) := Lib.hid (fun j hj => by have h1 := pSum_mono R k hj; unfold topB at ht; omega)
  have hlen := growL_len R k n
  have HG : Hid (∀ j, j < n + 1 → nthZ (growL R k n) j = ((paths R k j ⟨#[]⟩ : Nat) : Int)) := Lib.hid (fun j hj => by
    rw [nthZ_lt (by rw [growL_len]; exact hj)]; simp [growL])
  rw [hlen]
  generalize growL R k n = l at *
  clear hl ht
  go_enter Tryz.func92, Tryz.ntmps92
  go_wp2_with fail
  go_loopw [3, 8] (fun s i wr => ∃ j : Nat, j ≤ n + 1 ∧ i = .int .i64 (j : Nat) ∧ s = .int .i64 ((pSum R k j : Nat) : Int) ∧ Below w.heap.size w wr) (fun _ i _ => n + 1 - (intOf i).toNat)
  case atStart => exact ⟨0, Nat.zero_le _, rfl, rfl, Below.refl _ _⟩
  case round =>
    obtain ⟨j, hj, rfl, rfl, hbw⟩ := hrel
    by_cases hlt : j < n + 1
    · obtain ⟨b, off, rfl, hb, hc⟩ := (HL.out.later hbw).cell (i := j) (by omega)
      have c1 := hc j (by omega)
      rw [HG.out j hlt] at c1
      have hs := pSum_succ R k j
      have h1 := HT.out j hj
      have h2 := HT.out (j + 1) hlt
      have HSS := Lib.hid hs
      have h3 : paths R k j ⟨#[]⟩ ≤ 4611686018427387903 := by omega
      clear hc hs
      have h4 : pSum R k j + paths R k j ⟨#[]⟩ ≤ 4611686018427387903 := by rw [← HSS.out]; exact h2
      generalize hp : pSum R k j = x at *
      generalize hq : paths R k j ⟨#[]⟩ = y at *
      clear hp hq h2
      go_wp2_with fail
      go_roundw
      case rel => exact ⟨j + 1, by omega, by go_num, by rw [HSS.out]; go_num, hbw⟩
      case measure => simp [intOf]; omega
    · obtain rfl : j = n + 1 := by omega
      go_wp2_with fail
      go_ret
      exact ⟨rfl, hbw⟩
set_option maxRecDepth 20000 in
set_option maxHeartbeats 1000000 in
theorem implCountAll_any (k : Int) (R : List RulD) (a : Option Addr) (cap : Nat) (w : World) (hl : RulesIn w a R) (hlen : R.length ≤ 2 ^ 40) (hz : SzR R) :
    Calls Tryz.prog 56 #[.agg #[.int .i64 k, .slice a R.length cap]] w (RetCn k R w) := by
  have HL := Lib.hid hl
  have HS := Lib.hid (fun W h => implLongestReduced_any k R a cap W h hlen hz)
  have HA := Lib.hid (fun o => alloc_belowS w o)
  have hbx := alloc_at w (.cells #[.int .i64 k, .slice a R.length cap] 25)
  have HBX : Hid (∀ W2, Below (w.alloc (.cells #[.int .i64 k, .slice a R.length cap] 25)).heap.size (w.alloc (.cells #[.int .i64 k, .slice a R.length cap] 25)) W2 → W2.cell? ⟨w.heap.size, 0, none⟩ = some (.int .i64 k) ∧ W2.cell? ⟨w.heap.size, 1, none⟩ = some (.slice a R.length cap)) := Lib.hid (fun W2 hW2 => sys_cells ((hW2.block w.heap.size (by simp)).trans hbx))
  clear hl hz hbx
  go_enter Tryz.func56, Tryz.ntmps56
  go_wp2_with fail
  refine (HS.out _ (HL.out.later (HA.out _))).mono ?_
  rintro e w1 ⟨h, hlg, rfl, hb1⟩
  have HLG := Lib.hid hlg
  obtain ⟨s0, s1⟩ := HBX.out w1 hb1
  have HW1 := Lib.hid (Below.now (HA.out _) hb1)
  clear hb1 HS HBX
  by_cases h0 : h < 0
  · have F : Hid (RetCn k R w (.returned (.int .i64 (-1))) w1) := Lib.hid ⟨-1, ⟨h, HLG.out, .inl ⟨h0, rfl⟩⟩, rfl, HW1.out⟩
    clear hlg
    go_wp2_with fail
    go_ret
    exact F.out
  · rcases hlg with ⟨_, h1⟩ | ⟨hsp, hh⟩
    · omega
    · obtain ⟨_, _, hk1, hk4⟩ := sys_sizes hsp
      obtain ⟨kn, rfl⟩ := Int.eq_ofNat_of_zero_le (show 0 ≤ k by omega)
      obtain ⟨hn, rfl⟩ := Int.eq_ofNat_of_zero_le (show 0 ≤ h by omega)
      have hG := sysG_of hsp
      have hh' : HtIs R kn ⟨#[]⟩ (hn : Int) := by simpa using hh
      have hle := HtIs.le hG (EndP.nil kn) hh'
      have htop := pSum_top hG hh'
      have HGR := Lib.hid (fun W h => growthA_any kn hn R a cap W h hlen hsp (by omega) (fun i hi => Nat.le_trans (pSum_at R kn (show i < hn + 1 by omega)) htop))
      have HSU := Lib.hid (fun a2 c2 W h => sumOf_any R kn hn a2 c2 W h (by omega) htop)
      have HF : Hid (CntIs (kn : Int) R ((pSum R kn (hn + 1) : Nat) : Int)) := Lib.hid ⟨(hn : Int), HLG.out, .inr ⟨by omega, by simp⟩⟩
      clear hsp hh hh' htop hG HLG
      go_wp2_with fail
      refine (HGR.out _ (HL.out.later HW1.out)).mono ?_
      rintro e w2 ⟨a2, c2, rfl, ho2, hb2⟩
      have HI := Lib.hid (owns_ints ho2)
      have HW2 := Lib.hid (Below.now HW1.out hb2)
      clear ho2 hb2 HGR s0 s1
      go_wp2_with fail
      refine (HSU.out _ _ _ HI.out).mono ?_
      rintro e w3 ⟨rfl, hb3⟩
      have F : Hid (RetCn (kn : Int) R w (.returned (.int .i64 ((pSum R kn (hn + 1) : Nat) : Int))) w3) := Lib.hid ⟨_, HF.out, rfl, Below.now HW2.out hb3⟩
      clear hb3 HSU
      go_wp2_with fail
      go_ret
      exact F.out
end Go.Proofs.YtdhaebbfiaddnaaGreatDoor
namespace Go.Proofs.YtdhaebbfiaddnaaGreatDoor
open Go.RowKit
set_option linter.unusedVariables false
theorem alloc_new (w : World) (o : Obj) : (w.alloc o).heap[w.heap.size]? = some o := by
  unfold World.alloc; simp
theorem alloc_old (w : World) (o : Obj) {k : Nat} (h : k < w.heap.size) : (w.alloc o).heap[k]? = w.heap[k]? := by
  unfold World.alloc; rw [Array.getElem?_push_lt h, Array.getElem?_eq_getElem h]
theorem alloc_size (w : World) (o : Obj) : (w.alloc o).heap.size = w.heap.size + 1 := by simp
theorem two_lo (w : World) (o o' : Obj) : ((w.alloc o).alloc o').heap[w.heap.size]? = some o := by
  rw [alloc_old _ _ (by rw [alloc_size]; omega)]; exact alloc_new _ _
theorem two_hi (w : World) (o o' : Obj) : ((w.alloc o).alloc o').heap[w.heap.size + 1]? = some o' := by
  rw [← alloc_size w o]; exact alloc_new _ _
theorem bld_at {T : TypeId} {wr W : World} {H : Nat} (hb : Below wr.heap.size wr W) (hH : W.heap[H]? = some (.cells #[] T (0, 0))) (hge : wr.heap.size ≤ H) : Bld T 1 wr W (.slice (some ⟨H, 0, none⟩) 0 0) 0 [] :=
  ⟨⟨rfl, .inr ⟨H, 0, #[], rfl, hge, hH, Nat.le_refl _, Nat.zero_le _, rfl, rfl⟩⟩, hb⟩
theorem src_at {T : TypeId} {W : World} {H : Nat} {y : Value} (hH : W.heap[H]? = some (.cells #[y] T (0, 0))) : Src W (.slice (some ⟨H, 0, none⟩) 1 1) 1 [y] := by
  refine .inr ⟨_, _, rfl, fun j u hu => ?_⟩
  have hj : j = 0 := by have := (List.getElem?_eq_some_iff.1 hu).1; simp at this; omega
  subst hj
  rw [add_off]
  simp at hu
  simp [World.cell?, hH, hu]
theorem Src.grown {w w' : World} {H m c : Nat} {own : Option Nat} {news : List Value} (h : Src w (.slice (some ⟨H, 0, none⟩) m c) m news) (hg : w.grownBy w' own) (hH : H < w.heap.size) (hne : own ≠ some H) : Src w' (.slice (some ⟨H, 0, none⟩) m c) m news := by
  rcases h with ⟨h, _⟩ | ⟨ad, c', hx, hc⟩
  · cases h
  · simp only [Value.slice.injEq, Option.some.injEq, true_and] at hx
    obtain ⟨rfl, rfl⟩ := hx
    refine .inr ⟨_, _, rfl, fun j u hu => ?_⟩
    rw [add_off]
    have h1 := hc j u hu
    rw [add_off] at h1
    rw [World.cell?_of_block (w := w) (hg.block H hH (fun e => hne e.symm))]
    exact h1
section
variable {P : Program}
/-- the same where the operation is guarded -/
theorem step_appM_g {ops : Array Oper} {o : Oper} {a : Act} {K : Act → World → Prop} {Q : Exit → Act → World → Prop} {E : Prop} {T tsl : TypeId} {z : Value} {size bytes : Nat} (hw : Region.wanted o (yielded ops a.tmps) = true) (s x : Operand)
    (ho : o.op = .call { callee := .builtin .append, args := #[s, x], argTypes := #[tsl, tsl] }) (ht : P.underlying tsl = some (.slice T)) (hinfo : (P.info? T).map (fun i => (i.zero, i.size, i.bytes)) = some (some z, size, bytes))
    (hzs : z.cells.size = size) (hpos : 0 < size) {w wr : World} {v u : Value} {n m : Nat} {xs news : List Value} (hs : a.eval s = v) (hb : Bld T size w wr v n xs) (hx : a.eval x = u) (hsrc : Src wr u m news)
    (hn : news.length = m * size) (h1 : ∀ u ∈ news, u.oneCell' = true) (h63 : n + m ≤ maxLen) (hbytes : (n + m) * bytes ≤ 140737488355328)
    (hK : ∀ v' w', Bld T size w w' v' (n + m) (xs ++ news) → wr.grownBy w' v.ownBlock → (v'.ownBlock = v.ownBlock ∨ v'.ownBlock = some wr.heap.size) → K (a.put o.dst v') w') : if Region.wanted o (yielded ops a.tmps) = true then Oper.wp P o a wr K Q else E := by
  rw [if_pos hw]
  obtain ⟨v', w', hr, h2, h3, h4⟩ := run_appM (ty := o.type) ht hinfo hzs hpos hb hsrc hn h1 h63 hbytes
  unfold Oper.wp execOp
  simp only [ho, resolve, invoke, builtin, Sem.run_bind, Sem.run_pure, Result.andThen_ok, List.map_toArray, List.map_cons, List.map_nil, hs, hx, hr]
  exact hK _ _ h2 h3 h4
theorem step_appM_gby {ops : Array Oper} {o : Oper} {a : Act} {K : Act → World → Prop} {Q : Exit → Act → World → Prop} {E : Prop} {T tsl : TypeId} {z : Value} {bytes : Nat} (hg : Region.wanted o (yielded ops a.tmps) = true) (s x : Operand)
    (ho : o.op = .call { callee := .builtin .append, args := #[s, x], argTypes := #[tsl, tsl] }) (ht : P.underlying tsl = some (.slice T)) (hinfo : (P.info? T).map (fun i => (i.zero, i.size, i.bytes)) = some (some z, 1, bytes))
    (hzs : z.cells.size = 1) {w wr : World} {H H2 : Nat} {u y : Value} {m : Nat} {news : List Value} (hs : a.eval s = .slice (some ⟨H, 0, none⟩) 0 0) (hb : Bld T 1 w wr (.slice (some ⟨H, 0, none⟩) 0 0) 0 []) (hx : a.eval x = u) (hsrc : Src wr u m news)
    (hy : Src wr (.slice (some ⟨H2, 0, none⟩) 1 1) 1 [y]) (hH : H ≠ H2) (hH2 : H2 < wr.heap.size)
    (hn : news.length = m) (h1 : ∀ u ∈ news, u.oneCell' = true) (h63 : m ≤ maxLen) (hbytes : m * bytes ≤ 140737488355328)
    (hK : ∀ v' w', Bld T 1 w w' v' m news → Src w' (.slice (some ⟨H2, 0, none⟩) 1 1) 1 [y] → K (a.put o.dst v') w') : if Region.wanted o (yielded ops a.tmps) = true then Oper.wp P o a wr K Q else E := by
  refine step_appM_g hg s x ho ht hinfo hzs (by omega) hs hb hx hsrc (by omega) h1 (by omega) (by rw [Nat.zero_add]; exact hbytes) fun v' w' h2 hgr _ => ?_
  rw [Nat.zero_add, List.nil_append] at h2
  exact hK v' w' h2 (hy.grown hgr hH2 (fun e => hH (by simpa [Value.ownBlock] using e)))
end
theorem owns_strsIn2 {w : World} {base : Nat} {T : TypeId} {a : Option Addr} {n cap : Nat} {l : List ByteArray} (h : w.ownsRow base T 1 (.slice a n cap) n (strVals l)) : StrsIn w a l := owns_cells h
theorem strsIn_app {w : World} {base g n cap : Nat} {T : TypeId} {l : List ByteArray} {x : ByteArray} (h : w.ownsRow base T 1 (.slice (some ⟨g, 0, none⟩) n cap) n (strVals l ++ [.string x])) : StrsIn w (some ⟨g, 0, none⟩) (l ++ [x]) := by
  refine owns_strsIn2 (n := n) (cap := cap) (base := base) (T := T) ?_
  unfold strVals at *
  rw [List.map_append]; exact h
end Go.Proofs.YtdhaebbfiaddnaaGreatDoor
