/-
  The program's longest: the heights of ends, kept in a map.
-/
import Derived.Test.YtggfhephdcnpcaaGreatDoorGrp16
import Derived.Test.YtggfhephdcnpcaaGreatDoorGrp20
namespace Go.Proofs.YtggfhephdcnpcaaGreatDoor
open Go.RowKit Go.Maps Go.WideMaps
set_option linter.unusedVariables false
theorem ownM_tight {w : World} {b m : Nat} {D : DataW Unit} (h : OwnM w b m D) : OwnM w b (Maps.size D) D := by
  obtain ⟨es, clock, h1, h2, h3, rfl⟩ := h
  exact ⟨es, clock, h1, h2, by rw [Maps.size_eq, length_sorted, List.length_map, Array.length_toList]; exact Nat.le_refl _, rfl⟩
/-- the memory of the closure that looks for heights -/
structure EnvH (W : World) (bh ba bf b p : Nat) (k : Int) (a : Option Addr) (cap : Nat) (R : List RulD) : Prop where
  h : W.cell? ⟨bh, 0, none⟩ = some (.map (some b))
  r : W.cell? ⟨ba, 0, none⟩ = some (.pointer (some ⟨p, 0, none⟩))
  f : W.cell? ⟨bf, 0, none⟩ = some (.func (.func 149) #[] #[.pointer (some ⟨bh, 0, none⟩), .pointer (some ⟨ba, 0, none⟩), .pointer (some ⟨bf, 0, none⟩)])
  rd : RdAt W p k a R.length cap (keepR R)
  rules : RulesIn W a R
  ne : (bh ≠ b ∧ ba ≠ b ∧ bf ≠ b ∧ p ≠ b) ∧ (R = [] ∨ ∀ x, a = some x → x.block ≠ b)
theorem EnvH.grown {W W' : World} {bh ba bf b p : Nat} {k : Int} {a : Option Addr} {cap : Nat} {R : List RulD} (h : EnvH W bh ba bf b p k a cap R) (hg : W.grownBy W' (some b)) : EnvH W' bh ba bf b p k a cap R := by
  obtain ⟨⟨n1, n2, n3, n4⟩, n5⟩ := h.ne
  obtain ⟨r1, r2, r3⟩ := h.rd
  refine ⟨hg.cell h.h (by simpa using n1), hg.cell h.r (by simpa using n2), hg.cell h.f (by simpa using n3), ⟨hg.cell r1 (by simpa using n4), hg.cell r2 (by simpa using n4), hg.cell r3 (by simpa using n4)⟩, ?_, h.ne⟩
  rcases n5 with rfl | n5
  · exact .inl rfl
  · exact CellsIn.grownC h.rules hg (fun x hx e => n5 x hx (Option.some.inj e))
/-- what the closure hands back -/
def RetH (R : List RulD) (k : Nat) (way : List ByteArray) (e0 : ByteArray) (b : Nat) (W : World) (e : Ending) (W' : World) : Prop :=
  ∃ h, HtIs R k e0 h ∧ e = .returned (.int .i64 h) ∧ W.grownBy W' (some b) ∧ (0 ≤ h → ∃ m D, OwnM W' b m D ∧ HMap R k way D)
theorem wfI {h : Int} (h1 : -1 ≤ h) (h2 : h ≤ 21845) : (Lit.int .i64 h).wf = true := by
  have h3 : IntKind.i64.min = -9223372036854775808 := by decide
  have h4 : IntKind.i64.max = 9223372036854775807 := by decide
  simp only [Lit.wf, h3, h4, Bool.and_eq_true, decide_eq_true_eq]; omega
set_option maxRecDepth 100000 in
set_option maxHeartbeats 4000000 in
theorem height_any (k : Nat) (R : List RulD) (bh ba bf b p : Nat) (a : Option Addr) (cap : Nat) (hlen : R.length ≤ 2 ^ 40) (G : SysG R k) : ∀ (n : Nat) (way : List ByteArray) (e : ByteArray) (w : World) (m : Nat) (D : DataW Unit), way.length + n = 21846 → WayE R k way e → EnvH w bh ba bf b p (k : Nat) a cap R → OwnM w b m D → HMap R k way D →
    Calls Tryz.prog 149 #[.string e, .pointer (some ⟨bh, 0, none⟩), .pointer (some ⟨ba, 0, none⟩), .pointer (some ⟨bf, 0, none⟩)] w (RetH R k way e b w) := by
  intro n
  induction n with
  | zero =>
    intro way e w m D hn hw _ _ _
    have := hw.few G
    omega
  | succ n ih =>
    intro way e w m D hn hw hen hom hmp
    have hes : e.size ≤ 7 := hw.here.1
    have hk7 := keep7 G
    have hk4 := G.k4
    have hkey := keyOkG e (by unfold maxLen; omega)
    have HE := Lib.hid hen
    have HO := Lib.hid (ownM_tight hom)
    have HM := Lib.hid hmp
    have HW := Lib.hid hw
    have c0 := hen.h
    have hsz : Maps.size D < maxLen := by have := hmp.few hk4; unfold maxLen; omega
    have hgr : w.grownBy w (some b) := ⟨rfl, rfl, rfl, Nat.le_refl _, fun _ _ _ => rfl⟩
    have HGR := Lib.hid hgr
    have IH := Lib.hid ih
    clear hen hom hmp hw hgr ih
    cases hh : Maps.has D (keyL e)
    · have hne : e ∉ way := fun h => by have := HM.out.way e h; rw [hh] at this; cases this
      have HNE := Lib.hid hne
      have hkl := fun x => keyOkG x
      clear hne
      go_enter Tryz.func149, Tryz.ntmps149
      go_wp2_with (first
        | (at_lookup; refine wpList_lookup_own_ok_int _ rfl _ _ 164 rfl 9 3 .i64 keySG Tryz.underlying164 Tryz.underlying3 (zeroIntG _) b _ D rfl HO.out _ _ rfl hkey ?_; rw [hh]; intro c1 hat1 hwc1; clear hat1 hwc1)
        | (at_mapUpdate; (refine wpList_mapUpdate_own _ rfl _ _ _ 164 rfl 9 3 keySG Tryz.underlying164 (plainElem (H := Unit) Tryz.prog 3) b _ D rfl HO.out hsz _ _ _ rfl rfl hkey _ [] (plainElem_int (H := Unit) Tryz.underlying3 (by decide)) ?_); intro w1 hown1 hgr1; have c1 : w1.cell? ⟨ba, 0, none⟩ = some (.pointer (some ⟨p, 0, none⟩)) := (HE.out.grown hgr1).r; have c2 : w1.cell? ⟨p, 0, none⟩ = some (.int .i64 (k : Nat)) := (HE.out.grown hgr1).rd.1)
        | go_in)
      have HE1 := Lib.hid (HE.out.grown hgr1)
      have HO1 := Lib.hid hown1
      have HM1 := Lib.hid (HM.out.open HW.out.here)
      have HG1 := Lib.hid hgr1
      generalize D.put (keyL e) (.lit (.int .i64 (-1))) = D1 at *
      clear hown1 hgr1 c0 hh c1 c2
      go_loopw [8, 28] (fun vm vx wr => ∃ (x : Nat) (most : Int) (m : Nat) (D2 : DataW Unit), x ≤ k ∧ vx = .int .i64 (x : Nat) ∧ vm = .int .i64 most ∧ (0 ≤ most ∧ most ≤ 21845) ∧ Hid (MostTo R k e x most) ∧ Hid (OwnM wr b m D2) ∧ Hid (HMap R k (way ++ [e]) D2) ∧ Hid (w.grownBy wr (some b))) (fun _ vx _ => k - (intOf vx).toNat)
      case atStart => exact ⟨0, 0, _, D1, Nat.zero_le _, rfl, rfl, ⟨by omega, by omega⟩, Lib.hid (MostTo.start _ _ _), HO1, HM1, HG1⟩
      case round =>
        clear HO1 HM1 HG1 HE1
        obtain ⟨x, most, m2, D2, hx, rfl, rfl, ⟨hm0, hm1⟩, HMO, HO2, HM2, HG2⟩ := hrel
        have HE2 := Lib.hid (HE.out.grown HG2.out)
        have c1 := HE2.out.r
        have c3 := HE2.out.f
        by_cases hlx : x < k
        · have HNX := Lib.hid (fun W h1 h2 => readerNext_any (k : Nat) R p e x a cap W h1 hlen h2 (by omega) (by omega) (by omega))
          go_wp2_with fail
          refine (HNX.out _ HE2.out.rules HE2.out.rd).mono ?_
          rintro e9 w3 (⟨hok, rfl, hb3⟩ | ⟨hok, rfl, hb3⟩)
          · have hg3 := belowGrown hb3
            have HG3 := Lib.hid (HG2.out.trans (hg3.but (some b)))
            have HO3 : Hid (OwnM w3 b m2 D2) := Lib.hid (HO2.out.kept hg3 (by simp))
            have HE3 := Lib.hid (HE.out.grown HG3.out)
            have HST : Hid (StepE R k e (nxtX R e x)) := Lib.hid ⟨x, hlx, hok, rfl⟩
            have HWN := Lib.hid (HW.out.on G HNE.out hlx hok)
            have HYES := Lib.hid (fun d h1 h0 => HMO.out.yes (d := d) hok h1 h0)
            have HI := Lib.hid (IH.out (way ++ [e]) (nxtX R e x) w3 m2 D2 (by rw [List.length_append]; simp; omega) HWN.out HE3.out HO3.out HM2.out)
            have HLE := Lib.hid (fun h h1 => HtIs.le G HWN.out.here (h := h) h1)
            have c4 := HE3.out.f
            generalize nxtX R e x = nx at *
            clear hok hb3 hg3 c1 c3 HO2 HE2 HNX
            go_wp2_with fail
            refine HI.out.mono ?_
            rintro e10 w4 ⟨h, hh1, rfl, hg4, hh2⟩
            have HH1 := Lib.hid hh1
            have hge := hh1.ge
            have hle := HLE.out h hh1
            have HG4 := Lib.hid (HG3.out.trans hg4)
            by_cases h0 : h < 0
            · have F : Hid (RetH R k way e b w (.returned (.int .i64 (-1))) w4) := Lib.hid ⟨-1, HtIs.inf HST.out (by have e1 : h = -1 := (by omega); rw [← e1]; exact HH1.out), rfl, HG4.out, fun h => by omega⟩
              clear hh1 hh2 hg4 c4
              go_wp2_with fail
              go_ret
              exact F.out
            · obtain ⟨m5, D5, ho5, hm5⟩ := hh2 (by omega)
              have HO5 := Lib.hid ho5
              have HM5 := Lib.hid hm5
              obtain ⟨hn, rfl⟩ := Int.eq_ofNat_of_zero_le (show 0 ≤ h by omega)
              have HY := Lib.hid (HYES.out _ HH1.out (by omega))
              have hmx : max most ((hn : Int) + 1) ≤ 21845 ∧ 0 ≤ max most ((hn : Int) + 1) := by omega
              clear hh1 hh2 hg4 c4 ho5 hm5 HI HYES
              go_wp2_with fail
              go_roundw
              case rel => exact ⟨x + 1, _, m5, D5, by omega, by go_num, rfl, ⟨by omega, by omega⟩, HY, HO5, HM5, HG4⟩
              case measure => simp [intOf]; omega
          · have hg3 := belowGrown hb3
            have HG3 := Lib.hid (HG2.out.trans (hg3.but (some b)))
            have HO3 : Hid (OwnM w3 b m2 D2) := Lib.hid (HO2.out.kept hg3 (by simp))
            have HY := Lib.hid (HMO.out.no hok)
            clear hok hb3 hg3 c1 c3 HNX
            go_wp2_with fail
            go_roundw
            case rel => exact ⟨x + 1, most, m2, D2, by omega, by go_num, rfl, ⟨hm0, hm1⟩, HY, HO3, HM2, HG3⟩
            case measure => simp [intOf]; omega
        · obtain rfl : x = k := by omega
          have HH := Lib.hid HMO.out.done
          have HO3 := Lib.hid (ownM_tight HO2.out)
          have hsz2 : Maps.size D2 < maxLen := by have := HM2.out.few hk4; unfold maxLen; omega
          have HM3 := Lib.hid (HM2.out.close HW.out.here HH.out hm0)
          have hpl := plainElem_int (H := Unit) Tryz.underlying3 (wfI (show -1 ≤ most by omega) hm1)
          have c5 := HE2.out.h
          clear c1 c3
          go_wp2_with (first
            | (at_mapUpdate; (refine wpList_mapUpdate_own _ rfl _ _ _ 164 rfl 9 3 keySG Tryz.underlying164 (plainElem (H := Unit) Tryz.prog 3) b _ D2 rfl HO3.out hsz2 _ _ _ rfl rfl hkey _ [] hpl ?_); intro w6 hown6 hgr6)
            | go_in)
          have F : Hid (RetH R x way e b w (.returned (.int .i64 most)) w6) := Lib.hid ⟨most, HH.out, rfl, HG2.out.trans hgr6, fun _ => ⟨_, _, hown6, HM3.out⟩⟩
          clear hown6 hgr6 c5
          go_wp2_with fail
          go_ret
          exact F.out
    · obtain ⟨y, hat, hcase⟩ := HM.out.look hh
      have HC := Lib.hid hcase
      have HAT := Lib.hid hat
      clear hcase hat
      go_enter Tryz.func149, Tryz.ntmps149
      go_wp2_with (first
        | (at_lookup; refine wpList_lookup_own_ok_int _ rfl _ _ 164 rfl 9 3 .i64 keySG Tryz.underlying164 Tryz.underlying3 (zeroIntG _) b _ D rfl HO.out _ _ rfl hkey ?_; rw [hh]; intro c1 hat1 hwc1)
        | go_in)
      have hc : c1 = y := by
        have h := (HAT.out (.lit (.int .i64 0))).symm.trans hat1
        simp only [DataW.lit.injEq, Lit.int.injEq, true_and] at h
        exact h.symm
      have F : Hid (RetH R k way e b w (.returned (.int .i64 c1)) w) := Lib.hid (by
        subst hc
        rcases HC.out with ⟨h0, h1⟩ | ⟨h0, h1⟩
        · exact ⟨_, h1, rfl, HGR.out, fun _ => ⟨_, _, HO.out, HM.out⟩⟩
        · exact ⟨-1, HW.out.cyc h1, by rw [h0], HGR.out, fun h => by omega⟩)
      clear hat1 hwc1 hc c0
      go_wp2_with fail
      go_ret
      exact F.out
end Go.Proofs.YtggfhephdcnpcaaGreatDoor
