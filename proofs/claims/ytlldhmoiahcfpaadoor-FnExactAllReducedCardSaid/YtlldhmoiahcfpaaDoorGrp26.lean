/-
  GrowthOf and GrowthLine of the reference.
-/
import Derived.Test.YtlldhmoiahcfpaaDoorGrp23
import Derived.Test.YtlldhmoiahcfpaaDoorGrp25
namespace Go.Proofs.YtlldhmoiahcfpaaDoor
open Go.RowKit
set_option linter.unusedVariables false
theorem CellsIn.grownC {w w' : World} {r : Option Nat} {a : Option Addr} {xs : List Value} (h : CellsIn w a xs) (hg : w.grownBy w' r) (hne : ∀ x, a = some x → some x.block ≠ r) : CellsIn w' a xs := by
  rcases h with h | ⟨b, off, ha, hc⟩
  · exact .inl h
  · refine .inr ⟨b, off, ha, fun i hi => ?_⟩
    have h1 := hc i hi
    rw [World.cell?_of_block (hg.block b (World.block_lt_of_cell? w _ h1) (hne _ ha))]
    exact h1
/-- a slice lies away from another one -/
def Away (w : World) (a : Option Addr) (v : Value) : Prop := ∀ x, a = some x → x.block < w.heap.size ∧ some x.block ≠ v.ownBlock
theorem Away.append {wr w' : World} {a : Option Addr} {v v' : Value} {y : Value} {T : TypeId} (h : Away wr a v) (hg : (wr.alloc (.cells #[y] T)).grownBy w' v.ownBlock) (ho : v'.ownBlock = v.ownBlock ∨ v'.ownBlock = some (wr.alloc (.cells #[y] T)).heap.size) : Away w' a v' := fun x hx => by
  obtain ⟨h1, h2⟩ := h x hx
  have hs := hg.size
  simp at hs
  refine ⟨by omega, ?_⟩
  rcases ho with h3 | h3
  · rw [h3]; exact h2
  · rw [h3]
    simp
    omega
def zVals (l : List Int) : List Value := l.map (Value.int .i64)
theorem zVals_app (l : List Int) (y : Int) : zVals (l ++ [y]) = zVals l ++ [.int .i64 y] := by simp [zVals]
theorem zVals_len (l : List Int) : (zVals l).length = l.length := by simp [zVals]
/-- what GrowthOf answers -/
def growP (k : Int) (R : List RulD) (n : Int) : Prop := sysP k R ∧ 0 ≤ n ∧ n ≤ 16
def growO (k : Int) (R : List RulD) (n : Int) : List Int := growL R k.toNat n.toNat
def RetGrow (k : Int) (R : List RulD) (n : Int) (w : World) (e : Ending) (w' : World) : Prop :=
  (¬ growP k R n ∧ e = .returned (.slice none 0 0) ∧ Below w.heap.size w w') ∨ (growP k R n ∧ RetSl 3 1 (growO k R n).length (zVals (growO k R n)) w e w')
theorem growL_rng {R : List RulD} {k n : Nat} (hk : k ≤ 4) (hn : n ≤ 16) : Rng64 (growL R k n) := fun j hj => by
  rw [growL_len] at hj
  have h1 : nthZ (growL R k n) j = ((paths R k j ⟨#[]⟩ : Nat) : Int) := by
    rw [nthZ_lt (by rw [growL_len]; exact hj)]; simp [growL]
  have h2 := paths_le (R := R) hk j ⟨#[]⟩
  have h3 := pow16 (show j ≤ 17 by omega)
  rw [h1]; omega
theorem sys_sizes {k : Int} {R : List RulD} (h : sysP k R) : R.length ≤ 12 ∧ (∀ j, j < R.length → (nthR R j).1.size ≤ 8 ∧ (nthR R j).2.size ≤ 8) ∧ (1 ≤ k ∧ k ≤ 4) :=
  ⟨h.1.1.2, fun j hj => (h.1.2 _ (nthR_mem hj)).1.2, h.1.1.1⟩
/-- what GrowthLine hands back -/
def RetLine (k : Int) (R : List RulD) (n : Int) (w : World) (e : Ending) (w' : World) : Prop :=
  (¬ growP k R n ∧ e = .returned (.string ⟨#[110, 111, 110, 101]⟩) ∧ Below w.heap.size w w') ∨ (growP k R n ∧ e = .returned (.string (fmtNums (growO k R n))) ∧ Below w.heap.size w w')
set_option maxRecDepth 100000 in
set_option maxHeartbeats 4000000 in
theorem specGrowthOf_any (k : Int) (R : List RulD) (n : Int) (a : Option Addr) (cap : Nat) (w : World) (hl : RulesIn w a R) (hlen : R.length ≤ 2 ^ 40) (hz : SzR R) :
    Calls Tryd.prog 17 #[.agg #[.int .i64 k, .slice a R.length cap], .int .i64 n] w (RetGrow k R n w) := by
  have HL := Lib.hid hl
  have HS := Lib.hid (fun W h => specSystemOk_any k R a cap W h hlen hz)
  have HR0 := Lib.hid (fun W => l01In_any n 0 16 W)
  have HA := Lib.hid (fun o => alloc_belowS w o)
  have hbx := alloc_at w (.cells #[.int .i64 k, .slice a R.length cap] 29)
  have HBX : Hid (∀ W2, Below (w.alloc (.cells #[.int .i64 k, .slice a R.length cap] 29)).heap.size (w.alloc (.cells #[.int .i64 k, .slice a R.length cap] 29)) W2 → W2.cell? ⟨w.heap.size, 0, none⟩ = some (.int .i64 k) ∧ W2.cell? ⟨w.heap.size, 1, none⟩ = some (.slice a R.length cap)) := Lib.hid (fun W2 hW2 => sys_cells ((hW2.block w.heap.size (by simp)).trans hbx))
  clear hl hz hbx
  go_enter Tryd.func17, Tryd.ntmps17
  go_wp2_with fail
  refine (HS.out _ (HL.out.later (HA.out _))).mono ?_
  rintro e w1 ⟨bb, hbb, rfl, hb1⟩
  have HBB := Lib.hid hbb
  have HB1 := Lib.hid hb1
  obtain ⟨s0, s1⟩ := HBX.out w1 hb1
  have HW1 := Lib.hid (Below.now (HA.out _) hb1)
  clear hbb hb1 HS
  cases bb
  · have F : Hid (RetGrow k R n w (.returned (.slice none 0 0)) w1) := Lib.hid (.inl ⟨fun h => (by have := HBB.out.2 h.1; cases this), rfl, HW1.out⟩)
    go_wp2_with fail
    go_ret
    exact F.out
  · have HSP := Lib.hid (HBB.out.1 rfl)
    clear HBB
    cases hb : inB n 0 16
    · have F : Hid (RetGrow k R n w (.returned (.slice none 0 0)) w1) := Lib.hid (.inl ⟨fun h => (by have := h.2; simp [inB] at hb; omega), rfl, HW1.out⟩)
      rw [hb] at HR0
      clear hb
      go_wp2_with (go_at_call 23; refine (HR0.out _).mono ?_; rintro e w' ⟨rfl, rfl⟩)
      go_ret
      exact F.out
    · have hb2 := inB_bounds hb
      rw [hb] at HR0
      clear hb
      obtain ⟨h12, hsz, hk1, hk4⟩ := sys_sizes HSP.out
      obtain ⟨kn, rfl⟩ := Int.eq_ofNat_of_zero_le (show 0 ≤ k by omega)
      obtain ⟨nn, rfl⟩ := Int.eq_ofNat_of_zero_le hb2.1
      have hkn : kn ≤ 4 := by omega
      have hnn : nn ≤ 16 := by omega
      have HGP : Hid (growP (kn : Int) R (nn : Int)) := Lib.hid ⟨HSP.out, by omega, by omega⟩
      have HGO : Hid (growO (kn : Int) R (nn : Int) = growL R kn nn) := Lib.hid (by unfold growO; simp)
      have HSZ := Lib.hid hsz
      clear hsz hb2
      have HW0 : Hid (WaysIn ((w1.alloc (.cells #[.string ⟨#[]⟩] 9)).alloc (.cells #[.int .i64 1] 3)) (some ⟨w1.heap.size, 0, none⟩) (some ⟨w1.heap.size + 1, 0, none⟩) [(⟨#[]⟩, 1)]) := Lib.hid (by
        refine ⟨.inr ⟨_, _, rfl, fun i hi => ?_⟩, .inr ⟨_, _, rfl, fun i hi => ?_⟩⟩
        · have : i = 0 := by simp [keyV] at hi; omega
          subst this
          rw [(alloc_belowS (w1.alloc (.cells #[.string ⟨#[]⟩] 9)) _).cell (by simp)]
          simp [World.cell?_alloc_new, keyV]
        · have : i = 0 := by simp [cntV] at hi; omega
          subst this
          have e1 : (w1.alloc (.cells #[.string ⟨#[]⟩] 9)).heap.size = w1.heap.size + 1 := by simp
          rw [← e1]
          simp [cntV])
      have HO0 : Hid (Bld 3 1 w1 (((w1.alloc (.cells #[.string ⟨#[]⟩] 9)).alloc (.cells #[.int .i64 1] 3)).alloc (.cells #[.int .i64 1] 3)) (.slice (some ⟨w1.heap.size + 1 + 1, 0, none⟩) 1 1) 1 (zVals (growL R kn 0))) := Lib.hid (by
        have h1 := World.ownsRow_lit ((w1.alloc (.cells #[.string ⟨#[]⟩] 9)).alloc (.cells #[.int .i64 1] 3)) (base := w1.heap.size) (e := 3) (size := 1) #[.int .i64 1] 1 (by simp; try omega) (by unfold maxLen; omega) (by simp)
        have e2 : ((w1.alloc (.cells #[.string ⟨#[]⟩] 9)).alloc (.cells #[.int .i64 1] 3)).heap.size = w1.heap.size + 1 + 1 := by simp
        rw [e2] at h1
        exact ⟨h1, (((Below.refl _ _).alloc (Nat.le_refl _) _).alloc (by simp) _).alloc (by simp; try omega) _⟩)
      have HW0b := Lib.hid (HW0.out.later (alloc_belowS _ (.cells #[.int .i64 1] 3)))
      have HBX1 : Hid (∀ W2, Below w1.heap.size w1 W2 → W2.cell? ⟨w.heap.size, 0, none⟩ = some (.int .i64 (kn : Nat)) ∧ W2.cell? ⟨w.heap.size, 1, none⟩ = some (.slice a R.length cap)) := Lib.hid (fun W2 hW2 => HBX.out W2 (Below.now HB1.out hW2))
      go_wp2_with (go_at_call 23; refine (HR0.out _).mono ?_; rintro e w' ⟨rfl, rfl⟩)
      clear HR0 s0 s1 HBX HB1
      go_loopw [5, 6, 7, 8] (fun ve vc vo vi wr => ∃ (i : Nat) (W : WayD) (ae ac : Option Addr) (ce cc : Nat), i ≤ nn ∧ vi = .int .i64 (i : Nat) ∧ ve = .slice ae W.length ce ∧ vc = .slice ac W.length cc ∧ WayAt R kn i W ∧ WaysIn wr ae ac W ∧ Bld 3 1 w1 wr vo (i + 1) (zVals (growL R kn i)) ∧ Away wr ae vo ∧ Away wr ac vo) (fun _ _ _ vi _ => nn - (intOf vi).toNat)
      case atStart => exact ⟨0, [(⟨#[]⟩, 1)], _, _, _, _, Nat.zero_le _, rfl, rfl, rfl, WayAt.start _ _, HW0b.out, HO0.out, fun x hx => (by cases hx; refine ⟨by simp; try omega, by simp [Value.ownBlock]; try omega⟩), fun x hx => (by cases hx; refine ⟨by simp; try omega, by simp [Value.ownBlock]; try omega⟩)⟩
      case round =>
        clear HW0 HW0b HO0
        obtain ⟨i, W, ae, ac, ce, cc, hi, rfl, rfl, rfl, hwa, hin, hbd, haw1, haw2⟩ := hrel
        obtain ⟨go, co, rfl⟩ := owns_slot hbd.1 (by omega)
        have HWA := Lib.hid hwa
        have HIN := Lib.hid hin
        have HB := Lib.hid hbd
        have HA1 := Lib.hid haw1
        have HA2 := Lib.hid haw2
        clear hwa hin hbd haw1 haw2
        by_cases hlt : i < nn
        · obtain ⟨s0, s1⟩ := HBX1.out wr HB.out.2
          have HNX := Lib.hid (fun W2 h1 h2 => l07Next_any kn i R W a ae ac cap ce cc W2 h1 hlen HSZ.out hkn (by omega) HWA.out h2)
          go_wp2_with fail
          refine (HNX.out _ (HL.out.later (Below.now HW1.out HB.out.2)) HIN.out).mono ?_
          rintro e w2 ⟨V, av, cv, au, cu, rfl, hv1, hv2, hv3, hv4, hv5⟩
          have HV1 := Lib.hid hv1
          have HV2 := Lib.hid hv2
          have HB2 := Lib.hid (HB.out.later hv3)
          have hgo := (HB.out.1.lt go rfl).2
          have HAA1 : Hid (Away w2 av (.slice (some ⟨go, 0, none⟩) (i + 1) co)) := Lib.hid (fun x hx => ⟨(hv4 x hx).2, by have := (hv4 x hx).1; simp [Value.ownBlock]; omega⟩)
          have HAA2 : Hid (Away w2 au (.slice (some ⟨go, 0, none⟩) (i + 1) co)) := Lib.hid (fun x hx => ⟨(hv5 x hx).2, by have := (hv5 x hx).1; simp [Value.ownBlock]; omega⟩)
          have HCA := Lib.hid (cntTo_all R kn V)
          have HCE := Lib.hid (hv1.eq 0)
          have hce : wsum R kn 0 V ≤ 17179869184 := by
            have h2 := paths_le (R := R) hkn (i + 1 + 0) ⟨#[]⟩
            have h3 := pow16 (show i + 1 + 0 ≤ 17 by omega)
            have h4 := hv1.eq 0
            omega
          have HMO : Hid (∀ j, j ≤ V.length → cntTo V j ≤ 17179869184) := Lib.hid (fun j hj => by have h1 := cntTo_mono V hj; rw [cntTo_all R kn] at h1; omega)
          have hVl : V.length ≤ 17179869184 := by have h1 := PosW.len (R := R) (k := kn) hv1.pos; omega
          clear hv1 hv2 hv3 hv4 hv5 HNX s0 s1 hce
          go_wp2_with fail
          go_loop [9, 37] (fun vs vj => ∃ j c : Nat, j ≤ V.length ∧ vj = .int .i64 (j : Nat) ∧ vs = .int .i64 (c : Nat) ∧ Hid (c = cntTo V j)) (fun _ vj => V.length - (intOf vj).toNat)
          case atStart => exact ⟨0, 0, Nat.zero_le _, rfl, rfl, Lib.hid rfl⟩
          case round =>
            obtain ⟨j, c, hj, rfl, rfl, hc⟩ := hrel
            have hcb : c ≤ 17179869184 := by have := HMO.out j hj; have := hc.out; omega
            by_cases hlj : j < V.length
            · obtain ⟨_, _, b2, off2, _, rfl, _, r2⟩ := HV2.out.at hlj
              have HCS := Lib.hid (cntTo_succ hlj)
              rw [← nthW_lt hlj, ← hc.out] at HCS
              have hcs := HMO.out (j + 1) hlj
              have hcs2 : c + (nthW V j).2 ≤ 17179869184 := by have := HCS.out; omega
              clear hcs
              generalize (nthW V j).2 = d at *
              go_wp2_with fail
              go_round
              case rel => exact ⟨j + 1, c + d, by omega, by go_num, by go_num, Lib.hid HCS.out.symm⟩
              case measure => simp [intOf]; omega
            · obtain rfl : j = V.length := by omega
              have HSUM : Hid ((c : Int) = ((paths R kn (i + 1) ⟨#[]⟩ : Nat) : Int)) := Lib.hid (by rw [hc.out, HCA.out, HCE.out, Nat.add_zero])
              have HOA : Hid (Bld 3 1 w1 (w2.alloc (.cells #[.int .i64 (c : Int)] 3)) (.slice (some ⟨go, 0, none⟩) (i + 1) co) (i + 1) (zVals (growL R kn i))) := Lib.hid (HB2.out.later (alloc_belowS _ _))
              have HN1 : Hid ([Value.int .i64 (c : Int)].length = 1 * 1) := Lib.hid rfl
              have HN2 : Hid (∀ u ∈ [Value.int .i64 (c : Int)], u.oneCell' = true) := Lib.hid (fun u hu => by rw [List.mem_singleton.1 hu]; rfl)
              go_wp2_with (at_builtin; refine wpList_appM rfl (.tmp 45) (.tmp 47) rfl Tryd.underlying41 Tryd.infoInt rfl (by decide) rfl HOA.out rfl (Src.lit _) HN1.out HN2.out ?a1 ?a2 ?a3)
              case a1 => unfold maxLen; omega
              case a2 => omega
              intro v4 w4 hb4 hg4 ho4
              have HB4 : Hid (Bld 3 1 w1 w4 v4 (i + 1 + 1) (zVals (growL R kn (i + 1)))) := Lib.hid (by
                rw [growL_succ, zVals_app, ← HSUM.out]; exact hb4)
              have HX1 := Lib.hid (HAA1.out.append hg4 (by simpa using ho4))
              have HX2 := Lib.hid (HAA2.out.append hg4 (by simpa using ho4))
              have HV4 : Hid (WaysIn w4 av au V) := Lib.hid ⟨(HV2.out.1.later (alloc_belowS _ _)).grownC hg4 (fun x hx => (HAA1.out x hx).2), (HV2.out.2.later (alloc_belowS _ _)).grownC hg4 (fun x hx => (HAA2.out x hx).2)⟩
              clear hb4 hg4 ho4
              go_wp2_with fail
              go_roundw
              case rel => exact ⟨i + 1, V, av, au, cv, cu, by omega, by go_num, rfl, rfl, HV1.out, HV4.out, HB4.out, HX1.out, HX2.out⟩
              case measure => simp [intOf]; omega
        · obtain rfl : i = nn := by omega
          have F : Hid (RetGrow (kn : Int) R (i : Int) w (.returned (.slice (some ⟨go, 0, none⟩) (i + 1) co)) wr) := Lib.hid (.inr ⟨HGP.out, by
            have h := (HB.out.since HW1.out).ret
            rw [HGO.out, growL_len]; exact h⟩)
          go_wp2_with fail
          go_ret
          exact F.out
set_option maxHeartbeats 1000000 in
theorem specGrowthLine_any (k : Int) (R : List RulD) (n : Int) (a : Option Addr) (cap : Nat) (w : World) (hl : RulesIn w a R) (hlen : R.length ≤ 2 ^ 40) (hz : SzR R) :
    Calls Tryd.prog 6 #[.agg #[.int .i64 k, .slice a R.length cap], .int .i64 n] w (RetLine k R n w) := by
  have HL := Lib.hid hl
  have HG := Lib.hid (fun W h => specGrowthOf_any k R n a cap W h hlen hz)
  have HA := Lib.hid (fun o => alloc_belowS w o)
  clear hl hz
  go_enter Tryd.func6, Tryd.ntmps6
  go_wp2_with fail
  refine (HG.out _ (HL.out.later (HA.out _))).mono ?_
  rintro e w1 (⟨hno, rfl, hb1⟩ | ⟨hyes, a1, c1, rfl, ho1, hb1⟩)
  · have F : Hid (RetLine k R n w (.returned (.string ⟨#[110, 111, 110, 101]⟩)) w1) := Lib.hid (.inl ⟨hno, rfl, Below.now (HA.out _) hb1⟩)
    clear hno hb1 HG
    go_wp2_with fail
    go_ret
    exact F.out
  · have HY := Lib.hid hyes
    have hk := hyes.1.1.1.1
    have hln : (growO k R n).length = n.toNat + 1 := growL_len _ _ _
    have hnn := hyes.2
    have HF := Lib.hid (fun W h => specFormatNumbers_any (growO k R n) a1 c1 W h (by omega) (growL_rng (by omega) (by omega)))
    have HI := Lib.hid (owns_ints ho1)
    have HB1 := Lib.hid (Below.now (HA.out _) hb1)
    have n1 : (((growO k R n).length : Int) == 0) = false := by rw [beq_eq_false_iff_ne]; omega
    clear hyes ho1 hb1 HG hln
    generalize hgg : growO k R n = gg at *
    have HGG := Lib.hid hgg
    clear hgg
    go_wp2_with fail
    refine (HF.out _ HI.out).mono ?_
    rintro e w2 ⟨rfl, hb2⟩
    have F : Hid (RetLine k R n w (.returned (.string (fmtNums gg))) w2) := Lib.hid (.inr ⟨HY.out, by rw [HGG.out], Below.now HB1.out hb2⟩)
    clear hb2 HF
    go_wp2_with fail
    go_ret
    exact F.out
end Go.Proofs.YtlldhmoiahcfpaaDoor
