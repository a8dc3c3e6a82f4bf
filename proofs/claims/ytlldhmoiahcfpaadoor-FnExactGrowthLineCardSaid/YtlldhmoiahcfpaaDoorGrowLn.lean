/-
  GrowthOf and GrowthLine of the program.
-/
import Derived.Test.YtlldhmoiahcfpaaDoorGrowI
import Derived.WalkSpells
namespace Go.Proofs.YtlldhmoiahcfpaaDoor
open Go.RowKit
set_option linter.unusedVariables false
set_option maxHeartbeats 1000000 in
theorem implGrowthOf_any (k : Int) (R : List RulD) (n : Int) (a : Option Addr) (cap : Nat) (w : World) (hl : RulesIn w a R) (hlen : R.length ≤ 2 ^ 40) (hz : SzR R) :
    Calls Tryd.prog 20 #[.agg #[.int .i64 k, .slice a R.length cap], .int .i64 n] w (RetGrow k R n w) := by
  have HL := Lib.hid hl
  have HS := Lib.hid (fun W h => implSystemOk_any k R a cap W h hlen hz)
  have HR0 := Lib.hid (fun W => within_any n 0 16 W)
  have HA := Lib.hid (fun o => alloc_belowS w o)
  have hbx := alloc_at w (.cells #[.int .i64 k, .slice a R.length cap] 29)
  have HBX : Hid (∀ W2, Below (w.alloc (.cells #[.int .i64 k, .slice a R.length cap] 29)).heap.size (w.alloc (.cells #[.int .i64 k, .slice a R.length cap] 29)) W2 → W2.cell? ⟨w.heap.size, 0, none⟩ = some (.int .i64 k) ∧ W2.cell? ⟨w.heap.size, 1, none⟩ = some (.slice a R.length cap)) := Lib.hid (fun W2 hW2 => sys_cells ((hW2.block w.heap.size (by simp)).trans hbx))
  clear hl hz hbx
  go_enter Tryd.func20, Tryd.ntmps20
  go_wp2_with fail
  refine (HS.out _ (HL.out.later (HA.out _))).mono ?_
  rintro e w1 ⟨bb, hbb, rfl, hb1⟩
  have HBB := Lib.hid hbb
  obtain ⟨s0, s1⟩ := HBX.out w1 hb1
  have HW1 := Lib.hid (Below.now (HA.out _) hb1)
  clear hbb hb1 HS HBX
  cases bb
  · have F : Hid (RetGrow k R n w (.returned (.slice none 0 0)) w1) := Lib.hid (.inl ⟨fun h => (by have := HBB.out.2 h.1; cases this), rfl, HW1.out⟩)
    go_wp2_with fail
    go_ret
    exact F.out
  · have HSP := Lib.hid (HBB.out.1 rfl)
    clear HBB
    cases hb : inB n 0 16
    · have F : Hid (RetGrow k R n w (.returned (.slice none 0 0)) w1) := Lib.hid (.inl ⟨fun h => (by have := h.2; simp [inB] at hb; omega), rfl, HW1.out⟩)
      rw [hb] at HR0
      clear hb
      go_wp2_with (go_at_call 26; refine (HR0.out _).mono ?_; rintro e w' ⟨rfl, rfl⟩)
      go_ret
      exact F.out
    · have hb2 := inB_bounds hb
      rw [hb] at HR0
      clear hb
      obtain ⟨_, _, hk1, hk4⟩ := sys_sizes HSP.out
      obtain ⟨kn, rfl⟩ := Int.eq_ofNat_of_zero_le (show 0 ≤ k by omega)
      obtain ⟨nn, rfl⟩ := Int.eq_ofNat_of_zero_le hb2.1
      have HGP : Hid (growP (kn : Int) R (nn : Int)) := Lib.hid ⟨HSP.out, by omega, by omega⟩
      have HGO : Hid (growO (kn : Int) R (nn : Int) = growL R kn nn) := Lib.hid (by unfold growO; simp)
      have HG := Lib.hid (fun W h => growth_any kn nn R a cap W h hlen HSP.out (by omega))
      clear hb2
      go_wp2_with (first
        | (go_at_call 26; refine (HR0.out _).mono ?_; rintro e w' ⟨rfl, rfl⟩))
      refine (HG.out _ (HL.out.later HW1.out)).mono ?_
      rintro e w2 ⟨a2, c2, rfl, ho2, hb2⟩
      have F : Hid (RetGrow (kn : Int) R (nn : Int) w (.returned (.slice a2 (growL R kn nn).length c2)) w2) := Lib.hid (.inr ⟨HGP.out, by
        rw [HGO.out]
        exact ⟨a2, c2, rfl, owns_mono ho2 HW1.out.size, Below.now HW1.out hb2⟩⟩)
      clear ho2 hb2 HG s0 s1
      go_wp2_with fail
      go_ret
      exact F.out
set_option maxRecDepth 20000 in
set_option maxHeartbeats 1000000 in
theorem implGrowthLine_any (k : Int) (R : List RulD) (n : Int) (a : Option Addr) (cap : Nat) (w : World) (hl : RulesIn w a R) (hlen : R.length ≤ 2 ^ 40) (hz : SzR R) (ht : Tab10 w) :
    Calls Tryd.prog 8 #[.agg #[.int .i64 k, .slice a R.length cap], .int .i64 n] w (RetLine k R n w) := by
  have HL := Lib.hid hl
  have HT := Lib.hid ht
  have HG := Lib.hid (fun W h => implGrowthOf_any k R n a cap W h hlen hz)
  have HA := Lib.hid (fun o => alloc_belowS w o)
  clear hl hz ht
  go_enter Tryd.func8, Tryd.ntmps8
  go_wp2_with fail
  refine (HG.out _ (HL.out.later (HA.out _))).mono ?_
  rintro e w1 (⟨hno, rfl, hb1⟩ | ⟨hyes, a1, c1, rfl, ho1, hb1⟩)
  · have F : Hid (RetLine k R n w (.returned (.string ⟨#[110, 111, 110, 101]⟩)) w1) := Lib.hid (.inl ⟨hno, rfl, Below.now (HA.out _) hb1⟩)
    have hnl := fun w => Lib.run_eql_slice_nil (P := Tryd.prog) w 41 3 none 0 0 0 0 Tryd.underlying41
    clear hno hb1 HG
    go_wp2_with fail
    go_ret
    exact F.out
  · have HY := Lib.hid hyes
    have hk := hyes.1.1.1.1
    have hln : (growO k R n).length = n.toNat + 1 := growL_len _ _ _
    have hnn := hyes.2
    obtain ⟨g1, cc1, hv⟩ := owns_slot ho1 (by omega)
    cases hv
    have HF := Lib.hid (fun W h1 h2 => implFormatNumbers_any (growO k R n) (some ⟨g1, 0, none⟩) c1 W h1 (by omega) (growL_rng (by omega) (by omega)) h2)
    have HI := Lib.hid (owns_ints ho1)
    have HB1 := Lib.hid (Below.now (HA.out _) hb1)
    clear hyes ho1 hb1 HG hln
    generalize hgg : growO k R n = gg at *
    have HGG := Lib.hid hgg
    clear hgg
    have hnl := fun w => Lib.run_eql_slice_nil (P := Tryd.prog) w 41 3 (some ⟨g1, 0, none⟩) gg.length c1 0 0 Tryd.underlying41
    go_wp2_with fail
    refine (HF.out _ HI.out (HT.out.later HB1.out)).mono ?_
    rintro e w2 ⟨rfl, hb2⟩
    have F : Hid (RetLine k R n w (.returned (.string (fmtNums gg))) w2) := Lib.hid (.inr ⟨HY.out, by rw [HGG.out], Below.now HB1.out hb2⟩)
    clear hb2 HF hnl
    go_wp2_with fail
    go_ret
    exact F.out
end Go.Proofs.YtlldhmoiahcfpaaDoor
