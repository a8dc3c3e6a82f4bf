/-
  A folded graph is one, by the reference.
-/
import Derived.Test.YtklbehapbchnaaaDoorFol12
namespace Go.Proofs.YtklbehapbchnaaaDoor
open Go.RowKit
set_option linter.unusedVariables false
theorem det_ne {g V : Nat} {L : List Arc3} (h : FokP g V L) {i j : Nat} (hi : i < L.length) (hj : j < i) (h3 : L[i].2.2 = (L[j]'(by omega)).2.2) : L[i].1 ≠ (L[j]'(by omega)).1 ∧ L[i].2.1 ≠ (L[j]'(by omega)).2.1 := by
  have hjl : j < L.length := by omega
  have hm := h.det L[i] (List.getElem_mem hi) L[j] (List.getElem_mem hjl)
  have hlt : ltA L[j] L[i] = true := List.pairwise_iff_getElem.1 h.srt j i hjl hi hj
  have hne : L[i] ≠ L[j] := fun e => by rw [e, ltA_irr] at hlt; cases hlt
  generalize L[i] = a at *
  generalize L[j] = b at *
  obtain ⟨a1, a2, a3⟩ := a
  obtain ⟨b1, b2, b3⟩ := b
  simp only [] at h3
  subst h3
  unfold meetA at hm
  simp only [beq_self_eq_true, Bool.true_and, Bool.or_eq_false_iff, Bool.and_eq_false_iff, beq_eq_false_iff_ne, bne_eq_false_iff_eq] at hm
  refine ⟨fun e => ?_, fun e => ?_⟩
  · simp only [] at e
    subst e
    rcases hm.1 with h | h
    · exact h rfl
    · exact hne (by rw [h])
  · simp only [] at e
    subst e
    rcases hm.2 with h | h
    · exact h rfl
    · exact hne (by rw [h])
theorem inB_mk {x lo hi : Int} (h1 : lo ≤ x) (h2 : x ≤ hi) : inB x lo hi = true := by unfold inB; simp; omega
set_option maxRecDepth 20000 in
set_option maxHeartbeats 4000000 in
theorem specFoldedOk_any (g V : Nat) (L : List Arc3) (av : Option Addr) (cap : Nat) (w : World) (hL : ArcsIn w av L) (hcap : L.length ≤ cap) (hl : L.length ≤ 200) (hf : FokP g V L) :
    Calls Tryd.prog 45 #[.agg #[.int .i64 (g : Nat), .int .i64 (V : Nat), .slice av L.length cap]] w fun e w' => e = .returned (.bool true) ∧ Below w.heap.size w w' := by
  have HB1 := Lib.hid (alloc_belT w (.cells #[.int .i64 ((g : Nat) : Int), .int .i64 ((V : Nat) : Int), .slice av L.length cap] 48))
  have HF1 := Lib.hid (alloc_at w (.cells #[.int .i64 ((g : Nat) : Int), .int .i64 ((V : Nat) : Int), .slice av L.length cap] 48))
  have HL1 := Lib.hid (RowsIn.later hL HB1.out)
  have HF := Lib.hid hf
  have hg1 := hf.g1
  have hg2 := hf.g2
  have hv1 := hf.v1
  have hv2 := hf.v2
  have hi1 : inB (g : Nat) 1 2 = true := inB_mk (by omega) (by omega)
  have hi2 : inB (V : Nat) 1 96 = true := inB_mk (by omega) (by omega)
  clear hL hf
  obtain ⟨m, hm⟩ : ∃ m, V = m + 1 := ⟨V - 1, by omega⟩
  obtain ⟨q, hq⟩ : ∃ q, g = q + 1 := ⟨g - 1, by omega⟩
  have hvs : (V : Int) - 1 = (m : Int) := by omega
  have hgs : (g : Int) - 1 = (q : Int) := by omega
  have hwv : IntKind.i64.wrap (m : Int) = (m : Int) := IntWalk.i64_in _ ⟨by omega, by omega⟩
  have hwg : IntKind.i64.wrap (q : Int) = (q : Int) := IntWalk.i64_in _ ⟨by omega, by omega⟩
  have HM := Lib.hid hm
  have HQ := Lib.hid hq
  clear hm hq
  go_enter Tryd.func45, Tryd.ntmps45
  go_wp2_with (go_at_call 37; refine (l01In_any _ _ _ _).mono ?_; rintro e w' ⟨rfl, rfl⟩)
  generalize hW1 : w.alloc (.cells #[.int .i64 ((g : Nat) : Int), .int .i64 ((V : Nat) : Int), .slice av L.length cap] 48) = w1 at *
  clear hW1
  go_loopw [20] (fun v20 wr => ∃ i : Nat, i ≤ L.length ∧ v20 = .int .i64 (i : Nat) ∧ Hid (Below w1.heap.size w1 wr)) (fun v20 _ => L.length - (intOf v20).toNat)
  case atStart => exact ⟨0, Nat.zero_le _, rfl, Lib.hid (Below.refl _ _)⟩
  case round =>
    obtain ⟨i, hi, rfl, HBW⟩ := hrel
    by_cases hil : i < L.length
    · obtain ⟨b0, off, rfl, hb0, hc⟩ := arc_cells (RowsIn.later HL1.out HBW.out) hil
      obtain ⟨c0, c1, c2⟩ := hc i hil
      have hii : (i : Int) < (L.length : Int) := by omega
      have HCA : Hid (∀ W, Below w1.heap.size w1 W → ∀ j (hj : j < L.length), W.cell? ⟨b0, off + j * 3, none⟩ = some (.int .i64 ((L[j].1 : Nat) : Int)) ∧ W.cell? ⟨b0, off + j * 3 + 1, none⟩ = some (.int .i64 ((L[j].2.1 : Nat) : Int)) ∧ W.cell? ⟨b0, off + j * 3 + 2, none⟩ = some (.int .i64 ((L[j].2.2 : Nat) : Int))) := Lib.hid (fun W hW j hj => by
        obtain ⟨b1, o1, e, _, hc1⟩ := arc_cells (RowsIn.later HL1.out hW) hj
        simp only [Option.some.injEq, Addr.mk.injEq, and_true] at e
        obtain ⟨rfl, rfl⟩ := e
        exact hc1 j hj)
      have HRG := Lib.hid (HF.out.rng L[i] (List.getElem_mem hil))
      have HDT := Lib.hid (fun j (hj : j < i) h3 => det_ne HF.out hil hj h3)
      have HPR : Hid (∀ i1 (h : i1 < L.length), i = i1 + 1 → ltA L[i1] L[i] = true) := Lib.hid (fun i1 h e => List.pairwise_iff_getElem.1 HF.out.srt i1 i h hil (by omega))
      obtain ⟨⟨a1, a2, a3⟩, hfj⟩ : ∃ x, L[i] = x := ⟨_, rfl⟩
      rw [hfj] at c0 c1 c2 HRG
      have HDU : Hid (∀ j (hj : j < L.length), j < i → a3 = L[j].2.2 → a1 ≠ L[j].1 ∧ a2 ≠ L[j].2.1) := Lib.hid (fun j hj hji h3 => by have h := HDT.out j hji; rw [hfj] at h; exact h h3)
      have HPU : Hid (∀ i1 (h : i1 < L.length), i = i1 + 1 → ltA L[i1] (a1, a2, a3) = true) := Lib.hid (fun i1 h e => by have h2 := HPR.out i1 h e; rw [hfj] at h2; exact h2)
      have HBA := Lib.hid (BoxA.new wr (a1, a2, a3))
      have HAL := Lib.hid (alloc_belT wr (.cells #[.int .i64 ((a1 : Nat) : Int), .int .i64 ((a2 : Nat) : Int), .int .i64 ((a3 : Nat) : Int)] 66))
      have HBW2 := Lib.hid (Below.now HBW.out HAL.out)
      clear hc hb0 hfj HDT HPR
      go_upto_region 6 with fail
      generalize wr.heap.size = Ba at *
      generalize wr.alloc (.cells #[.int .i64 ((a1 : Nat) : Int), .int .i64 ((a2 : Nat) : Int), .int .i64 ((a3 : Nat) : Int)] 66) = wb at *
      clear c0 c1 c2 HAL HBW
      have HBXL : Hid (∀ W, Below wb.heap.size wb W → W.cell? ⟨Ba, 0, none⟩ = some (.int .i64 ((a1 : Nat) : Int)) ∧ W.cell? ⟨Ba, 1, none⟩ = some (.int .i64 ((a2 : Nat) : Int)) ∧ W.cell? ⟨Ba, 2, none⟩ = some (.int .i64 ((a3 : Nat) : Int))) := Lib.hid (fun W hW => (HBA.out.later hW).2)
      have HFX : Hid (∀ W, Below wb.heap.size wb W → W.cell? ⟨w.heap.size, 0, none⟩ = some (.int .i64 ((g : Nat) : Int)) ∧ W.cell? ⟨w.heap.size, 1, none⟩ = some (.int .i64 ((V : Nat) : Int)) ∧ W.cell? ⟨w.heap.size, 2, none⟩ = some (.slice (some ⟨b0, off, none⟩) L.length cap)) := Lib.hid (fun W hW => by
        have h := ((Below.now HBW2.out hW).block w.heap.size (Array.getElem?_eq_some_iff.1 HF1.out).1).trans HF1.out
        obtain ⟨h0, h1, h2, _⟩ := fold_cells h
        exact ⟨h0, h1, h2⟩)
      have HI1 : Hid (∀ W, Calls Tryd.prog 37 #[.int .i64 ((a1 : Nat) : Int), .int .i64 0, .int .i64 ((m : Nat) : Int)] W fun e w' => e = .returned (.bool true) ∧ W = w') := Lib.hid (fun W => by
        have h := l01In_any (a1 : Nat) 0 (m : Nat) W
        rw [inB_mk (by omega) (by have h1 := HRG.out.1; have h2 := HM.out; simp only [] at h1; omega)] at h
        exact h)
      have HI2 : Hid (∀ W, Calls Tryd.prog 37 #[.int .i64 ((a2 : Nat) : Int), .int .i64 0, .int .i64 ((m : Nat) : Int)] W fun e w' => e = .returned (.bool true) ∧ W = w') := Lib.hid (fun W => by
        have h := l01In_any (a2 : Nat) 0 (m : Nat) W
        rw [inB_mk (by omega) (by have h1 := HRG.out.2.1; have h2 := HM.out; simp only [] at h1; omega)] at h
        exact h)
      have HI3 : Hid (∀ W, Calls Tryd.prog 37 #[.int .i64 ((a3 : Nat) : Int), .int .i64 0, .int .i64 ((q : Nat) : Int)] W fun e w' => e = .returned (.bool true) ∧ W = w') := Lib.hid (fun W => by
        have h := l01In_any (a3 : Nat) 0 (q : Nat) W
        rw [inB_mk (by omega) (by have h1 := HRG.out.2.2; have h2 := HQ.out; simp only [] at h1; omega)] at h
        exact h)
      by_cases h0 : i = 0
      · have hg0 : decide ((0 : Int) < (i : Int)) = false := by rw [decide_eq_false_iff_not]; omega
        have hg0n : decide (0 < i) = false := by rw [decide_eq_false_iff_not]; omega
        refine region_each (fun W => Below wb.heap.size wb W) (fun W W2 => Below W.heap.size W W2) (fun u => by simp only [fPut, Act.put, List.setIfInBounds_toArray, List.set_cons_succ, List.set_cons_zero, Nat.zero_add, Nat.reduceAdd]; rfl) (by kernel_rfl) (by kernel_rfl) (by kernel_rfl) (Below.drew (Below.refl _ _)) ?_
        apply each_read (fun _ => Below.refl _ _) rfl
        · intro u wv hC hf
          have z0 := (HFX.out _ hC).1
          have z1 := (HFX.out _ hC).2.1
          have z2 := (HFX.out _ hC).2.2
          have y0 := (HBXL.out _ hC).1
          have y1 := (HBXL.out _ hC).2.1
          have y2 := (HBXL.out _ hC).2.2
          clear hf
          go_simp
          try rfl
        apply each_read (fun _ => Below.refl _ _) rfl
        · intro u wv hC hf
          have z0 := (HFX.out _ hC).1
          have z1 := (HFX.out _ hC).2.1
          have z2 := (HFX.out _ hC).2.2
          have y0 := (HBXL.out _ hC).1
          have y1 := (HBXL.out _ hC).2.1
          have y2 := (HBXL.out _ hC).2.2
          obtain ⟨d0_0, -⟩ := hf
          have e0 : u 0 = _ := d0_0 rfl
          clear d0_0
          go_simp
          try rfl
        conv => arg 8; simp only [List.cons_append, List.nil_append]
        apply each_read (fun _ => Below.refl _ _) rfl
        · intro u wv hC hf
          have z0 := (HFX.out _ hC).1
          have z1 := (HFX.out _ hC).2.1
          have z2 := (HFX.out _ hC).2.2
          have y0 := (HBXL.out _ hC).1
          have y1 := (HBXL.out _ hC).2.1
          have y2 := (HBXL.out _ hC).2.2
          clear hf
          go_simp
          try rfl
        conv => arg 8; simp only [List.cons_append, List.nil_append]
        apply each_read (fun _ => Below.refl _ _) rfl
        · intro u wv hC hf
          have z0 := (HFX.out _ hC).1
          have z1 := (HFX.out _ hC).2.1
          have z2 := (HFX.out _ hC).2.2
          have y0 := (HBXL.out _ hC).1
          have y1 := (HBXL.out _ hC).2.1
          have y2 := (HBXL.out _ hC).2.2
          obtain ⟨d2_0, -⟩ := hf
          have e2 : u 2 = _ := d2_0 rfl
          clear d2_0
          go_simp
          try rfl
        conv => arg 8; simp only [List.cons_append, List.nil_append]
        apply each_read (fun _ => Below.refl _ _) rfl
        · intro u wv hC hf
          have z0 := (HFX.out _ hC).1
          have z1 := (HFX.out _ hC).2.1
          have z2 := (HFX.out _ hC).2.2
          have y0 := (HBXL.out _ hC).1
          have y1 := (HBXL.out _ hC).2.1
          have y2 := (HBXL.out _ hC).2.2
          obtain ⟨d3_0, -⟩ := hf
          have e3 : u 3 = _ := d3_0 rfl
          clear d3_0
          go_simp
          try rfl
        conv => arg 8; simp only [List.cons_append, List.nil_append]
        apply each_callR rfl
        · intro u wv hC hf
          have z0 := (HFX.out _ hC).1
          have z1 := (HFX.out _ hC).2.1
          have z2 := (HFX.out _ hC).2.2
          have y0 := (HBXL.out _ hC).1
          have y1 := (HBXL.out _ hC).2.1
          have y2 := (HBXL.out _ hC).2.2
          obtain ⟨d1_0, d4_1, -⟩ := hf
          have e1 : u 1 = _ := d1_0 rfl
          clear d1_0
          have e4 : u 4 = _ := d4_1 rfl
          clear d4_1
          apply Exists.intro; apply Exists.intro; apply And.intro
          · go_simp; exact ⟨rfl, rfl⟩
          · refine (HI1.out _).mono ?_
            rintro e w3 ⟨rfl, rfl⟩
            exact ⟨rfl, hC, Below.refl _ _⟩
        conv => arg 8; simp only [List.cons_append, List.nil_append]
        apply each_read (fun _ => Below.refl _ _) rfl
        · intro u wv hC hf
          have z0 := (HFX.out _ hC).1
          have z1 := (HFX.out _ hC).2.1
          have z2 := (HFX.out _ hC).2.2
          have y0 := (HBXL.out _ hC).1
          have y1 := (HBXL.out _ hC).2.1
          have y2 := (HBXL.out _ hC).2.2
          obtain ⟨d5_0, -⟩ := hf
          have e5 : u 5 = _ := d5_0 rfl
          clear d5_0
          go_simp
          try rfl
        conv => arg 8; simp only [List.cons_append, List.nil_append]
        apply each_read (fun _ => Below.refl _ _) rfl
        · intro u wv hC hf
          have z0 := (HFX.out _ hC).1
          have z1 := (HFX.out _ hC).2.1
          have z2 := (HFX.out _ hC).2.2
          have y0 := (HBXL.out _ hC).1
          have y1 := (HBXL.out _ hC).2.1
          have y2 := (HBXL.out _ hC).2.2
          obtain ⟨d6_0, d5_1, -⟩ := hf
          have e6 : u 6 = _ := d6_0 rfl
          clear d6_0
          have e5 : u 5 = _ := d5_1 rfl
          clear d5_1
          go_simp
          try rfl
        conv => arg 8; simp only [List.cons_append, List.nil_append]
        apply each_readG (fun _ => Below.refl _ _)
        · intro u wv hC hf
          have z0 := (HFX.out _ hC).1
          have z1 := (HFX.out _ hC).2.1
          have z2 := (HFX.out _ hC).2.2
          have y0 := (HBXL.out _ hC).1
          have y1 := (HBXL.out _ hC).2.1
          have y2 := (HBXL.out _ hC).2.2
          obtain ⟨d7_0, -⟩ := hf
          have e7 : u 7 = _ := d7_0 rfl
          clear d7_0
          refine ⟨wanted_at rfl rfl rfl e7 rfl, ?_⟩
          go_simp
          try rfl
        conv => arg 8; simp only [List.cons_append, List.nil_append]
        apply each_readG (fun _ => Below.refl _ _)
        · intro u wv hC hf
          have z0 := (HFX.out _ hC).1
          have z1 := (HFX.out _ hC).2.1
          have z2 := (HFX.out _ hC).2.2
          have y0 := (HBXL.out _ hC).1
          have y1 := (HBXL.out _ hC).2.1
          have y2 := (HBXL.out _ hC).2.2
          obtain ⟨d8_0, d7_1, -⟩ := hf
          have e8 : u 8 = _ := d8_0 rfl
          clear d8_0
          have e7 : u 7 = _ := d7_1 rfl
          clear d7_1
          refine ⟨wanted_at rfl rfl rfl e7 rfl, ?_⟩
          go_simp
          try rfl
        conv => arg 8; simp only [List.cons_append, List.nil_append]
        apply each_readG (fun _ => Below.refl _ _)
        · intro u wv hC hf
          have z0 := (HFX.out _ hC).1
          have z1 := (HFX.out _ hC).2.1
          have z2 := (HFX.out _ hC).2.2
          have y0 := (HBXL.out _ hC).1
          have y1 := (HBXL.out _ hC).2.1
          have y2 := (HBXL.out _ hC).2.2
          obtain ⟨d7_0, -⟩ := hf
          have e7 : u 7 = _ := d7_0 rfl
          clear d7_0
          refine ⟨wanted_at rfl rfl rfl e7 rfl, ?_⟩
          go_simp
          try rfl
        conv => arg 8; simp only [List.cons_append, List.nil_append]
        apply each_readG (fun _ => Below.refl _ _)
        · intro u wv hC hf
          have z0 := (HFX.out _ hC).1
          have z1 := (HFX.out _ hC).2.1
          have z2 := (HFX.out _ hC).2.2
          have y0 := (HBXL.out _ hC).1
          have y1 := (HBXL.out _ hC).2.1
          have y2 := (HBXL.out _ hC).2.2
          obtain ⟨d10_0, d7_1, -⟩ := hf
          have e10 : u 10 = _ := d10_0 rfl
          clear d10_0
          have e7 : u 7 = _ := d7_1 rfl
          clear d7_1
          refine ⟨wanted_at rfl rfl rfl e7 rfl, ?_⟩
          go_simp
          try rfl
        conv => arg 8; simp only [List.cons_append, List.nil_append]
        apply each_readG (fun _ => Below.refl _ _)
        · intro u wv hC hf
          have z0 := (HFX.out _ hC).1
          have z1 := (HFX.out _ hC).2.1
          have z2 := (HFX.out _ hC).2.2
          have y0 := (HBXL.out _ hC).1
          have y1 := (HBXL.out _ hC).2.1
          have y2 := (HBXL.out _ hC).2.2
          obtain ⟨d11_0, d7_1, -⟩ := hf
          have e11 : u 11 = _ := d11_0 rfl
          clear d11_0
          have e7 : u 7 = _ := d7_1 rfl
          clear d7_1
          refine ⟨wanted_at rfl rfl rfl e7 rfl, ?_⟩
          go_simp
          try rfl
        conv => arg 8; simp only [List.cons_append, List.nil_append]
        apply each_callRG
        · intro u wv hC hf
          have z0 := (HFX.out _ hC).1
          have z1 := (HFX.out _ hC).2.1
          have z2 := (HFX.out _ hC).2.2
          have y0 := (HBXL.out _ hC).1
          have y1 := (HBXL.out _ hC).2.1
          have y2 := (HBXL.out _ hC).2.2
          obtain ⟨d9_0, d12_1, d7_2, d7_3, -⟩ := hf
          have e9 : u 9 = _ := d9_0 rfl
          clear d9_0
          have e12 : u 12 = _ := d12_1 rfl
          clear d12_1
          have e7 : u 7 = _ := d7_2 rfl
          clear d7_2
          clear d7_3
          refine ⟨wanted_at rfl rfl rfl e7 rfl, ?_⟩
          apply Exists.intro; apply Exists.intro; apply And.intro
          · go_simp; exact ⟨rfl, rfl⟩
          · refine (HI2.out _).mono ?_
            rintro e w3 ⟨rfl, rfl⟩
            exact ⟨rfl, hC, Below.refl _ _⟩
        conv => arg 8; simp only [List.cons_append, List.nil_append]
        apply each_readG (fun _ => Below.refl _ _)
        · intro u wv hC hf
          have z0 := (HFX.out _ hC).1
          have z1 := (HFX.out _ hC).2.1
          have z2 := (HFX.out _ hC).2.2
          have y0 := (HBXL.out _ hC).1
          have y1 := (HBXL.out _ hC).2.1
          have y2 := (HBXL.out _ hC).2.2
          obtain ⟨d13_0, d7_1, -⟩ := hf
          have e13 : u 13 = _ := d13_0 rfl
          clear d13_0
          have e7 : u 7 = _ := d7_1 rfl
          clear d7_1
          refine ⟨wanted_at rfl rfl rfl e7 rfl, ?_⟩
          go_simp
          try rfl
        conv => arg 8; simp only [List.cons_append, List.nil_append]
        apply each_read (fun _ => Below.refl _ _) rfl
        · intro u wv hC hf
          have z0 := (HFX.out _ hC).1
          have z1 := (HFX.out _ hC).2.1
          have z2 := (HFX.out _ hC).2.2
          have y0 := (HBXL.out _ hC).1
          have y1 := (HBXL.out _ hC).2.1
          have y2 := (HBXL.out _ hC).2.2
          obtain ⟨d7_0, d14_1, -⟩ := hf
          have e7 : u 7 = _ := d7_0 rfl
          clear d7_0
          have e14 : u 14 = _ := d14_1 rfl
          clear d14_1
          go_simp
          try rfl
        conv => arg 8; simp only [List.cons_append, List.nil_append]
        apply each_read (fun _ => Below.refl _ _) rfl
        · intro u wv hC hf
          have z0 := (HFX.out _ hC).1
          have z1 := (HFX.out _ hC).2.1
          have z2 := (HFX.out _ hC).2.2
          have y0 := (HBXL.out _ hC).1
          have y1 := (HBXL.out _ hC).2.1
          have y2 := (HBXL.out _ hC).2.2
          obtain ⟨d15_0, d13_1, -⟩ := hf
          have e15 : u 15 = _ := d15_0 rfl
          clear d15_0
          have e13 : u 13 = _ := d13_1 rfl
          clear d13_1
          go_simp
          try rfl
        conv => arg 8; simp only [List.cons_append, List.nil_append]
        apply each_readG (fun _ => Below.refl _ _)
        · intro u wv hC hf
          have z0 := (HFX.out _ hC).1
          have z1 := (HFX.out _ hC).2.1
          have z2 := (HFX.out _ hC).2.2
          have y0 := (HBXL.out _ hC).1
          have y1 := (HBXL.out _ hC).2.1
          have y2 := (HBXL.out _ hC).2.2
          obtain ⟨d16_0, -⟩ := hf
          have e16 : u 16 = _ := d16_0 rfl
          clear d16_0
          refine ⟨wanted_at rfl rfl rfl e16 rfl, ?_⟩
          go_simp
          try rfl
        conv => arg 8; simp only [List.cons_append, List.nil_append]
        apply each_readG (fun _ => Below.refl _ _)
        · intro u wv hC hf
          have z0 := (HFX.out _ hC).1
          have z1 := (HFX.out _ hC).2.1
          have z2 := (HFX.out _ hC).2.2
          have y0 := (HBXL.out _ hC).1
          have y1 := (HBXL.out _ hC).2.1
          have y2 := (HBXL.out _ hC).2.2
          obtain ⟨d17_0, d16_1, -⟩ := hf
          have e17 : u 17 = _ := d17_0 rfl
          clear d17_0
          have e16 : u 16 = _ := d16_1 rfl
          clear d16_1
          refine ⟨wanted_at rfl rfl rfl e16 rfl, ?_⟩
          go_simp
          try rfl
        conv => arg 8; simp only [List.cons_append, List.nil_append]
        apply each_readG (fun _ => Below.refl _ _)
        · intro u wv hC hf
          have z0 := (HFX.out _ hC).1
          have z1 := (HFX.out _ hC).2.1
          have z2 := (HFX.out _ hC).2.2
          have y0 := (HBXL.out _ hC).1
          have y1 := (HBXL.out _ hC).2.1
          have y2 := (HBXL.out _ hC).2.2
          obtain ⟨d16_0, -⟩ := hf
          have e16 : u 16 = _ := d16_0 rfl
          clear d16_0
          refine ⟨wanted_at rfl rfl rfl e16 rfl, ?_⟩
          go_simp
          try rfl
        conv => arg 8; simp only [List.cons_append, List.nil_append]
        apply each_readG (fun _ => Below.refl _ _)
        · intro u wv hC hf
          have z0 := (HFX.out _ hC).1
          have z1 := (HFX.out _ hC).2.1
          have z2 := (HFX.out _ hC).2.2
          have y0 := (HBXL.out _ hC).1
          have y1 := (HBXL.out _ hC).2.1
          have y2 := (HBXL.out _ hC).2.2
          obtain ⟨d19_0, d16_1, -⟩ := hf
          have e19 : u 19 = _ := d19_0 rfl
          clear d19_0
          have e16 : u 16 = _ := d16_1 rfl
          clear d16_1
          refine ⟨wanted_at rfl rfl rfl e16 rfl, ?_⟩
          go_simp
          try rfl
        conv => arg 8; simp only [List.cons_append, List.nil_append]
        apply each_readG (fun _ => Below.refl _ _)
        · intro u wv hC hf
          have z0 := (HFX.out _ hC).1
          have z1 := (HFX.out _ hC).2.1
          have z2 := (HFX.out _ hC).2.2
          have y0 := (HBXL.out _ hC).1
          have y1 := (HBXL.out _ hC).2.1
          have y2 := (HBXL.out _ hC).2.2
          obtain ⟨d20_0, d16_1, -⟩ := hf
          have e20 : u 20 = _ := d20_0 rfl
          clear d20_0
          have e16 : u 16 = _ := d16_1 rfl
          clear d16_1
          refine ⟨wanted_at rfl rfl rfl e16 rfl, ?_⟩
          go_simp
          try rfl
        conv => arg 8; simp only [List.cons_append, List.nil_append]
        apply each_callRG
        · intro u wv hC hf
          have z0 := (HFX.out _ hC).1
          have z1 := (HFX.out _ hC).2.1
          have z2 := (HFX.out _ hC).2.2
          have y0 := (HBXL.out _ hC).1
          have y1 := (HBXL.out _ hC).2.1
          have y2 := (HBXL.out _ hC).2.2
          obtain ⟨d18_0, d21_1, d16_2, d16_3, -⟩ := hf
          have e18 : u 18 = _ := d18_0 rfl
          clear d18_0
          have e21 : u 21 = _ := d21_1 rfl
          clear d21_1
          have e16 : u 16 = _ := d16_2 rfl
          clear d16_2
          clear d16_3
          refine ⟨wanted_at rfl rfl rfl e16 rfl, ?_⟩
          apply Exists.intro; apply Exists.intro; apply And.intro
          · go_simp; exact ⟨rfl, rfl⟩
          · refine (HI3.out _).mono ?_
            rintro e w3 ⟨rfl, rfl⟩
            exact ⟨rfl, hC, Below.refl _ _⟩
        conv => arg 8; simp only [List.cons_append, List.nil_append]
        apply each_readG (fun _ => Below.refl _ _)
        · intro u wv hC hf
          have z0 := (HFX.out _ hC).1
          have z1 := (HFX.out _ hC).2.1
          have z2 := (HFX.out _ hC).2.2
          have y0 := (HBXL.out _ hC).1
          have y1 := (HBXL.out _ hC).2.1
          have y2 := (HBXL.out _ hC).2.2
          obtain ⟨d22_0, d16_1, -⟩ := hf
          have e22 : u 22 = _ := d22_0 rfl
          clear d22_0
          have e16 : u 16 = _ := d16_1 rfl
          clear d16_1
          refine ⟨wanted_at rfl rfl rfl e16 rfl, ?_⟩
          go_simp
          try rfl
        conv => arg 8; simp only [List.cons_append, List.nil_append]
        apply each_read (fun _ => Below.refl _ _) rfl
        · intro u wv hC hf
          have z0 := (HFX.out _ hC).1
          have z1 := (HFX.out _ hC).2.1
          have z2 := (HFX.out _ hC).2.2
          have y0 := (HBXL.out _ hC).1
          have y1 := (HBXL.out _ hC).2.1
          have y2 := (HBXL.out _ hC).2.2
          obtain ⟨d16_0, d23_1, -⟩ := hf
          have e16 : u 16 = _ := d16_0 rfl
          clear d16_0
          have e23 : u 23 = _ := d23_1 rfl
          clear d23_1
          go_simp
          try rfl
        conv => arg 8; simp only [List.cons_append, List.nil_append]
        apply each_read (fun _ => Below.refl _ _) rfl
        · intro u wv hC hf
          have z0 := (HFX.out _ hC).1
          have z1 := (HFX.out _ hC).2.1
          have z2 := (HFX.out _ hC).2.2
          have y0 := (HBXL.out _ hC).1
          have y1 := (HBXL.out _ hC).2.1
          have y2 := (HBXL.out _ hC).2.2
          obtain ⟨d24_0, d22_1, -⟩ := hf
          have e24 : u 24 = _ := d24_0 rfl
          clear d24_0
          have e22 : u 22 = _ := d22_1 rfl
          clear d22_1
          go_simp
          try rfl
        conv => arg 8; simp only [List.cons_append, List.nil_append]
        apply each_readG (fun _ => Below.refl _ _)
        · intro u wv hC hf
          have z0 := (HFX.out _ hC).1
          have z1 := (HFX.out _ hC).2.1
          have z2 := (HFX.out _ hC).2.2
          have y0 := (HBXL.out _ hC).1
          have y1 := (HBXL.out _ hC).2.1
          have y2 := (HBXL.out _ hC).2.2
          obtain ⟨d25_0, -⟩ := hf
          have e25 : u 25 = _ := d25_0 rfl
          clear d25_0
          refine ⟨wanted_at rfl rfl rfl e25 rfl, ?_⟩
          go_simp
          try rfl
        conv => arg 8; simp only [List.cons_append, List.nil_append]
        apply each_readG (fun _ => Below.refl _ _)
        · intro u wv hC hf
          have z0 := (HFX.out _ hC).1
          have z1 := (HFX.out _ hC).2.1
          have z2 := (HFX.out _ hC).2.2
          have y0 := (HBXL.out _ hC).1
          have y1 := (HBXL.out _ hC).2.1
          have y2 := (HBXL.out _ hC).2.2
          obtain ⟨d26_0, d25_1, -⟩ := hf
          have e26 : u 26 = _ := d26_0 rfl
          clear d26_0
          have e25 : u 25 = _ := d25_1 rfl
          clear d25_1
          refine ⟨wanted_at rfl rfl rfl e25 rfl, ?_⟩
          go_simp
          try rfl
        conv => arg 8; simp only [List.cons_append, List.nil_append]
        apply each_readG (fun _ => Below.refl _ _)
        · intro u wv hC hf
          have z0 := (HFX.out _ hC).1
          have z1 := (HFX.out _ hC).2.1
          have z2 := (HFX.out _ hC).2.2
          have y0 := (HBXL.out _ hC).1
          have y1 := (HBXL.out _ hC).2.1
          have y2 := (HBXL.out _ hC).2.2
          obtain ⟨d27_0, d25_1, d25_2, -⟩ := hf
          have e27 : u 27 = _ := d27_0 rfl
          clear d27_0
          have e25 : u 25 = _ := d25_1 rfl
          clear d25_1
          clear d25_2
          refine ⟨wanted_at rfl rfl rfl e25 rfl, ?_⟩
          go_simp
          try rfl
        conv => arg 8; simp only [List.cons_append, List.nil_append]
        refine each_off ?_ ?_
        · intro u wv hC hf
          obtain ⟨d28_0, -⟩ := hf
          have e28 : u 28 = _ := d28_0 rfl
          clear d28_0
          exact wanted_at rfl rfl rfl e28 rfl
        conv => arg 8; simp only [List.cons_append, List.nil_append]
        refine each_off ?_ ?_
        · intro u wv hC hf
          obtain ⟨d29_0, d28_1, -⟩ := hf
          have e29 : u 29 = _ := d29_0 rfl
          clear d29_0
          have e28 : u 28 = _ := d28_1 rfl
          clear d28_1
          exact wanted_at rfl rfl rfl e28 rfl
        conv => arg 8; simp only [List.cons_append, List.nil_append]
        refine each_off ?_ ?_
        · intro u wv hC hf
          obtain ⟨d28_0, -⟩ := hf
          have e28 : u 28 = _ := d28_0 rfl
          clear d28_0
          exact wanted_at rfl rfl rfl e28 rfl
        conv => arg 8; simp only [List.cons_append, List.nil_append]
        refine each_off ?_ ?_
        · intro u wv hC hf
          obtain ⟨d31_0, d28_1, -⟩ := hf
          have e31 : u 31 = _ := d31_0 rfl
          clear d31_0
          have e28 : u 28 = _ := d28_1 rfl
          clear d28_1
          exact wanted_at rfl rfl rfl e28 rfl
        conv => arg 8; simp only [List.cons_append, List.nil_append]
        refine each_off ?_ ?_
        · intro u wv hC hf
          obtain ⟨d30_0, d32_1, d28_2, -⟩ := hf
          have e30 : u 30 = _ := d30_0 rfl
          clear d30_0
          have e32 : u 32 = _ := d32_1 rfl
          clear d32_1
          have e28 : u 28 = _ := d28_2 rfl
          clear d28_2
          exact wanted_at rfl rfl rfl e28 rfl
        conv => arg 8; simp only [List.cons_append, List.nil_append]
        refine each_off ?_ ?_
        · intro u wv hC hf
          obtain ⟨d33_0, d28_1, -⟩ := hf
          have e33 : u 33 = _ := d33_0 rfl
          clear d33_0
          have e28 : u 28 = _ := d28_1 rfl
          clear d28_1
          exact wanted_at rfl rfl rfl e28 rfl
        conv => arg 8; simp only [List.cons_append, List.nil_append]
        refine each_off ?_ ?_
        · intro u wv hC hf
          obtain ⟨d28_0, -⟩ := hf
          have e28 : u 28 = _ := d28_0 rfl
          clear d28_0
          exact wanted_at rfl rfl rfl e28 rfl
        conv => arg 8; simp only [List.cons_append, List.nil_append]
        refine each_off ?_ ?_
        · intro u wv hC hf
          obtain ⟨d34_0, d35_1, d28_2, d28_3, -⟩ := hf
          have e34 : u 34 = _ := d34_0 rfl
          clear d34_0
          have e35 : u 35 = _ := d35_1 rfl
          clear d35_1
          have e28 : u 28 = _ := d28_2 rfl
          clear d28_2
          clear d28_3
          exact wanted_at rfl rfl rfl e28 rfl
        conv => arg 8; simp only [List.cons_append, List.nil_append]
        refine each_off ?_ ?_
        · intro u wv hC hf
          obtain ⟨d36_0, d28_1, -⟩ := hf
          have e36 : u 36 = _ := d36_0 rfl
          clear d36_0
          have e28 : u 28 = _ := d28_1 rfl
          clear d28_1
          exact wanted_at rfl rfl rfl e28 rfl
        conv => arg 8; simp only [List.cons_append, List.nil_append]
        apply each_readG (fun _ => Below.refl _ _)
        · intro u wv hC hf
          have z0 := (HFX.out _ hC).1
          have z1 := (HFX.out _ hC).2.1
          have z2 := (HFX.out _ hC).2.2
          have y0 := (HBXL.out _ hC).1
          have y1 := (HBXL.out _ hC).2.1
          have y2 := (HBXL.out _ hC).2.2
          obtain ⟨d28_0, d37_1, d25_2, -⟩ := hf
          have e28 : u 28 = _ := d28_0 rfl
          clear d28_0
          have e37 : u 37 = _ := d37_1 rfl
          clear d37_1
          have e25 : u 25 = _ := d25_2 rfl
          clear d25_2
          refine ⟨wanted_at rfl rfl rfl e25 rfl, ?_⟩
          go_simp
          try rfl
        conv => arg 8; simp only [List.cons_append, List.nil_append]
        apply each_read (fun _ => Below.refl _ _) rfl
        · intro u wv hC hf
          have z0 := (HFX.out _ hC).1
          have z1 := (HFX.out _ hC).2.1
          have z2 := (HFX.out _ hC).2.2
          have y0 := (HBXL.out _ hC).1
          have y1 := (HBXL.out _ hC).2.1
          have y2 := (HBXL.out _ hC).2.2
          obtain ⟨d25_0, d38_1, -⟩ := hf
          have e25 : u 25 = _ := d25_0 rfl
          clear d25_0
          have e38 : u 38 = _ := d38_1 rfl
          clear d38_1
          go_simp
          try rfl
        intro u w7 d1 hall
        obtain ⟨a0, a1, a2, a3, a4, a5, a6, a7, a8, a9, a10, a11, a12, a13, a14, a15, a16, a17, a18, a19, a20, a21, a22, a23, a24, a25, a26, a27, a28, a29, a30, a31, a32, a33, a34, a35, a36, a37, a38, a39, -⟩ := hall
        have e0 : u 0 = _ := a0
        clear a0
        have e1 : u 1 = _ := a1
        clear a1
        have e2 : u 2 = _ := a2
        clear a2
        have e3 : u 3 = _ := a3
        clear a3
        have e4 : u 4 = _ := a4
        clear a4
        have e5 : u 5 = _ := a5
        clear a5
        have e6 : u 6 = _ := a6
        clear a6
        have e7 : u 7 = _ := a7
        clear a7
        have e8 : u 8 = _ := a8
        clear a8
        have e9 : u 9 = _ := a9
        clear a9
        have e10 : u 10 = _ := a10
        clear a10
        have e11 : u 11 = _ := a11
        clear a11
        have e12 : u 12 = _ := a12
        clear a12
        have e13 : u 13 = _ := a13
        clear a13
        have e14 : u 14 = _ := a14
        clear a14
        have e15 : u 15 = _ := a15
        clear a15
        have e16 : u 16 = _ := a16
        clear a16
        have e17 : u 17 = _ := a17
        clear a17
        have e18 : u 18 = _ := a18
        clear a18
        have e19 : u 19 = _ := a19
        clear a19
        have e20 : u 20 = _ := a20
        clear a20
        have e21 : u 21 = _ := a21
        clear a21
        have e22 : u 22 = _ := a22
        clear a22
        have e23 : u 23 = _ := a23
        clear a23
        have e24 : u 24 = _ := a24
        clear a24
        have e25 : u 25 = _ := a25
        clear a25
        have e26 : u 26 = _ := a26
        clear a26
        have e27 : u 27 = _ := a27
        clear a27
        have e28 : u 28 = _ := a28
        clear a28
        have e29 : u 29 = _ := a29
        clear a29
        have e30 : u 30 = _ := a30
        clear a30
        have e31 : u 31 = _ := a31
        clear a31
        have e32 : u 32 = _ := a32
        clear a32
        have e33 : u 33 = _ := a33
        clear a33
        have e34 : u 34 = _ := a34
        clear a34
        have e35 : u 35 = _ := a35
        clear a35
        have e36 : u 36 = _ := a36
        clear a36
        have e37 : u 37 = _ := a37
        clear a37
        have e38 : u 38 = _ := a38
        clear a38
        have e39 : u 39 = _ := a39
        clear a39
        simp only [e0, e1, e2, e3, e4, e5, e6, e7, e8, e9, e10, e11, e12, e13, e14, e15, e16, e17, e18, e19, e20, e21, e22, e23, e24, e25, e26, e27, e28, e29, e30, e31, e32, e33, e34, e35, e36, e37, e38, e39]
        clear e0 e1 e2 e3 e4 e5 e6 e7 e8 e9 e10 e11 e12 e13 e14 e15 e16 e17 e18 e19 e20 e21 e22 e23 e24 e25 e26 e27 e28 e29 e30 e31 e32 e33 e34 e35 e36 e37 e38 e39
        have D1 := Lib.hid d1
        have HW7 := Lib.hid (Below.now HBW2.out d1)
        clear d1
        have hicap : (i : Int) ≤ (cap : Int) := by omega
        obtain ⟨y0, y1, y2⟩ := HBXL.out w7 D1.out
        obtain ⟨z0, z1, z2⟩ := HFX.out w7 D1.out
        have HK7 := Lib.hid (fun W (hW : Below w7.heap.size w7 W) => HBXL.out W (Below.now D1.out hW))
        go_wp2_with fail
        go_loopw [70] (fun v70 wr => ∃ j : Nat, j ≤ i ∧ v70 = .int .i64 (j : Nat) ∧ Hid (Below w7.heap.size w7 wr)) (fun v70 _ => i - (intOf v70).toNat)
        case atStart => exact ⟨0, Nat.zero_le _, rfl, Lib.hid (Below.refl _ _)⟩
        case round =>
          clear y0 y1 y2 z0 z1 z2
          obtain ⟨j, hj, rfl, HBJ⟩ := hrel
          by_cases hji : j < i
          · exfalso; omega
          · have HW8 := Lib.hid (Below.now HW7.out HBJ.out)
            go_wp2_with fail
            go_roundw
            case rel => exact ⟨i + 1, by omega, by go_num, HW8⟩
            case measure => simp [intOf]; omega
      · obtain ⟨i1, hi1⟩ : ∃ i1, i = i1 + 1 := ⟨i - 1, by omega⟩
        have hg0 : decide ((0 : Int) < (i : Int)) = true := by rw [decide_eq_true_iff]; omega
        have hg0n : decide (0 < i) = true := by rw [decide_eq_true_iff]; omega
        have hil1 : i1 < L.length := by omega
        have his : (i : Int) - 1 = (i1 : Int) := by omega
        have hwi : IntKind.i64.wrap (i1 : Int) = (i1 : Int) := IntWalk.i64_in _ ⟨by omega, by omega⟩
        have hib : (i1 : Int) < (L.length : Int) := by omega
        have HLT := Lib.hid (HPU.out i1 hil1 hi1)
        have HPL : Hid (∀ W, Below wb.heap.size wb W → W.cell? ⟨b0, off + i1 * 3, none⟩ = some (.int .i64 ((L[i1].1 : Nat) : Int)) ∧ W.cell? ⟨b0, off + i1 * 3 + 1, none⟩ = some (.int .i64 ((L[i1].2.1 : Nat) : Int)) ∧ W.cell? ⟨b0, off + i1 * 3 + 2, none⟩ = some (.int .i64 ((L[i1].2.2 : Nat) : Int))) := Lib.hid (fun W hW => HCA.out W (Below.now HBW2.out hW) i1 hil1)
        obtain ⟨⟨p1, p2, p3⟩, hfp⟩ : ∃ x, L[i1] = x := ⟨_, rfl⟩
        rw [hfp] at HPL HLT
        have HLS : Hid (∀ W, Calls Tryd.prog 63 #[.agg #[.int .i64 ((p1 : Nat) : Int), .int .i64 ((p2 : Nat) : Int), .int .i64 ((p3 : Nat) : Int)], .agg #[.int .i64 ((a1 : Nat) : Int), .int .i64 ((a2 : Nat) : Int), .int .i64 ((a3 : Nat) : Int)]] W fun e w' => e = .returned (.bool true) ∧ Below W.heap.size W w') := Lib.hid (fun W => by
          have h := l25Less_any (p1, p2, p3) (a1, a2, a3) W
          rw [HLT.out] at h
          exact h)
        have HPS := Lib.hid hi1
        clear hfp hi1
        refine region_each (fun W => Below wb.heap.size wb W) (fun W W2 => Below W.heap.size W W2) (fun u => by simp only [fPut, Act.put, List.setIfInBounds_toArray, List.set_cons_succ, List.set_cons_zero, Nat.zero_add, Nat.reduceAdd]; rfl) (by kernel_rfl) (by kernel_rfl) (by kernel_rfl) (Below.drew (Below.refl _ _)) ?_
        apply each_read (fun _ => Below.refl _ _) rfl
        · intro u wv hC hf
          have z0 := (HFX.out _ hC).1
          have z1 := (HFX.out _ hC).2.1
          have z2 := (HFX.out _ hC).2.2
          have y0 := (HBXL.out _ hC).1
          have y1 := (HBXL.out _ hC).2.1
          have y2 := (HBXL.out _ hC).2.2
          have x0 := (HPL.out _ hC).1
          have x1 := (HPL.out _ hC).2.1
          have x2 := (HPL.out _ hC).2.2
          clear hf
          go_simp
          try rfl
        apply each_read (fun _ => Below.refl _ _) rfl
        · intro u wv hC hf
          have z0 := (HFX.out _ hC).1
          have z1 := (HFX.out _ hC).2.1
          have z2 := (HFX.out _ hC).2.2
          have y0 := (HBXL.out _ hC).1
          have y1 := (HBXL.out _ hC).2.1
          have y2 := (HBXL.out _ hC).2.2
          have x0 := (HPL.out _ hC).1
          have x1 := (HPL.out _ hC).2.1
          have x2 := (HPL.out _ hC).2.2
          obtain ⟨d0_0, -⟩ := hf
          have e0 : u 0 = _ := d0_0 rfl
          clear d0_0
          go_simp
          try rfl
        conv => arg 8; simp only [List.cons_append, List.nil_append]
        apply each_read (fun _ => Below.refl _ _) rfl
        · intro u wv hC hf
          have z0 := (HFX.out _ hC).1
          have z1 := (HFX.out _ hC).2.1
          have z2 := (HFX.out _ hC).2.2
          have y0 := (HBXL.out _ hC).1
          have y1 := (HBXL.out _ hC).2.1
          have y2 := (HBXL.out _ hC).2.2
          have x0 := (HPL.out _ hC).1
          have x1 := (HPL.out _ hC).2.1
          have x2 := (HPL.out _ hC).2.2
          clear hf
          go_simp
          try rfl
        conv => arg 8; simp only [List.cons_append, List.nil_append]
        apply each_read (fun _ => Below.refl _ _) rfl
        · intro u wv hC hf
          have z0 := (HFX.out _ hC).1
          have z1 := (HFX.out _ hC).2.1
          have z2 := (HFX.out _ hC).2.2
          have y0 := (HBXL.out _ hC).1
          have y1 := (HBXL.out _ hC).2.1
          have y2 := (HBXL.out _ hC).2.2
          have x0 := (HPL.out _ hC).1
          have x1 := (HPL.out _ hC).2.1
          have x2 := (HPL.out _ hC).2.2
          obtain ⟨d2_0, -⟩ := hf
          have e2 : u 2 = _ := d2_0 rfl
          clear d2_0
          go_simp
          try rfl
        conv => arg 8; simp only [List.cons_append, List.nil_append]
        apply each_read (fun _ => Below.refl _ _) rfl
        · intro u wv hC hf
          have z0 := (HFX.out _ hC).1
          have z1 := (HFX.out _ hC).2.1
          have z2 := (HFX.out _ hC).2.2
          have y0 := (HBXL.out _ hC).1
          have y1 := (HBXL.out _ hC).2.1
          have y2 := (HBXL.out _ hC).2.2
          have x0 := (HPL.out _ hC).1
          have x1 := (HPL.out _ hC).2.1
          have x2 := (HPL.out _ hC).2.2
          obtain ⟨d3_0, -⟩ := hf
          have e3 : u 3 = _ := d3_0 rfl
          clear d3_0
          go_simp
          try rfl
        conv => arg 8; simp only [List.cons_append, List.nil_append]
        apply each_callR rfl
        · intro u wv hC hf
          have z0 := (HFX.out _ hC).1
          have z1 := (HFX.out _ hC).2.1
          have z2 := (HFX.out _ hC).2.2
          have y0 := (HBXL.out _ hC).1
          have y1 := (HBXL.out _ hC).2.1
          have y2 := (HBXL.out _ hC).2.2
          have x0 := (HPL.out _ hC).1
          have x1 := (HPL.out _ hC).2.1
          have x2 := (HPL.out _ hC).2.2
          obtain ⟨d1_0, d4_1, -⟩ := hf
          have e1 : u 1 = _ := d1_0 rfl
          clear d1_0
          have e4 : u 4 = _ := d4_1 rfl
          clear d4_1
          apply Exists.intro; apply Exists.intro; apply And.intro
          · go_simp; exact ⟨rfl, rfl⟩
          · refine (HI1.out _).mono ?_
            rintro e w3 ⟨rfl, rfl⟩
            exact ⟨rfl, hC, Below.refl _ _⟩
        conv => arg 8; simp only [List.cons_append, List.nil_append]
        apply each_read (fun _ => Below.refl _ _) rfl
        · intro u wv hC hf
          have z0 := (HFX.out _ hC).1
          have z1 := (HFX.out _ hC).2.1
          have z2 := (HFX.out _ hC).2.2
          have y0 := (HBXL.out _ hC).1
          have y1 := (HBXL.out _ hC).2.1
          have y2 := (HBXL.out _ hC).2.2
          have x0 := (HPL.out _ hC).1
          have x1 := (HPL.out _ hC).2.1
          have x2 := (HPL.out _ hC).2.2
          obtain ⟨d5_0, -⟩ := hf
          have e5 : u 5 = _ := d5_0 rfl
          clear d5_0
          go_simp
          try rfl
        conv => arg 8; simp only [List.cons_append, List.nil_append]
        apply each_read (fun _ => Below.refl _ _) rfl
        · intro u wv hC hf
          have z0 := (HFX.out _ hC).1
          have z1 := (HFX.out _ hC).2.1
          have z2 := (HFX.out _ hC).2.2
          have y0 := (HBXL.out _ hC).1
          have y1 := (HBXL.out _ hC).2.1
          have y2 := (HBXL.out _ hC).2.2
          have x0 := (HPL.out _ hC).1
          have x1 := (HPL.out _ hC).2.1
          have x2 := (HPL.out _ hC).2.2
          obtain ⟨d6_0, d5_1, -⟩ := hf
          have e6 : u 6 = _ := d6_0 rfl
          clear d6_0
          have e5 : u 5 = _ := d5_1 rfl
          clear d5_1
          go_simp
          try rfl
        conv => arg 8; simp only [List.cons_append, List.nil_append]
        apply each_readG (fun _ => Below.refl _ _)
        · intro u wv hC hf
          have z0 := (HFX.out _ hC).1
          have z1 := (HFX.out _ hC).2.1
          have z2 := (HFX.out _ hC).2.2
          have y0 := (HBXL.out _ hC).1
          have y1 := (HBXL.out _ hC).2.1
          have y2 := (HBXL.out _ hC).2.2
          have x0 := (HPL.out _ hC).1
          have x1 := (HPL.out _ hC).2.1
          have x2 := (HPL.out _ hC).2.2
          obtain ⟨d7_0, -⟩ := hf
          have e7 : u 7 = _ := d7_0 rfl
          clear d7_0
          refine ⟨wanted_at rfl rfl rfl e7 rfl, ?_⟩
          go_simp
          try rfl
        conv => arg 8; simp only [List.cons_append, List.nil_append]
        apply each_readG (fun _ => Below.refl _ _)
        · intro u wv hC hf
          have z0 := (HFX.out _ hC).1
          have z1 := (HFX.out _ hC).2.1
          have z2 := (HFX.out _ hC).2.2
          have y0 := (HBXL.out _ hC).1
          have y1 := (HBXL.out _ hC).2.1
          have y2 := (HBXL.out _ hC).2.2
          have x0 := (HPL.out _ hC).1
          have x1 := (HPL.out _ hC).2.1
          have x2 := (HPL.out _ hC).2.2
          obtain ⟨d8_0, d7_1, -⟩ := hf
          have e8 : u 8 = _ := d8_0 rfl
          clear d8_0
          have e7 : u 7 = _ := d7_1 rfl
          clear d7_1
          refine ⟨wanted_at rfl rfl rfl e7 rfl, ?_⟩
          go_simp
          try rfl
        conv => arg 8; simp only [List.cons_append, List.nil_append]
        apply each_readG (fun _ => Below.refl _ _)
        · intro u wv hC hf
          have z0 := (HFX.out _ hC).1
          have z1 := (HFX.out _ hC).2.1
          have z2 := (HFX.out _ hC).2.2
          have y0 := (HBXL.out _ hC).1
          have y1 := (HBXL.out _ hC).2.1
          have y2 := (HBXL.out _ hC).2.2
          have x0 := (HPL.out _ hC).1
          have x1 := (HPL.out _ hC).2.1
          have x2 := (HPL.out _ hC).2.2
          obtain ⟨d7_0, -⟩ := hf
          have e7 : u 7 = _ := d7_0 rfl
          clear d7_0
          refine ⟨wanted_at rfl rfl rfl e7 rfl, ?_⟩
          go_simp
          try rfl
        conv => arg 8; simp only [List.cons_append, List.nil_append]
        apply each_readG (fun _ => Below.refl _ _)
        · intro u wv hC hf
          have z0 := (HFX.out _ hC).1
          have z1 := (HFX.out _ hC).2.1
          have z2 := (HFX.out _ hC).2.2
          have y0 := (HBXL.out _ hC).1
          have y1 := (HBXL.out _ hC).2.1
          have y2 := (HBXL.out _ hC).2.2
          have x0 := (HPL.out _ hC).1
          have x1 := (HPL.out _ hC).2.1
          have x2 := (HPL.out _ hC).2.2
          obtain ⟨d10_0, d7_1, -⟩ := hf
          have e10 : u 10 = _ := d10_0 rfl
          clear d10_0
          have e7 : u 7 = _ := d7_1 rfl
          clear d7_1
          refine ⟨wanted_at rfl rfl rfl e7 rfl, ?_⟩
          go_simp
          try rfl
        conv => arg 8; simp only [List.cons_append, List.nil_append]
        apply each_readG (fun _ => Below.refl _ _)
        · intro u wv hC hf
          have z0 := (HFX.out _ hC).1
          have z1 := (HFX.out _ hC).2.1
          have z2 := (HFX.out _ hC).2.2
          have y0 := (HBXL.out _ hC).1
          have y1 := (HBXL.out _ hC).2.1
          have y2 := (HBXL.out _ hC).2.2
          have x0 := (HPL.out _ hC).1
          have x1 := (HPL.out _ hC).2.1
          have x2 := (HPL.out _ hC).2.2
          obtain ⟨d11_0, d7_1, -⟩ := hf
          have e11 : u 11 = _ := d11_0 rfl
          clear d11_0
          have e7 : u 7 = _ := d7_1 rfl
          clear d7_1
          refine ⟨wanted_at rfl rfl rfl e7 rfl, ?_⟩
          go_simp
          try rfl
        conv => arg 8; simp only [List.cons_append, List.nil_append]
        apply each_callRG
        · intro u wv hC hf
          have z0 := (HFX.out _ hC).1
          have z1 := (HFX.out _ hC).2.1
          have z2 := (HFX.out _ hC).2.2
          have y0 := (HBXL.out _ hC).1
          have y1 := (HBXL.out _ hC).2.1
          have y2 := (HBXL.out _ hC).2.2
          have x0 := (HPL.out _ hC).1
          have x1 := (HPL.out _ hC).2.1
          have x2 := (HPL.out _ hC).2.2
          obtain ⟨d9_0, d12_1, d7_2, d7_3, -⟩ := hf
          have e9 : u 9 = _ := d9_0 rfl
          clear d9_0
          have e12 : u 12 = _ := d12_1 rfl
          clear d12_1
          have e7 : u 7 = _ := d7_2 rfl
          clear d7_2
          clear d7_3
          refine ⟨wanted_at rfl rfl rfl e7 rfl, ?_⟩
          apply Exists.intro; apply Exists.intro; apply And.intro
          · go_simp; exact ⟨rfl, rfl⟩
          · refine (HI2.out _).mono ?_
            rintro e w3 ⟨rfl, rfl⟩
            exact ⟨rfl, hC, Below.refl _ _⟩
        conv => arg 8; simp only [List.cons_append, List.nil_append]
        apply each_readG (fun _ => Below.refl _ _)
        · intro u wv hC hf
          have z0 := (HFX.out _ hC).1
          have z1 := (HFX.out _ hC).2.1
          have z2 := (HFX.out _ hC).2.2
          have y0 := (HBXL.out _ hC).1
          have y1 := (HBXL.out _ hC).2.1
          have y2 := (HBXL.out _ hC).2.2
          have x0 := (HPL.out _ hC).1
          have x1 := (HPL.out _ hC).2.1
          have x2 := (HPL.out _ hC).2.2
          obtain ⟨d13_0, d7_1, -⟩ := hf
          have e13 : u 13 = _ := d13_0 rfl
          clear d13_0
          have e7 : u 7 = _ := d7_1 rfl
          clear d7_1
          refine ⟨wanted_at rfl rfl rfl e7 rfl, ?_⟩
          go_simp
          try rfl
        conv => arg 8; simp only [List.cons_append, List.nil_append]
        apply each_read (fun _ => Below.refl _ _) rfl
        · intro u wv hC hf
          have z0 := (HFX.out _ hC).1
          have z1 := (HFX.out _ hC).2.1
          have z2 := (HFX.out _ hC).2.2
          have y0 := (HBXL.out _ hC).1
          have y1 := (HBXL.out _ hC).2.1
          have y2 := (HBXL.out _ hC).2.2
          have x0 := (HPL.out _ hC).1
          have x1 := (HPL.out _ hC).2.1
          have x2 := (HPL.out _ hC).2.2
          obtain ⟨d7_0, d14_1, -⟩ := hf
          have e7 : u 7 = _ := d7_0 rfl
          clear d7_0
          have e14 : u 14 = _ := d14_1 rfl
          clear d14_1
          go_simp
          try rfl
        conv => arg 8; simp only [List.cons_append, List.nil_append]
        apply each_read (fun _ => Below.refl _ _) rfl
        · intro u wv hC hf
          have z0 := (HFX.out _ hC).1
          have z1 := (HFX.out _ hC).2.1
          have z2 := (HFX.out _ hC).2.2
          have y0 := (HBXL.out _ hC).1
          have y1 := (HBXL.out _ hC).2.1
          have y2 := (HBXL.out _ hC).2.2
          have x0 := (HPL.out _ hC).1
          have x1 := (HPL.out _ hC).2.1
          have x2 := (HPL.out _ hC).2.2
          obtain ⟨d15_0, d13_1, -⟩ := hf
          have e15 : u 15 = _ := d15_0 rfl
          clear d15_0
          have e13 : u 13 = _ := d13_1 rfl
          clear d13_1
          go_simp
          try rfl
        conv => arg 8; simp only [List.cons_append, List.nil_append]
        apply each_readG (fun _ => Below.refl _ _)
        · intro u wv hC hf
          have z0 := (HFX.out _ hC).1
          have z1 := (HFX.out _ hC).2.1
          have z2 := (HFX.out _ hC).2.2
          have y0 := (HBXL.out _ hC).1
          have y1 := (HBXL.out _ hC).2.1
          have y2 := (HBXL.out _ hC).2.2
          have x0 := (HPL.out _ hC).1
          have x1 := (HPL.out _ hC).2.1
          have x2 := (HPL.out _ hC).2.2
          obtain ⟨d16_0, -⟩ := hf
          have e16 : u 16 = _ := d16_0 rfl
          clear d16_0
          refine ⟨wanted_at rfl rfl rfl e16 rfl, ?_⟩
          go_simp
          try rfl
        conv => arg 8; simp only [List.cons_append, List.nil_append]
        apply each_readG (fun _ => Below.refl _ _)
        · intro u wv hC hf
          have z0 := (HFX.out _ hC).1
          have z1 := (HFX.out _ hC).2.1
          have z2 := (HFX.out _ hC).2.2
          have y0 := (HBXL.out _ hC).1
          have y1 := (HBXL.out _ hC).2.1
          have y2 := (HBXL.out _ hC).2.2
          have x0 := (HPL.out _ hC).1
          have x1 := (HPL.out _ hC).2.1
          have x2 := (HPL.out _ hC).2.2
          obtain ⟨d17_0, d16_1, -⟩ := hf
          have e17 : u 17 = _ := d17_0 rfl
          clear d17_0
          have e16 : u 16 = _ := d16_1 rfl
          clear d16_1
          refine ⟨wanted_at rfl rfl rfl e16 rfl, ?_⟩
          go_simp
          try rfl
        conv => arg 8; simp only [List.cons_append, List.nil_append]
        apply each_readG (fun _ => Below.refl _ _)
        · intro u wv hC hf
          have z0 := (HFX.out _ hC).1
          have z1 := (HFX.out _ hC).2.1
          have z2 := (HFX.out _ hC).2.2
          have y0 := (HBXL.out _ hC).1
          have y1 := (HBXL.out _ hC).2.1
          have y2 := (HBXL.out _ hC).2.2
          have x0 := (HPL.out _ hC).1
          have x1 := (HPL.out _ hC).2.1
          have x2 := (HPL.out _ hC).2.2
          obtain ⟨d16_0, -⟩ := hf
          have e16 : u 16 = _ := d16_0 rfl
          clear d16_0
          refine ⟨wanted_at rfl rfl rfl e16 rfl, ?_⟩
          go_simp
          try rfl
        conv => arg 8; simp only [List.cons_append, List.nil_append]
        apply each_readG (fun _ => Below.refl _ _)
        · intro u wv hC hf
          have z0 := (HFX.out _ hC).1
          have z1 := (HFX.out _ hC).2.1
          have z2 := (HFX.out _ hC).2.2
          have y0 := (HBXL.out _ hC).1
          have y1 := (HBXL.out _ hC).2.1
          have y2 := (HBXL.out _ hC).2.2
          have x0 := (HPL.out _ hC).1
          have x1 := (HPL.out _ hC).2.1
          have x2 := (HPL.out _ hC).2.2
          obtain ⟨d19_0, d16_1, -⟩ := hf
          have e19 : u 19 = _ := d19_0 rfl
          clear d19_0
          have e16 : u 16 = _ := d16_1 rfl
          clear d16_1
          refine ⟨wanted_at rfl rfl rfl e16 rfl, ?_⟩
          go_simp
          try rfl
        conv => arg 8; simp only [List.cons_append, List.nil_append]
        apply each_readG (fun _ => Below.refl _ _)
        · intro u wv hC hf
          have z0 := (HFX.out _ hC).1
          have z1 := (HFX.out _ hC).2.1
          have z2 := (HFX.out _ hC).2.2
          have y0 := (HBXL.out _ hC).1
          have y1 := (HBXL.out _ hC).2.1
          have y2 := (HBXL.out _ hC).2.2
          have x0 := (HPL.out _ hC).1
          have x1 := (HPL.out _ hC).2.1
          have x2 := (HPL.out _ hC).2.2
          obtain ⟨d20_0, d16_1, -⟩ := hf
          have e20 : u 20 = _ := d20_0 rfl
          clear d20_0
          have e16 : u 16 = _ := d16_1 rfl
          clear d16_1
          refine ⟨wanted_at rfl rfl rfl e16 rfl, ?_⟩
          go_simp
          try rfl
        conv => arg 8; simp only [List.cons_append, List.nil_append]
        apply each_callRG
        · intro u wv hC hf
          have z0 := (HFX.out _ hC).1
          have z1 := (HFX.out _ hC).2.1
          have z2 := (HFX.out _ hC).2.2
          have y0 := (HBXL.out _ hC).1
          have y1 := (HBXL.out _ hC).2.1
          have y2 := (HBXL.out _ hC).2.2
          have x0 := (HPL.out _ hC).1
          have x1 := (HPL.out _ hC).2.1
          have x2 := (HPL.out _ hC).2.2
          obtain ⟨d18_0, d21_1, d16_2, d16_3, -⟩ := hf
          have e18 : u 18 = _ := d18_0 rfl
          clear d18_0
          have e21 : u 21 = _ := d21_1 rfl
          clear d21_1
          have e16 : u 16 = _ := d16_2 rfl
          clear d16_2
          clear d16_3
          refine ⟨wanted_at rfl rfl rfl e16 rfl, ?_⟩
          apply Exists.intro; apply Exists.intro; apply And.intro
          · go_simp; exact ⟨rfl, rfl⟩
          · refine (HI3.out _).mono ?_
            rintro e w3 ⟨rfl, rfl⟩
            exact ⟨rfl, hC, Below.refl _ _⟩
        conv => arg 8; simp only [List.cons_append, List.nil_append]
        apply each_readG (fun _ => Below.refl _ _)
        · intro u wv hC hf
          have z0 := (HFX.out _ hC).1
          have z1 := (HFX.out _ hC).2.1
          have z2 := (HFX.out _ hC).2.2
          have y0 := (HBXL.out _ hC).1
          have y1 := (HBXL.out _ hC).2.1
          have y2 := (HBXL.out _ hC).2.2
          have x0 := (HPL.out _ hC).1
          have x1 := (HPL.out _ hC).2.1
          have x2 := (HPL.out _ hC).2.2
          obtain ⟨d22_0, d16_1, -⟩ := hf
          have e22 : u 22 = _ := d22_0 rfl
          clear d22_0
          have e16 : u 16 = _ := d16_1 rfl
          clear d16_1
          refine ⟨wanted_at rfl rfl rfl e16 rfl, ?_⟩
          go_simp
          try rfl
        conv => arg 8; simp only [List.cons_append, List.nil_append]
        apply each_read (fun _ => Below.refl _ _) rfl
        · intro u wv hC hf
          have z0 := (HFX.out _ hC).1
          have z1 := (HFX.out _ hC).2.1
          have z2 := (HFX.out _ hC).2.2
          have y0 := (HBXL.out _ hC).1
          have y1 := (HBXL.out _ hC).2.1
          have y2 := (HBXL.out _ hC).2.2
          have x0 := (HPL.out _ hC).1
          have x1 := (HPL.out _ hC).2.1
          have x2 := (HPL.out _ hC).2.2
          obtain ⟨d16_0, d23_1, -⟩ := hf
          have e16 : u 16 = _ := d16_0 rfl
          clear d16_0
          have e23 : u 23 = _ := d23_1 rfl
          clear d23_1
          go_simp
          try rfl
        conv => arg 8; simp only [List.cons_append, List.nil_append]
        apply each_read (fun _ => Below.refl _ _) rfl
        · intro u wv hC hf
          have z0 := (HFX.out _ hC).1
          have z1 := (HFX.out _ hC).2.1
          have z2 := (HFX.out _ hC).2.2
          have y0 := (HBXL.out _ hC).1
          have y1 := (HBXL.out _ hC).2.1
          have y2 := (HBXL.out _ hC).2.2
          have x0 := (HPL.out _ hC).1
          have x1 := (HPL.out _ hC).2.1
          have x2 := (HPL.out _ hC).2.2
          obtain ⟨d24_0, d22_1, -⟩ := hf
          have e24 : u 24 = _ := d24_0 rfl
          clear d24_0
          have e22 : u 22 = _ := d22_1 rfl
          clear d22_1
          go_simp
          try rfl
        conv => arg 8; simp only [List.cons_append, List.nil_append]
        apply each_readG (fun _ => Below.refl _ _)
        · intro u wv hC hf
          have z0 := (HFX.out _ hC).1
          have z1 := (HFX.out _ hC).2.1
          have z2 := (HFX.out _ hC).2.2
          have y0 := (HBXL.out _ hC).1
          have y1 := (HBXL.out _ hC).2.1
          have y2 := (HBXL.out _ hC).2.2
          have x0 := (HPL.out _ hC).1
          have x1 := (HPL.out _ hC).2.1
          have x2 := (HPL.out _ hC).2.2
          obtain ⟨d25_0, -⟩ := hf
          have e25 : u 25 = _ := d25_0 rfl
          clear d25_0
          refine ⟨wanted_at rfl rfl rfl e25 rfl, ?_⟩
          go_simp
          try rfl
        conv => arg 8; simp only [List.cons_append, List.nil_append]
        apply each_readG (fun _ => Below.refl _ _)
        · intro u wv hC hf
          have z0 := (HFX.out _ hC).1
          have z1 := (HFX.out _ hC).2.1
          have z2 := (HFX.out _ hC).2.2
          have y0 := (HBXL.out _ hC).1
          have y1 := (HBXL.out _ hC).2.1
          have y2 := (HBXL.out _ hC).2.2
          have x0 := (HPL.out _ hC).1
          have x1 := (HPL.out _ hC).2.1
          have x2 := (HPL.out _ hC).2.2
          obtain ⟨d26_0, d25_1, -⟩ := hf
          have e26 : u 26 = _ := d26_0 rfl
          clear d26_0
          have e25 : u 25 = _ := d25_1 rfl
          clear d25_1
          refine ⟨wanted_at rfl rfl rfl e25 rfl, ?_⟩
          go_simp
          try rfl
        conv => arg 8; simp only [List.cons_append, List.nil_append]
        apply each_readG (fun _ => Below.refl _ _)
        · intro u wv hC hf
          have z0 := (HFX.out _ hC).1
          have z1 := (HFX.out _ hC).2.1
          have z2 := (HFX.out _ hC).2.2
          have y0 := (HBXL.out _ hC).1
          have y1 := (HBXL.out _ hC).2.1
          have y2 := (HBXL.out _ hC).2.2
          have x0 := (HPL.out _ hC).1
          have x1 := (HPL.out _ hC).2.1
          have x2 := (HPL.out _ hC).2.2
          obtain ⟨d27_0, d25_1, d25_2, -⟩ := hf
          have e27 : u 27 = _ := d27_0 rfl
          clear d27_0
          have e25 : u 25 = _ := d25_1 rfl
          clear d25_1
          clear d25_2
          refine ⟨wanted_at rfl rfl rfl e25 rfl, ?_⟩
          go_simp
          try rfl
        conv => arg 8; simp only [List.cons_append, List.nil_append]
        apply each_readG (fun _ => Below.refl _ _)
        · intro u wv hC hf
          have z0 := (HFX.out _ hC).1
          have z1 := (HFX.out _ hC).2.1
          have z2 := (HFX.out _ hC).2.2
          have y0 := (HBXL.out _ hC).1
          have y1 := (HBXL.out _ hC).2.1
          have y2 := (HBXL.out _ hC).2.2
          have x0 := (HPL.out _ hC).1
          have x1 := (HPL.out _ hC).2.1
          have x2 := (HPL.out _ hC).2.2
          obtain ⟨d28_0, -⟩ := hf
          have e28 : u 28 = _ := d28_0 rfl
          clear d28_0
          refine ⟨wanted_at rfl rfl rfl e28 rfl, ?_⟩
          go_simp
          try rfl
        conv => arg 8; simp only [List.cons_append, List.nil_append]
        apply each_readG (fun _ => Below.refl _ _)
        · intro u wv hC hf
          have z0 := (HFX.out _ hC).1
          have z1 := (HFX.out _ hC).2.1
          have z2 := (HFX.out _ hC).2.2
          have y0 := (HBXL.out _ hC).1
          have y1 := (HBXL.out _ hC).2.1
          have y2 := (HBXL.out _ hC).2.2
          have x0 := (HPL.out _ hC).1
          have x1 := (HPL.out _ hC).2.1
          have x2 := (HPL.out _ hC).2.2
          obtain ⟨d29_0, d28_1, -⟩ := hf
          have e29 : u 29 = _ := d29_0 rfl
          clear d29_0
          have e28 : u 28 = _ := d28_1 rfl
          clear d28_1
          refine ⟨wanted_at rfl rfl rfl e28 rfl, ?_⟩
          go_simp
          try rfl
        conv => arg 8; simp only [List.cons_append, List.nil_append]
        apply each_readG (fun _ => Below.refl _ _)
        · intro u wv hC hf
          have z0 := (HFX.out _ hC).1
          have z1 := (HFX.out _ hC).2.1
          have z2 := (HFX.out _ hC).2.2
          have y0 := (HBXL.out _ hC).1
          have y1 := (HBXL.out _ hC).2.1
          have y2 := (HBXL.out _ hC).2.2
          have x0 := (HPL.out _ hC).1
          have x1 := (HPL.out _ hC).2.1
          have x2 := (HPL.out _ hC).2.2
          obtain ⟨d28_0, -⟩ := hf
          have e28 : u 28 = _ := d28_0 rfl
          clear d28_0
          refine ⟨wanted_at rfl rfl rfl e28 rfl, ?_⟩
          go_simp
          try rfl
        conv => arg 8; simp only [List.cons_append, List.nil_append]
        apply each_readG (fun _ => Below.refl _ _)
        · intro u wv hC hf
          have z0 := (HFX.out _ hC).1
          have z1 := (HFX.out _ hC).2.1
          have z2 := (HFX.out _ hC).2.2
          have y0 := (HBXL.out _ hC).1
          have y1 := (HBXL.out _ hC).2.1
          have y2 := (HBXL.out _ hC).2.2
          have x0 := (HPL.out _ hC).1
          have x1 := (HPL.out _ hC).2.1
          have x2 := (HPL.out _ hC).2.2
          obtain ⟨d31_0, d28_1, -⟩ := hf
          have e31 : u 31 = _ := d31_0 rfl
          clear d31_0
          have e28 : u 28 = _ := d28_1 rfl
          clear d28_1
          refine ⟨wanted_at rfl rfl rfl e28 rfl, ?_⟩
          go_simp
          try rfl
        conv => arg 8; simp only [List.cons_append, List.nil_append]
        apply each_readG (fun _ => Below.refl _ _)
        · intro u wv hC hf
          have z0 := (HFX.out _ hC).1
          have z1 := (HFX.out _ hC).2.1
          have z2 := (HFX.out _ hC).2.2
          have y0 := (HBXL.out _ hC).1
          have y1 := (HBXL.out _ hC).2.1
          have y2 := (HBXL.out _ hC).2.2
          have x0 := (HPL.out _ hC).1
          have x1 := (HPL.out _ hC).2.1
          have x2 := (HPL.out _ hC).2.2
          obtain ⟨d30_0, d32_1, d28_2, -⟩ := hf
          have e30 : u 30 = _ := d30_0 rfl
          clear d30_0
          have e32 : u 32 = _ := d32_1 rfl
          clear d32_1
          have e28 : u 28 = _ := d28_2 rfl
          clear d28_2
          refine ⟨wanted_at rfl rfl rfl e28 rfl, ?_⟩
          go_simp
          try rfl
        conv => arg 8; simp only [List.cons_append, List.nil_append]
        apply each_readG (fun _ => Below.refl _ _)
        · intro u wv hC hf
          have z0 := (HFX.out _ hC).1
          have z1 := (HFX.out _ hC).2.1
          have z2 := (HFX.out _ hC).2.2
          have y0 := (HBXL.out _ hC).1
          have y1 := (HBXL.out _ hC).2.1
          have y2 := (HBXL.out _ hC).2.2
          have x0 := (HPL.out _ hC).1
          have x1 := (HPL.out _ hC).2.1
          have x2 := (HPL.out _ hC).2.2
          obtain ⟨d33_0, d28_1, -⟩ := hf
          have e33 : u 33 = _ := d33_0 rfl
          clear d33_0
          have e28 : u 28 = _ := d28_1 rfl
          clear d28_1
          refine ⟨wanted_at rfl rfl rfl e28 rfl, ?_⟩
          go_simp
          try rfl
        conv => arg 8; simp only [List.cons_append, List.nil_append]
        apply each_readG (fun _ => Below.refl _ _)
        · intro u wv hC hf
          have z0 := (HFX.out _ hC).1
          have z1 := (HFX.out _ hC).2.1
          have z2 := (HFX.out _ hC).2.2
          have y0 := (HBXL.out _ hC).1
          have y1 := (HBXL.out _ hC).2.1
          have y2 := (HBXL.out _ hC).2.2
          have x0 := (HPL.out _ hC).1
          have x1 := (HPL.out _ hC).2.1
          have x2 := (HPL.out _ hC).2.2
          obtain ⟨d28_0, -⟩ := hf
          have e28 : u 28 = _ := d28_0 rfl
          clear d28_0
          refine ⟨wanted_at rfl rfl rfl e28 rfl, ?_⟩
          go_simp
          try rfl
        conv => arg 8; simp only [List.cons_append, List.nil_append]
        apply each_callRG
        · intro u wv hC hf
          have z0 := (HFX.out _ hC).1
          have z1 := (HFX.out _ hC).2.1
          have z2 := (HFX.out _ hC).2.2
          have y0 := (HBXL.out _ hC).1
          have y1 := (HBXL.out _ hC).2.1
          have y2 := (HBXL.out _ hC).2.2
          have x0 := (HPL.out _ hC).1
          have x1 := (HPL.out _ hC).2.1
          have x2 := (HPL.out _ hC).2.2
          obtain ⟨d34_0, d35_1, d28_2, d28_3, -⟩ := hf
          have e34 : u 34 = _ := d34_0 rfl
          clear d34_0
          have e35 : u 35 = _ := d35_1 rfl
          clear d35_1
          have e28 : u 28 = _ := d28_2 rfl
          clear d28_2
          clear d28_3
          refine ⟨wanted_at rfl rfl rfl e28 rfl, ?_⟩
          apply Exists.intro; apply Exists.intro; apply And.intro
          · go_simp; exact ⟨rfl, rfl⟩
          · refine (HLS.out _).mono ?_
            rintro e w3 ⟨rfl, hb⟩
            exact ⟨rfl, Below.now hC hb, hb⟩
        conv => arg 8; simp only [List.cons_append, List.nil_append]
        apply each_readG (fun _ => Below.refl _ _)
        · intro u wv hC hf
          have z0 := (HFX.out _ hC).1
          have z1 := (HFX.out _ hC).2.1
          have z2 := (HFX.out _ hC).2.2
          have y0 := (HBXL.out _ hC).1
          have y1 := (HBXL.out _ hC).2.1
          have y2 := (HBXL.out _ hC).2.2
          have x0 := (HPL.out _ hC).1
          have x1 := (HPL.out _ hC).2.1
          have x2 := (HPL.out _ hC).2.2
          obtain ⟨d36_0, d28_1, -⟩ := hf
          have e36 : u 36 = _ := d36_0 rfl
          clear d36_0
          have e28 : u 28 = _ := d28_1 rfl
          clear d28_1
          refine ⟨wanted_at rfl rfl rfl e28 rfl, ?_⟩
          go_simp
          try rfl
        conv => arg 8; simp only [List.cons_append, List.nil_append]
        apply each_readG (fun _ => Below.refl _ _)
        · intro u wv hC hf
          have z0 := (HFX.out _ hC).1
          have z1 := (HFX.out _ hC).2.1
          have z2 := (HFX.out _ hC).2.2
          have y0 := (HBXL.out _ hC).1
          have y1 := (HBXL.out _ hC).2.1
          have y2 := (HBXL.out _ hC).2.2
          have x0 := (HPL.out _ hC).1
          have x1 := (HPL.out _ hC).2.1
          have x2 := (HPL.out _ hC).2.2
          obtain ⟨d28_0, d37_1, d25_2, -⟩ := hf
          have e28 : u 28 = _ := d28_0 rfl
          clear d28_0
          have e37 : u 37 = _ := d37_1 rfl
          clear d37_1
          have e25 : u 25 = _ := d25_2 rfl
          clear d25_2
          refine ⟨wanted_at rfl rfl rfl e25 rfl, ?_⟩
          go_simp
          try rfl
        conv => arg 8; simp only [List.cons_append, List.nil_append]
        apply each_read (fun _ => Below.refl _ _) rfl
        · intro u wv hC hf
          have z0 := (HFX.out _ hC).1
          have z1 := (HFX.out _ hC).2.1
          have z2 := (HFX.out _ hC).2.2
          have y0 := (HBXL.out _ hC).1
          have y1 := (HBXL.out _ hC).2.1
          have y2 := (HBXL.out _ hC).2.2
          have x0 := (HPL.out _ hC).1
          have x1 := (HPL.out _ hC).2.1
          have x2 := (HPL.out _ hC).2.2
          obtain ⟨d25_0, d38_1, -⟩ := hf
          have e25 : u 25 = _ := d25_0 rfl
          clear d25_0
          have e38 : u 38 = _ := d38_1 rfl
          clear d38_1
          go_simp
          try rfl
        intro u w7 d1 hall
        obtain ⟨a0, a1, a2, a3, a4, a5, a6, a7, a8, a9, a10, a11, a12, a13, a14, a15, a16, a17, a18, a19, a20, a21, a22, a23, a24, a25, a26, a27, a28, a29, a30, a31, a32, a33, a34, a35, a36, a37, a38, a39, -⟩ := hall
        have e0 : u 0 = _ := a0
        clear a0
        have e1 : u 1 = _ := a1
        clear a1
        have e2 : u 2 = _ := a2
        clear a2
        have e3 : u 3 = _ := a3
        clear a3
        have e4 : u 4 = _ := a4
        clear a4
        have e5 : u 5 = _ := a5
        clear a5
        have e6 : u 6 = _ := a6
        clear a6
        have e7 : u 7 = _ := a7
        clear a7
        have e8 : u 8 = _ := a8
        clear a8
        have e9 : u 9 = _ := a9
        clear a9
        have e10 : u 10 = _ := a10
        clear a10
        have e11 : u 11 = _ := a11
        clear a11
        have e12 : u 12 = _ := a12
        clear a12
        have e13 : u 13 = _ := a13
        clear a13
        have e14 : u 14 = _ := a14
        clear a14
        have e15 : u 15 = _ := a15
        clear a15
        have e16 : u 16 = _ := a16
        clear a16
        have e17 : u 17 = _ := a17
        clear a17
        have e18 : u 18 = _ := a18
        clear a18
        have e19 : u 19 = _ := a19
        clear a19
        have e20 : u 20 = _ := a20
        clear a20
        have e21 : u 21 = _ := a21
        clear a21
        have e22 : u 22 = _ := a22
        clear a22
        have e23 : u 23 = _ := a23
        clear a23
        have e24 : u 24 = _ := a24
        clear a24
        have e25 : u 25 = _ := a25
        clear a25
        have e26 : u 26 = _ := a26
        clear a26
        have e27 : u 27 = _ := a27
        clear a27
        have e28 : u 28 = _ := a28
        clear a28
        have e29 : u 29 = _ := a29
        clear a29
        have e30 : u 30 = _ := a30
        clear a30
        have e31 : u 31 = _ := a31
        clear a31
        have e32 : u 32 = _ := a32
        clear a32
        have e33 : u 33 = _ := a33
        clear a33
        have e34 : u 34 = _ := a34
        clear a34
        have e35 : u 35 = _ := a35
        clear a35
        have e36 : u 36 = _ := a36
        clear a36
        have e37 : u 37 = _ := a37
        clear a37
        have e38 : u 38 = _ := a38
        clear a38
        have e39 : u 39 = _ := a39
        clear a39
        simp only [e0, e1, e2, e3, e4, e5, e6, e7, e8, e9, e10, e11, e12, e13, e14, e15, e16, e17, e18, e19, e20, e21, e22, e23, e24, e25, e26, e27, e28, e29, e30, e31, e32, e33, e34, e35, e36, e37, e38, e39]
        clear e0 e1 e2 e3 e4 e5 e6 e7 e8 e9 e10 e11 e12 e13 e14 e15 e16 e17 e18 e19 e20 e21 e22 e23 e24 e25 e26 e27 e28 e29 e30 e31 e32 e33 e34 e35 e36 e37 e38 e39
        have D1 := Lib.hid d1
        have HW7 := Lib.hid (Below.now HBW2.out d1)
        clear d1
        have hicap : (i : Int) ≤ (cap : Int) := by omega
        obtain ⟨y0, y1, y2⟩ := HBXL.out w7 D1.out
        obtain ⟨z0, z1, z2⟩ := HFX.out w7 D1.out
        have HK7 := Lib.hid (fun W (hW : Below w7.heap.size w7 W) => HBXL.out W (Below.now D1.out hW))
        go_wp2_with fail
        go_loopw [70] (fun v70 wr => ∃ j : Nat, j ≤ i ∧ v70 = .int .i64 (j : Nat) ∧ Hid (Below w7.heap.size w7 wr)) (fun v70 _ => i - (intOf v70).toNat)
        case atStart => exact ⟨0, Nat.zero_le _, rfl, Lib.hid (Below.refl _ _)⟩
        case round =>
          clear y0 y1 y2 z0 z1 z2
          obtain ⟨j, hj, rfl, HBJ⟩ := hrel
          by_cases hji : j < i
          · have hjl : j < L.length := by omega
            have hjj : (j : Int) < (i : Int) := by omega
            obtain ⟨c0, c1, c2⟩ := HCA.out wr (Below.now HW7.out HBJ.out) j hjl
            obtain ⟨y0, y1, y2⟩ := HK7.out wr HBJ.out
            have HDV := Lib.hid (HDU.out j hjl hji)
            obtain ⟨⟨b1, b2, b3⟩, hfb⟩ : ∃ x, L[j] = x := ⟨_, rfl⟩
            rw [hfb] at c0 c1 c2 HDV
            have HBJ2 := Lib.hid (Below.now HBJ.out (alloc_belT wr (.cells #[.int .i64 ((b1 : Nat) : Int), .int .i64 ((b2 : Nat) : Int), .int .i64 ((b3 : Nat) : Int)] 66)))
            have y3 := fun o => (HK7.out (wr.alloc o) (Below.now HBJ.out (alloc_belT wr o))).1
            have y4 := fun o => (HK7.out (wr.alloc o) (Below.now HBJ.out (alloc_belT wr o))).2.1
            have y5 := fun o => (HK7.out (wr.alloc o) (Below.now HBJ.out (alloc_belT wr o))).2.2
            clear hfb y0 y1 y2
            by_cases h3 : a3 = b3
            · obtain ⟨n1, n2⟩ := HDV.out h3
              have e3 : (((a3 : Nat) : Int) == ((b3 : Nat) : Int)) = true := by rw [beq_iff_eq]; omega
              have e1 : (((a1 : Nat) : Int) == ((b1 : Nat) : Int)) = false := by rw [beq_eq_false_iff_ne]; simp only [] at n1; omega
              have e2 : (((a2 : Nat) : Int) == ((b2 : Nat) : Int)) = false := by rw [beq_eq_false_iff_ne]; simp only [] at n2; omega
              clear h3 n1 n2
              go_wp2_with fail
              go_roundw
              case rel => exact ⟨j + 1, by omega, by go_num, HBJ2⟩
              case measure => simp [intOf]; omega
            · have e3 : (((a3 : Nat) : Int) == ((b3 : Nat) : Int)) = false := by rw [beq_eq_false_iff_ne]; omega
              clear h3
              go_wp2_with fail
              go_roundw
              case rel => exact ⟨j + 1, by omega, by go_num, HBJ2⟩
              case measure => simp [intOf]; omega
          · have HW8 := Lib.hid (Below.now HW7.out HBJ.out)
            go_wp2_with fail
            go_roundw
            case rel => exact ⟨i + 1, by omega, by go_num, HW8⟩
            case measure => simp [intOf]; omega
    · go_wp2_with fail
      go_ret
      exact ⟨rfl, Below.now HB1.out HBW.out⟩
end Go.Proofs.YtklbehapbchnaaaDoor
