/-
  IdempotentsOf, of the program and of the reference.
-/
import Derived.Test.YtngbimgabcacpaaGreatGrp25
import Derived.Test.YtngbimgabcacpaaGreatGrp26
import Derived.Test.YtngbimgabcacpaaGreatGrp22
import Derived.Test.YtngbimgabcacpaaGreatGrp23
import Derived.Deep.RegionHeld3
namespace Go.Proofs.YtngbimgabcacpaaGreat
open Go.RowKit
set_option linter.unusedVariables false
theorem RowsOf.later {w w' : World} {g : Nat} {LL : List (List Int)} (h : RowsOf w g LL) (hb : Below w.heap.size w w') : RowsOf w' g LL := fun j hj => by
  obtain ⟨a, c, h1, h2⟩ := h j hj
  exact ⟨a, c, (hb.cell (World.block_lt_of_cell? _ _ h1)).trans h1, h2.later hb⟩
theorem rowsOf_three {W : World} {base gm : Nat} {L1 L2 : List Int} {xa xb : Option Addr} {ca cb : Nat} {T : TypeId} (ha : W.ownsRow base 3 1 (.slice xa L1.length ca) L1.length (intVals L1)) (hm : W.cell? ⟨gm, 0, none⟩ = some (.int .i64 (-1))) (hb : W.ownsRow base 3 1 (.slice xb L2.length cb) L2.length (intVals L2)) :
    RowsOf (W.alloc (.cells #[.slice xa L1.length ca, .slice (some ⟨gm, 0, none⟩) 1 1, .slice xb L2.length cb] T)) W.heap.size [L1, [-1], L2] := by
  have hal := alloc_belI W (.cells #[.slice xa L1.length ca, .slice (some ⟨gm, 0, none⟩) 1 1, .slice xb L2.length cb] T)
  intro j hj
  match j, hj with
  | 0, _ => exact ⟨xa, ca, by (rw [World.cell?_alloc_new]; rfl), (Src.of_owns ha).later hal⟩
  | 1, _ => exact ⟨some ⟨gm, 0, none⟩, 1, by (rw [World.cell?_alloc_new]; rfl), (Src.of_cells (news := [.int .i64 (-1)]) (.inr ⟨gm, 0, rfl, fun i hi => by (obtain rfl : i = 0 := by simpa using hi); exact hm⟩)).later hal⟩
  | 2, _ => exact ⟨xb, cb, by (rw [World.cell?_alloc_new]; rfl), (Src.of_owns hb).later hal⟩
set_option maxRecDepth 100000 in
set_option maxHeartbeats 4000000 in
theorem implClassesOf_4 (n : Int) (l : List Int) (a : Option Addr) (cap : Nat) (w : World) (hl : IntsIn w a l) (hlen : l.length ≤ 2 ^ 47) :
    Calls Tryz.prog 24 #[.agg #[.int .i64 n, .slice a l.length cap], .int .i64 4] w (RetCls n l 4 w) := by
  have HL := Lib.hid hl
  have HB1 := Lib.hid (alloc_belI w (.cells #[.int .i64 n, .slice a l.length cap] 25))
  have HX : Hid (∀ W, Below (w.alloc (.cells #[.int .i64 n, .slice a l.length cap] 25)).heap.size (w.alloc (.cells #[.int .i64 n, .slice a l.length cap] 25)) W → W.cell? ⟨w.heap.size, 0, none⟩ = some (.int .i64 n) ∧ W.cell? ⟨w.heap.size, 1, none⟩ = some (.slice a l.length cap)) := Lib.hid (fun W hW => ⟨by rw [hW.cell (by simp)]; simp, by rw [hW.cell (by simp)]; simp⟩)
  have HTO := Lib.hid (fun W (h : IntsIn W a l) => implTableOk_any n l a cap W h hlen)
  have HIN := Lib.hid (fun W => within_any 4 1 4 W)
  clear hl
  cases ht : tabB n l
  · have F : Hid (∀ w', Below w.heap.size w w' → RetCls n l 4 w (.returned (.slice none 0 0)) w') := Lib.hid (fun w' hb => ⟨by rw [clzF_no1 ht]; exact retSl_nil _ _ _ hb, fun _ => rfl⟩)
    rw [ht] at HTO
    clear ht
    go_enter Tryz.func24, Tryz.ntmps24
    go_wp2_with fail
    refine (HTO.out _ (HL.out.later HB1.out)).mono ?_
    rintro e w2 ⟨rfl, hb2⟩
    have HB2 := Lib.hid (Below.now HB1.out hb2)
    clear hb2
    go_wp2_with fail
    go_ret
    exact F.out _ HB2.out
  cases hk : inB 4 1 4
  · have F : Hid (∀ w', Below w.heap.size w w' → RetCls n l 4 w (.returned (.slice none 0 0)) w') := Lib.hid (fun w' hb => ⟨by rw [clzF_no2 hk]; exact retSl_nil _ _ _ hb, fun _ => rfl⟩)
    rw [ht] at HTO
    rw [hk] at HIN
    clear ht hk
    go_enter Tryz.func24, Tryz.ntmps24
    go_wp2_with fail
    refine (HTO.out _ (HL.out.later HB1.out)).mono ?_
    rintro e w2 ⟨rfl, hb2⟩
    have HB2 := Lib.hid (Below.now HB1.out hb2)
    clear hb2
    go_wp2_with fail
    refine (HIN.out _).mono ?_
    rintro e w3 ⟨rfl, rfl⟩
    go_wp2_with fail
    go_ret
    exact F.out _ HB2.out
  obtain ⟨m, ln, rfl, hlm, hT⟩ := tabOk_out ht
  have hm0 := hT.lo
  have hm1 := hT.hi
  have HF : Hid (clzF (m : Nat) l 4 = numO (relK m ln 4) m) := Lib.hid (by rw [hlm] at ht ⊢; exact clzF_yes ht hk)
  have HLL : Hid (l.length = m * m) := Lib.hid (by rw [hlm, List.length_map]; exact hT.len)
  have HKE : Hid (∀ i, keyK m ln 4 i = [idLs m ln 1 i, [-1], idLs m ln 2 i].flatten) := Lib.hid (fun i => by unfold keyK; simp)
  have HI1 : Hid (∀ i W, i < m → IntsIn W a l → Calls Tryz.prog 53 #[.agg #[.int .i64 (m : Nat), .slice a l.length cap], .int .i64 (i : Nat), .int .i64 1] W (RetSl 3 1 (idLs m ln 1 i).length (intVals (idLs m ln 1 i)) W)) := Lib.hid (fun i W hi h => implIdeal_any m ln a l.length cap i 1 W (by unfold NatsIn; rw [← hlm]; exact h) hT.toTb HLL.out hi)
  have HI2 : Hid (∀ i W, i < m → IntsIn W a l → Calls Tryz.prog 53 #[.agg #[.int .i64 (m : Nat), .slice a l.length cap], .int .i64 (i : Nat), .int .i64 2] W (RetSl 3 1 (idLs m ln 2 i).length (intVals (idLs m ln 2 i)) W)) := Lib.hid (fun i W hi h => implIdeal_any m ln a l.length cap i 2 W (by unfold NatsIn; rw [← hlm]; exact h) hT.toTb HLL.out hi)
  have HPR := Lib.hid (fun g v vals w0 W (h : KeyS w0 W g v m (keyK m ln 4) vals) => classesIn_pred m ln 4 g v vals w0 W hm1 h)
  rw [ht] at HTO
  rw [hk] at HIN
  have HYES : Hid (∀ e w', RetSl 3 1 (numO (relK m ln 4) m).length (intVals (numO (relK m ln 4) m)) w e w' → RetCls (m : Nat) l 4 w e w') := Lib.hid (fun e w' h => ⟨by rw [HF.out]; exact h, fun h2 => by rw [ht, hk] at h2; cases h2⟩)
  clear ht hk hT hlm
  generalize relK m ln 4 = p at *
  generalize keyK m ln 4 = key at *
  go_enter Tryz.func24, Tryz.ntmps24
  go_wp2_with fail
  generalize w.alloc (.cells #[.int .i64 (m : Nat), .slice a l.length cap] 25) = w1 at *
  refine (HTO.out _ (HL.out.later HB1.out)).mono ?_
  rintro e w2 ⟨rfl, hb2⟩
  have HB2 := Lib.hid hb2
  clear hb2
  go_wp2_with fail
  refine (HIN.out _).mono ?_
  rintro e w3 ⟨rfl, rfl⟩
  have HS := Lib.hid (KeyS.start (w := w2) (Below.refl _ _) key)
  obtain ⟨z0, z1⟩ := HX.out _ (Below.now HB2.out (alloc_belI w2 (.cells #[.slice none 0 0] 60)))
  clear HTO HIN
  go_wp2_with fail
  clear z0 z1
  have HG0 : Hid (w2.heap.size = w2.heap.size) := Lib.hid rfl
  generalize w2.alloc (.cells #[.slice none 0 0] 60) = w4 at *
  generalize hg : w2.heap.size = g at *
  have HG := Lib.hid hg
  clear hg HG0
  go_loopw [17] (fun i' wr => ∃ c : Nat, c ≤ m ∧ i' = .int .i64 c ∧ Hid (∃ v vals, KeyS w2 wr g v c key vals)) (fun i' _ => m - (intOf i').toNat)
  case atStart => exact ⟨0, Nat.zero_le _, rfl, Lib.hid ⟨_, _, HS.out⟩⟩
  case round =>
    clear HS
    obtain ⟨c, hcm, rfl, HK⟩ := hrel
    obtain ⟨v, vals, hks⟩ := HK.out
    have HKS := Lib.hid hks
    have hbw := Lib.hid (Below.now HB2.out hks.below)
    obtain ⟨z0, z1⟩ := HX.out _ hbw.out
    obtain ⟨y0, f0⟩ := hks.facts
    clear hks
    by_cases hlt : c < m
    · have N1 : Hid (c + 1 ≤ maxLen) := Lib.hid (by unfold maxLen; omega)
      have N2 : Hid ((c + 1) * 24 ≤ 140737488355328) := Lib.hid (by omega)
      have hone : ∀ (x : Option Addr) (n k : Nat), ∀ u ∈ [Value.slice x n k], u.oneCell' = true := fun x n k u hu => by rw [List.mem_singleton.1 hu]; rfl
      have H1 := Lib.hid (fun W h => HI1.out c W hlt h)
      have H2 := Lib.hid (fun W h => HI2.out c W hlt h)
      have q1 := idLs_len (m := m) (ln := ln) 1 c
      have q2 := idLs_len (m := m) (ln := ln) 2 c
      have HLT : Hid (∀ W : World, Below wr.heap.size wr W → g + 1 ≤ W.heap.size) := Lib.hid (fun W h => Nat.le_trans HKS.out.lt h.size)
      have HCC : Hid (∀ (W : World) gr, RowsOf W gr [idLs m ln 1 c, [-1], idLs m ln 2 c] → Calls Tryz.prog 54 #[.slice (some ⟨gr, 0, none⟩) 3 3] W (RetSl 3 1 (key c).length (intVals (key c)) W)) := Lib.hid (fun W gr h => by
        rw [HKE.out c]
        exact concat_any [idLs m ln 1 c, [-1], idLs m ln 2 c] gr 3 W h (by simp) (by simp; omega) (by simp; omega))
      generalize idLs m ln 1 c = L1 at *
      generalize idLs m ln 2 c = L2 at *
      clear q1 q2 HI1 HI2 HKE z0 z1 y0 f0
      go_upto_region 8 with fail
      refine region_tail 11 (fun W => Below wr.heap.size wr W) (fun W W2 => Below W.heap.size W W2) (fun u => by simp only [List.take_succ_cons, List.take_zero, fPut, Act.put, List.setIfInBounds_toArray, List.set_cons_succ, List.set_cons_zero, Nat.zero_add, Nat.reduceAdd]; rfl) (by kernel_rfl) (by kernel_rfl) (by kernel_rfl) (by kernel_rfl) (by kernel_rfl) (by kernel_rfl) (by kernel_rfl) (Below.drew (Below.refl _ _)) ?_
      conv => arg 7; simp only [List.take_succ_cons, List.take_zero]
      apply each_read (fun _ => Below.refl _ _) rfl
      · intro u wv hC hf
        have z0 := (HX.out _ (Below.now hbw.out hC)).1
        have z1 := (HX.out _ (Below.now hbw.out hC)).2
        have y0 := (HKS.out.later hC).facts.1
        clear hf
        go_simp
        try rfl
      apply each_read (fun _ => Below.refl _ _) rfl
      · intro u wv hC hf
        have z0 := (HX.out _ (Below.now hbw.out hC)).1
        have z1 := (HX.out _ (Below.now hbw.out hC)).2
        have y0 := (HKS.out.later hC).facts.1
        clear hf
        go_simp
        try rfl
      conv => arg 8; simp only [List.cons_append, List.nil_append]
      apply each_read (fun _ => Below.refl _ _) rfl
      · intro u wv hC hf
        have z0 := (HX.out _ (Below.now hbw.out hC)).1
        have z1 := (HX.out _ (Below.now hbw.out hC)).2
        have y0 := (HKS.out.later hC).facts.1
        clear hf
        go_simp
        try rfl
      conv => arg 8; simp only [List.cons_append, List.nil_append]
      refine each_call (fun v wv => ∃ xa ca, v = .slice xa L1.length ca ∧ wv.ownsRow (g + 1) 3 1 (.slice xa L1.length ca) L1.length (intVals L1)) (fun v w w2 _ hR ⟨xa, ca, h1, h2⟩ => ⟨xa, ca, h1, owns_later h2 hR⟩) rfl ?_ ?_
      · intro u wv hC hf
        have z0 := (HX.out _ (Below.now hbw.out hC)).1
        have z1 := (HX.out _ (Below.now hbw.out hC)).2
        have y0 := (HKS.out.later hC).facts.1
        obtain ⟨d1_0, d2_1, -⟩ := hf
        have e1 : u 1 = _ := d1_0 rfl
        clear d1_0
        have e2 : u 2 = _ := d2_1 rfl
        clear d2_1
        apply Exists.intro; apply Exists.intro; apply And.intro
        · go_simp; exact ⟨rfl, rfl⟩
        · refine (H1.out _ (HL.out.later (Below.now HB1.out (Below.now hbw.out hC)))).mono ?_
          rintro e w3 ⟨xa, ca, rfl, ho, hb⟩
          exact ⟨_, rfl, Below.now hC hb, hb, xa, ca, rfl, owns_mono ho (HLT.out _ hC)⟩
      conv => arg 8; simp only [List.cons_append, List.nil_append]
      refine each_do (fun v wv => ∃ gm, v = .slice (some ⟨gm, 0, none⟩) 1 1 ∧ wv.cell? ⟨gm, 0, none⟩ = some (.int .i64 (-1))) (fun v w w2 _ hR ⟨gm, e, hc⟩ => ⟨gm, e, (hR.cell (World.block_lt_of_cell? _ _ hc)).trans hc⟩) rfl ?_ ?_
      · intro u wv hC hf
        have z0 := (HX.out _ (Below.now hbw.out hC)).1
        have z1 := (HX.out _ (Below.now hbw.out hC)).2
        have y0 := (HKS.out.later hC).facts.1
        clear hf
        refine ⟨.slice (some ⟨wv.heap.size, 0, none⟩) 1 1, wv.alloc (.cells #[.int .i64 (-1)] 3), ?_, Below.alloc hC hC.size _, alloc_belI _ _, wv.heap.size, rfl, by (rw [World.cell?_alloc_new]; rfl)⟩
        go_simp
        try rfl
      conv => arg 8; simp only [List.cons_append, List.nil_append]
      apply each_read (fun _ => Below.refl _ _) rfl
      · intro u wv hC hf
        have z0 := (HX.out _ (Below.now hbw.out hC)).1
        have z1 := (HX.out _ (Below.now hbw.out hC)).2
        have y0 := (HKS.out.later hC).facts.1
        clear hf
        go_simp
        try rfl
      conv => arg 8; simp only [List.cons_append, List.nil_append]
      apply each_read (fun _ => Below.refl _ _) rfl
      · intro u wv hC hf
        have z0 := (HX.out _ (Below.now hbw.out hC)).1
        have z1 := (HX.out _ (Below.now hbw.out hC)).2
        have y0 := (HKS.out.later hC).facts.1
        clear hf
        go_simp
        try rfl
      conv => arg 8; simp only [List.cons_append, List.nil_append]
      refine each_call (fun v wv => ∃ xa ca, v = .slice xa L2.length ca ∧ wv.ownsRow (g + 1) 3 1 (.slice xa L2.length ca) L2.length (intVals L2)) (fun v w w2 _ hR ⟨xa, ca, h1, h2⟩ => ⟨xa, ca, h1, owns_later h2 hR⟩) rfl ?_ ?_
      · intro u wv hC hf
        have z0 := (HX.out _ (Below.now hbw.out hC)).1
        have z1 := (HX.out _ (Below.now hbw.out hC)).2
        have y0 := (HKS.out.later hC).facts.1
        obtain ⟨d5_0, d6_1, d3_2, -⟩ := hf
        have e5 : u 5 = _ := d5_0 rfl
        clear d5_0
        have e6 : u 6 = _ := d6_1 rfl
        clear d6_1
        obtain ⟨xa3, ca3, e3, r3⟩ := d3_2 rfl
        apply Exists.intro; apply Exists.intro; apply And.intro
        · go_simp; exact ⟨rfl, rfl⟩
        · refine (H2.out _ (HL.out.later (Below.now HB1.out (Below.now hbw.out hC)))).mono ?_
          rintro e w3 ⟨xa, ca, rfl, ho, hb⟩
          exact ⟨_, rfl, Below.now hC hb, hb, xa, ca, rfl, owns_mono ho (HLT.out _ hC)⟩
      conv => arg 8; simp only [List.cons_append, List.nil_append]
      refine each_do (fun v wv => ∃ gr, v = .slice (some ⟨gr, 0, none⟩) 3 3 ∧ RowsOf wv gr [L1, [-1], L2]) (fun v w w2 _ hR ⟨gr, e, h⟩ => ⟨gr, e, h.later hR⟩) rfl ?_ ?_
      · intro u wv hC hf
        have z0 := (HX.out _ (Below.now hbw.out hC)).1
        have z1 := (HX.out _ (Below.now hbw.out hC)).2
        have y0 := (HKS.out.later hC).facts.1
        obtain ⟨d3_0, d4_1, d7_2, -⟩ := hf
        obtain ⟨xa3, ca3, e3, r3⟩ := d3_0 rfl
        obtain ⟨gm4, e4, r4⟩ := d4_1 rfl
        obtain ⟨xa7, ca7, e7, r7⟩ := d7_2 rfl
        refine ⟨.slice (some ⟨wv.heap.size, 0, none⟩) 3 3, wv.alloc (.cells #[.slice xa3 L1.length ca3, .slice (some ⟨gm4, 0, none⟩) 1 1, .slice xa7 L2.length ca7] 23), ?_, Below.alloc hC hC.size _, alloc_belI _ _, wv.heap.size, rfl, rowsOf_three r3 r4 r7⟩
        go_simp
        try rfl
      conv => arg 8; simp only [List.cons_append, List.nil_append]
      refine each_call (fun v wv => ∃ a7 c7, v = .slice a7 (key c).length c7 ∧ wv.ownsRow (g + 1) 3 1 (.slice a7 (key c).length c7) (key c).length (intVals (key c))) (fun v w w2 _ hR ⟨xa, ca, h1, h2⟩ => ⟨xa, ca, h1, owns_later h2 hR⟩) rfl ?_ ?_
      · intro u wv hC hf
        have z0 := (HX.out _ (Below.now hbw.out hC)).1
        have z1 := (HX.out _ (Below.now hbw.out hC)).2
        have y0 := (HKS.out.later hC).facts.1
        obtain ⟨d8_0, d7_1, -⟩ := hf
        obtain ⟨gr8, e8, r8⟩ := d8_0 rfl
        obtain ⟨xa7, ca7, e7, r7⟩ := d7_1 rfl
        apply Exists.intro; apply Exists.intro; apply And.intro
        · go_simp; exact ⟨rfl, rfl⟩
        · refine (HCC.out _ _ r8).mono ?_
          rintro e w3 ⟨xa, ca, rfl, ho, hb⟩
          exact ⟨_, rfl, Below.now hC hb, hb, xa, ca, rfl, owns_mono ho (HLT.out _ hC)⟩
      conv => arg 8; simp only [List.cons_append, List.nil_append]
      refine each_do (fun v wv => ∃ g7 a7 c7, v = .slice (some ⟨g7, 0, none⟩) 1 1 ∧ wv.cell? ⟨g7, 0, none⟩ = some (.slice a7 (key c).length c7) ∧ wv.ownsRow (g + 1) 3 1 (.slice a7 (key c).length c7) (key c).length (intVals (key c))) (fun v w w2 _ hR ⟨g7, xa, ca, h1, hc, h2⟩ => ⟨g7, xa, ca, h1, (hR.cell (World.block_lt_of_cell? _ _ hc)).trans hc, owns_later h2 hR⟩) rfl ?_ ?_
      · intro u wv hC hf
        have z0 := (HX.out _ (Below.now hbw.out hC)).1
        have z1 := (HX.out _ (Below.now hbw.out hC)).2
        have y0 := (HKS.out.later hC).facts.1
        obtain ⟨d9_0, -⟩ := hf
        obtain ⟨a9, c9, e9, r9⟩ := d9_0 rfl
        refine ⟨.slice (some ⟨wv.heap.size, 0, none⟩) 1 1, wv.alloc (.cells #[.slice a9 (key c).length c9] 23), ?_, Below.alloc hC hC.size _, alloc_belI _ _, wv.heap.size, a9, c9, rfl, by (rw [World.cell?_alloc_new]; rfl), owns_later r9 (alloc_belI _ _)⟩
        go_simp
        try rfl
      intro u w7 d1 hall
      obtain ⟨a0, a1, a2, a3, a4, a5, a6, a7, a8, a9, a10, -⟩ := hall
      have e0 : u 0 = _ := a0
      clear a0
      have e1 : u 1 = _ := a1
      clear a1
      have e2 : u 2 = _ := a2
      clear a2
      obtain ⟨xa3, ca3, e3, r3⟩ := a3
      replace e3 : u 3 = _ := e3
      obtain ⟨gm4, e4, r4⟩ := a4
      replace e4 : u 4 = _ := e4
      have e5 : u 5 = _ := a5
      clear a5
      have e6 : u 6 = _ := a6
      clear a6
      obtain ⟨xa7, ca7, e7, r7⟩ := a7
      replace e7 : u 7 = _ := e7
      obtain ⟨gr8, e8, r8⟩ := a8
      replace e8 : u 8 = _ := e8
      obtain ⟨a9, c9, e9, r9⟩ := a9
      replace e9 : u 9 = _ := e9
      obtain ⟨g10, a10, c10, e10, r10, o10⟩ := a10
      replace e10 : u 10 = _ := e10
      change wpList _ _ _ (List.drop 11 _) _ _
      simp only [List.drop_succ_cons, List.drop_zero]
      simp only [e0, e1, e2, e3, e4, e5, e6, e7, e8, e9, e10]
      clear e0 e1 e2 e3 e4 e5 e6 e7 e8 e9 e10
      have HK7 := Lib.hid (HKS.out.later d1)
      refine wpList_appB rfl (.tmp 22) (.tmp 32) rfl Tryz.underlying60 Tryz.infoInts rfl (by decide) rfl HK7.out.own HK7.out.lt rfl (m := 1) (news := [.slice a10 (key c).length c10]) (fun j u hu => by
        match j, hu with
        | 0, hu =>
          obtain rfl := Option.some.inj hu
          rw [add_off]
          exact r10
        | j + 1, hu => cases hu) rfl (by decide) (hone _ _ _) N1.out N2.out ?_
      intro g4 c4 w9 hn9 hg9 _
      obtain ⟨hbk, hbw9, hput⟩ := HK7.out.putD o10 hg9 hn9
      have P9 := Lib.hid hput
      obtain ⟨y0, f0⟩ := box1_cells hbk
      clear hbk hbw9 hput hn9 hg9 o10 r10
      have F : Hid (∃ v vals, KeyS w2 (w9.setCell ⟨g, 0, none⟩ (.slice (some ⟨g4, 0, none⟩) (c + 1) c4)) g v (c + 1) key vals) := Lib.hid ⟨_, _, P9.out⟩
      go_wp2_with fail
      go_roundw
      case rel => exact ⟨c + 1, by omega, by go_num, F⟩
      case measure => simp [intOf]; omega
    · obtain rfl : c = m := by omega
      have HNU := Lib.hid (numbered_any wr.heap.size 55 #[.pointer (some ⟨g, 0, none⟩)] p c wr (by omega) (HPR.out g v vals w2 wr HKS.out) (Nat.le_refl _) (enters_of Tryz.func55 (by kernel_rfl) rfl))
      have HBE := Lib.hid (Below.now HB1.out hbw.out)
      go_wp2_with fail
      refine HNU.out.mono ?_
      rintro e w5 ⟨a5, c5, rfl, ho5, hb5⟩
      have F : Hid (RetSl 3 1 (numO p c).length (intVals (numO p c)) w (.returned (.slice a5 (numO p c).length c5)) w5) := Lib.hid ⟨_, _, rfl, owns_mono ho5 HBE.out.size, Below.now HBE.out hb5⟩
      clear ho5 hb5 z0 z1 y0 f0
      go_wp2_with fail
      go_ret
      exact HYES.out _ _ F.out
theorem implClassesOf_any (n : Int) (l : List Int) (a : Option Addr) (cap : Nat) (kind : Int) (w : World) (hl : IntsIn w a l) (hlen : l.length ≤ 2 ^ 47) :
    Calls Tryz.prog 24 #[.agg #[.int .i64 n, .slice a l.length cap], .int .i64 kind] w (RetCls n l kind w) := by
  by_cases h4 : kind = 4
  · subst h4; exact implClassesOf_4 n l a cap w hl hlen
  · exact implClassesOf_ne n l a cap kind w hl hlen h4
theorem implCountClasses_any (n : Int) (l : List Int) (a : Option Addr) (cap : Nat) (kind : Int) (w : World) (hl : IntsIn w a l) (hlen : l.length ≤ 2 ^ 47) :
    Calls Tryz.prog 19 #[.agg #[.int .i64 n, .slice a l.length cap], .int .i64 kind] w fun e w' => e = .returned (.int .i64 (cntF (clzF n l kind))) ∧ Below w.heap.size w w' :=
  implCountClasses_of n l a cap kind w hl (fun W h => implClassesOf_any n l a cap kind W h hlen)
end Go.Proofs.YtngbimgabcacpaaGreat
namespace Go.Proofs.YtngbimgabcacpaaGreat
open Go.RowKit
set_option linter.unusedVariables false
/-- the first x of them hold -/
def allN (p : Nat → Bool) (x : Nat) : Bool := (List.range x).all p
theorem allN_zero (p : Nat → Bool) : allN p 0 = true := by simp [allN]
theorem allN_succ (p : Nat → Bool) (x : Nat) : allN p (x + 1) = (allN p x && p x) := by simp [allN, List.range_succ]
theorem zeroF_at {m : Nat} {ln : List Nat} (ht : tabB (m : Nat) (ln.map Int.ofNat) = true) {c : Nat} (hn : ∀ z, z < c → zeroB m ln z = false) (hc : c < m) (hz : zeroB m ln c = true) : zeroF (m : Nat) (ln.map Int.ofNat) = (c : Nat) := by
  unfold zeroF thoseL
  rw [ht, map_toNat]
  simp only [if_true, Int.toNat_natCast]
  have h1 : (List.range m).filter (zeroB m ln) = c :: ((List.range m).drop (c + 1)).filter (zeroB m ln) := by
    have h2 : List.range m = (List.range m).take c ++ (c :: (List.range m).drop (c + 1)) := by
      have hd : (List.range m).drop c = c :: (List.range m).drop (c + 1) := by rw [List.drop_eq_getElem_cons (by simpa using hc)]; simp
      rw [← hd, List.take_append_drop]
    rw [h2, List.filter_append, List.filter_cons, if_pos hz]
    have h3 : ((List.range m).take c).filter (zeroB m ln) = [] := by
      rw [List.filter_eq_nil_iff]
      intro z hz
      rw [List.take_range] at hz
      have := hn z (by have := List.mem_range.1 hz; omega)
      simp [this]
    rw [h3, ← h2]
    simp
  rw [h1]
  rfl
theorem zeroF_none {m : Nat} {ln : List Nat} {c : Nat} (hn : ∀ z, z < c → zeroB m ln z = false) (hc : ¬ c < m) : zeroF (m : Nat) (ln.map Int.ofNat) = -1 := by
  unfold zeroF thoseL
  rw [map_toNat]
  simp only [Int.toNat_natCast]
  have h1 : (List.range m).filter (zeroB m ln) = [] := by
    rw [List.filter_eq_nil_iff]
    intro z hz
    have := hn z (by have := List.mem_range.1 hz; omega)
    simp [this]
  rw [h1]
  split <;> rfl
theorem zeroF_not {n : Int} {l : List Int} (h : tabB n l = false) : zeroF n l = -1 := by unfold zeroF thoseL; rw [h]; rfl
theorem noneZ_succ {p : Nat → Bool} {c : Nat} (h : ∀ z, z < c → p z = false) (hc : p c = false) : ∀ z, z < c + 1 → p z = false := fun z hz => by
  by_cases e : z = c
  · rw [e]; exact hc
  · exact h z (by omega)
end Go.Proofs.YtngbimgabcacpaaGreat
namespace Go.Proofs.YtngbimgabcacpaaGreat
open Go.RowKit
set_option linter.unusedVariables false
/-- the inverse of an element, or -1 -/
def invB (m : Nat) (ln : List Nat) (i k : Nat) : Bool := decide (tm m ln i k = 0) && decide (tm m ln k i = 0)
def invF (m : Nat) (ln : List Nat) (i : Nat) : Int := match (List.range m).find? (invB m ln i) with | some k => (k : Nat) | none => -1
theorem invB_un (m : Nat) (ln : List Nat) (i k : Nat) : invB m ln i k = !unB m ln i k := by simp [invB, unB]
theorem find_at {m : Nat} {p : Nat → Bool} {k : Nat} (hn : ∀ z, z < k → p z = false) (hk : k < m) (hp : p k = true) : (List.range m).find? p = some k := by
  rw [List.find?_eq_some_iff_getElem]
  refine ⟨hp, k, by simpa using hk, by simp, fun j hj => ?_⟩
  simp [hn j hj]
theorem invF_at {m : Nat} {ln : List Nat} {i k : Nat} (hn : ∀ z, z < k → invB m ln i z = false) (hk : k < m) (hp : invB m ln i k = true) : invF m ln i = (k : Nat) := by
  unfold invF; rw [find_at hn hk hp]
theorem invF_none {m : Nat} {ln : List Nat} {i k : Nat} (hn : ∀ z, z < k → invB m ln i z = false) (hk : ¬ k < m) : invF m ln i = -1 := by
  unfold invF
  have : (List.range m).find? (invB m ln i) = none := by
    rw [List.find?_eq_none]
    intro z hz
    have := hn z (by have := List.mem_range.1 hz; omega)
    simp [this]
  rw [this]
theorem invF_unit (m : Nat) (ln : List Nat) (i : Nat) : decide (0 ≤ invF m ln i) = isUnit m ln i := by
  unfold invF isUnit
  cases h : (List.range m).find? (invB m ln i)
  · rw [List.find?_eq_none] at h
    have : (List.range m).all (unB m ln i) = true := all_range.2 fun k hk => by
      have := h k (List.mem_range.2 hk)
      rw [invB_un] at this
      simpa using this
    rw [this]; rfl
  · rename_i k
    have h1 := List.find?_some h
    have h2 := List.mem_of_find?_eq_some h
    have : (List.range m).all (unB m ln i) = false := all_range_false (List.mem_range.1 h2) (by rw [invB_un] at h1; simpa using h1)
    rw [this]; simp
theorem invF_lt {m : Nat} {ln : List Nat} {i : Nat} : invF m ln i = -1 ∨ ∃ k : Nat, invF m ln i = (k : Nat) ∧ k < m ∧ invB m ln i k = true := by
  unfold invF
  cases h : (List.range m).find? (invB m ln i)
  · left; rfl
  · rename_i k
    right
    exact ⟨k, rfl, List.mem_range.1 (List.mem_of_find?_eq_some h), List.find?_some h⟩
theorem invB_of1 {m : Nat} {ln : List Nat} {i k : Nat} (h : (((tm m ln i k : Nat) : Int) == 0) = false) : invB m ln i k = false := by
  simp at h; simp [invB, h]
theorem invB_of2 {m : Nat} {ln : List Nat} {i k : Nat} (h : (((tm m ln i k : Nat) : Int) == 0) = true) {b : Bool} (h2 : (((tm m ln k i : Nat) : Int) == 0) = b) : invB m ln i k = b := by
  cases b <;> simp at h h2 <;> simp [invB, h, h2]
set_option maxHeartbeats 800000 in
theorem l08Inverse_any (m : Nat) (ln : List Nat) (a : Option Addr) (len cap i : Nat) (w : World) (hl : NatsIn w a ln) (hT : Tb m ln) (hlen : len = m * m) (hi : i < m) :
    Calls Tryz.prog 103 #[.agg #[.int .i64 m, .slice a len cap], .int .i64 i] w fun e w' => e = .returned (.int .i64 (invF m ln i)) ∧ Below w.heap.size w w' := by
  have HT := Lib.hid hT
  have HL := Lib.hid hlen
  have HN := Lib.hid hl
  have hm := hT.hi
  clear hl hT hlen
  go_enter Tryz.func103, Tryz.ntmps103
  go_wp2_with fail
  obtain ⟨w1, hw1⟩ : ∃ w1, w1 = w.alloc (.cells #[.int .i64 (m : Nat), .slice a len cap] 25) := ⟨_, rfl⟩
  have hb1 : Below w.heap.size w w1 := by rw [hw1]; exact (Below.refl _ _).alloc (Nat.le_refl _) _
  have hx0 : ∀ W, Below w1.heap.size w1 W → W.cell? ⟨w.heap.size, 0, none⟩ = some (.int .i64 (m : Nat)) := fun W hW => by rw [hW.cell (by rw [hw1]; simp), hw1]; simp
  have hx1 : ∀ W, Below w1.heap.size w1 W → W.cell? ⟨w.heap.size, 1, none⟩ = some (.slice a len cap) := fun W hW => by rw [hW.cell (by rw [hw1]; simp), hw1]; simp
  have HN1 : Hid (∀ W, Below w1.heap.size w1 W → NatsIn W a ln) := fun W hW => (HN.out.later hb1).later hW
  rw [← hw1]
  have HB := Lib.hid hb1
  have hb0 := Below.refl w1.heap.size w1
  clear hw1 hb1 HN
  go_loopw [5] (fun i' wr => ∃ k : Nat, k ≤ m ∧ i' = .int .i64 k ∧ Below w1.heap.size w1 wr ∧ ∀ z, z < k → invB m ln i z = false) (fun i' _ => m - (intOf i').toNat)
  case atStart => exact ⟨0, Nat.zero_le _, rfl, Below.refl _ _, fun _ h => absurd h (Nat.not_lt_zero _)⟩
  case round =>
    clear hb0
    obtain ⟨k, hk, rfl, hbw, hn⟩ := hrel
    have HR := Lib.hid hn
    clear hn
    by_cases hlt : k < m
    · go_wp2_with fail
      refine (specTimes_any m ln a _ _ i k _ (HN1.out _ hbw) HT.out HL.out hi hlt).mono ?_
      rintro e w2 ⟨rfl, hb2⟩
      replace hbw := Below.now hbw hb2
      clear hb2
      cases e1 : (((tm m ln i k : Nat) : Int) == 0)
      · have F := Lib.hid (noneZ_succ HR.out (invB_of1 e1))
        go_wp2_with fail
        go_roundw
        case rel => exact ⟨k + 1, by omega, by go_num, hbw, F.out⟩
        case measure => simp [intOf]; omega
      · go_wp2_with fail
        refine (specTimes_any m ln a _ _ k i _ (HN1.out _ hbw) HT.out HL.out hlt hi).mono ?_
        rintro e w3 ⟨rfl, hb2⟩
        replace hbw := Below.now hbw hb2
        clear hb2
        cases e2 : (((tm m ln k i : Nat) : Int) == 0)
        · have F := Lib.hid (noneZ_succ HR.out (invB_of2 e1 e2))
          go_wp2_with fail
          go_roundw
          case rel => exact ⟨k + 1, by omega, by go_num, hbw, F.out⟩
          case measure => simp [intOf]; omega
        · have F := Lib.hid (invF_at HR.out hlt (invB_of2 e1 e2))
          go_wp2_with fail
          go_ret
          exact ⟨ret_int F.out.symm, Below.now HB.out hbw⟩
    · have F := Lib.hid (invF_none HR.out hlt)
      go_wp2_with fail
      go_ret
      exact ⟨ret_int F.out.symm, Below.now HB.out hbw⟩
theorem thoseL_not {n : Int} {l : List Int} {p : Nat → Bool} (h : tabB n l = false) : thoseL n l p = [] := by unfold thoseL; rw [h]; rfl
theorem thoseL_yes {m : Nat} {l : List Int} {p : Nat → Bool} (h : tabB (m : Nat) l = true) : thoseL (m : Nat) l p = listTo p m := by unfold thoseL; rw [h]; rfl
theorem thoseL_len (n : Int) (l : List Int) (p : Nat → Bool) : (thoseL n l p).length ≤ 1000 := by
  cases h : tabB n l
  · rw [thoseL_not h]; simp
  · obtain ⟨m, ln, rfl, rfl, hT⟩ := tabOk_out h
    rw [thoseL_yes h]
    have := listTo_len p m
    have := hT.hi
    omega
theorem unitsOfF_len (n : Int) (l : List Int) : (unitsOfF n l).length ≤ 1000 := thoseL_len _ _ _
theorem regularOfF_len (n : Int) (l : List Int) : (regularOfF n l).length ≤ 1000 := thoseL_len _ _ _
set_option maxRecDepth 100000 in
set_option maxHeartbeats 1000000 in
theorem specUnitsOf_any (n : Int) (l : List Int) (a : Option Addr) (cap : Nat) (w : World) (hl : IntsIn w a l) (hlen : l.length ≤ 2 ^ 47) :
    Calls Tryz.prog 72 #[.agg #[.int .i64 n, .slice a l.length cap]] w (RetSl 3 1 (unitsOfF n l).length (intVals (unitsOfF n l)) w) := by
  have HI := Lib.hid hl
  clear hl
  cases ht : tabB n l
  · have F : Hid (∀ w', Below w.heap.size w w' → RetSl 3 1 (unitsOfF n l).length (intVals (unitsOfF n l)) w (.returned (.slice none 0 0)) w') := fun w' hb => by
      rw [show unitsOfF n l = [] from thoseL_not ht]; exact retSl_nil _ _ _ hb
    go_enter Tryz.func72, Tryz.ntmps72
    go_wp2_with fail
    refine (specTableOk_any n l a cap _ (HI.out.later ((Below.refl _ _).alloc (Nat.le_refl _) _)) hlen).mono ?_
    rintro e w2 ⟨rfl, hb2⟩
    have hbel := Below.now ((Below.refl w.heap.size w).alloc (Nat.le_refl _) _) hb2
    clear hb2
    go_wp2_with fail
    go_ret
    exact F.out _ hbel
  obtain ⟨m, ln, rfl, hlm, hT⟩ := tabOk_out ht
  have HT := Lib.hid hT.toTb
  have hm0 := hT.lo
  have hm1 := hT.hi
  have HLM := Lib.hid hlm
  have HTB := Lib.hid ht
  have HLL : Hid (l.length = m * m) := by rw [hlm, List.length_map]; exact hT.len
  clear hT hlm
  go_enter Tryz.func72, Tryz.ntmps72
  go_wp2_with fail
  refine (specTableOk_any _ l a cap _ (HI.out.later ((Below.refl _ _).alloc (Nat.le_refl _) _)) hlen).mono ?_
  rintro e w1 ⟨rfl, hb1⟩
  have hx0 := box_later hb1 (i := 0) (v := .int .i64 (m : Nat)) rfl
  have hx1 := box_later hb1 (i := 1) (v := .slice a l.length cap) rfl
  have HN1 : Hid (∀ W, Below w1.heap.size w1 W → NatsIn W a ln) := fun W hW => by
    unfold NatsIn
    rw [← HLM.out]
    exact (HI.out.later (Below.now ((Below.refl _ _).alloc (Nat.le_refl _) _) hb1)).later hW
  have hbel := Lib.hid (Below.now ((Below.refl w.heap.size w).alloc (Nat.le_refl _) _) hb1)
  have hb0 := Below.refl w1.heap.size w1
  clear hb1 HI
  go_wp2_with fail
  have HF : Hid (unitsOfF (m : Nat) l = listTo (isUnit m ln) m) := by unfold unitsOfF; rw [thoseL_yes HTB.out, HLM.out, map_toNat]; rfl
  have HS := Lib.hid (Bld.empty 3 1 w1)
  obtain ⟨w2, hw2⟩ : ∃ w2, w2 = w1.alloc (.cells #[] 3) := ⟨_, rfl⟩
  rw [← hw2] at HS
  rw [← hw2]
  clear hw2 hb0
  go_loopw [3, 4] (fun v i wr => ∃ c : Nat, c ≤ m ∧ i = .int .i64 c ∧ Bld 3 1 w1 wr v (listTo (isUnit m ln) c).length (intVals (listTo (isUnit m ln) c))) (fun _ i _ => m - (intOf i).toNat)
  case atStart => exact ⟨0, Nat.zero_le _, rfl, HS.out⟩
  case round =>
    clear HS
    obtain ⟨c, hcm, rfl, hbd⟩ := hrel
    have HB := Lib.hid hbd
    have hbw := hbd.2
    have hln := listTo_len (isUnit m ln) c
    clear hbd
    by_cases hlt : c < m
    · go_wp2_with fail
      refine (l08Inverse_any m ln a _ _ c _ (HN1.out _ hbw) HT.out HLL.out hlt).mono ?_
      rintro e w3 ⟨rfl, hb3⟩
      replace hbw := Below.now hbw hb3
      replace HB := Lib.hid (HB.out.later hb3)
      have hu := invF_unit m ln c
      clear hb3
      cases hq : isUnit m ln c
      · rw [hq] at hu
        have F := Lib.hid (listTo_no hq)
        go_wp2_with fail
        go_roundw
        case rel => exact ⟨c + 1, by omega, by go_num, by rw [F.out]; exact HB.out⟩
        case measure => simp [intOf]; omega
      · rw [hq] at hu
        have F := Lib.hid (listTo_yes hq)
        go_wp2_with (at_builtin; refine wpList_app1 rfl _ _ rfl Tryz.underlying23 Tryz.infoInt rfl (by decide) rfl HB.out rfl rfl ?c1 ?c2 ?c3 ?c4)
        case c1 => simp [Value.oneCell']
        case c2 => unfold maxLen; omega
        case c3 => omega
        intro v2 w4 hb2
        have F2 : Hid (Bld 3 1 w1 w4 v2 (listTo (isUnit m ln) (c + 1)).length (intVals (listTo (isUnit m ln) (c + 1)))) := by
          rw [F.out, List.length_append]; unfold intVals at *; rw [List.map_append]; exact hb2
        clear hb2
        go_wp2_with fail
        go_roundw
        case rel => exact ⟨c + 1, by omega, by go_num, F2.out⟩
        case measure => simp [intOf]; omega
    · obtain rfl : c = m := by omega
      have F : Hid (RetSl 3 1 (unitsOfF (c : Nat) l).length (intVals (unitsOfF (c : Nat) l)) w (.returned u3) wr) := by
        rw [HF.out]; exact (HB.out.since hbel.out).ret
      go_wp2_with fail
      go_ret
      exact F.out
/-- IsGroup as a function of plain data -/
def groupB (n : Int) (l : List Int) : Bool := tabB n l && decide ((((unitsOfF n l).length : Nat) : Int) = n)
theorem groupB_not {n : Int} {l : List Int} (h : tabB n l = false) : groupB n l = false := by simp [groupB, h]
theorem groupB_yes {n : Int} {l : List Int} (h : tabB n l = true) : groupB n l = ((((unitsOfF n l).length : Nat) : Int) == n) := by
  simp only [groupB, h, Bool.true_and]; rfl
set_option maxHeartbeats 1000000 in
theorem specIsGroup_any (n : Int) (l : List Int) (a : Option Addr) (cap : Nat) (w : World) (hl : IntsIn w a l) (hlen : l.length ≤ 2 ^ 47) :
    Calls Tryz.prog 33 #[.agg #[.int .i64 n, .slice a l.length cap]] w fun e w' => e = .returned (.bool (groupB n l)) ∧ Below w.heap.size w w' := by
  have HI := Lib.hid hl
  clear hl
  have HE : Hid (groupB n l = (tabB n l && ((((unitsOfF n l).length : Nat) : Int) == n))) := rfl
  go_enter Tryz.func33, Tryz.ntmps33
  go_wp2_with fail
  obtain ⟨w0, hw0⟩ : ∃ w0, w0 = w.alloc (.cells #[.int .i64 n, .slice a l.length cap] 25) := ⟨_, rfl⟩
  have HX : Hid (Below w.heap.size w w0) := by rw [hw0]; exact (Below.refl _ _).alloc (Nat.le_refl _) _
  have hx0 : ∀ W, Below w0.heap.size w0 W → W.cell? ⟨w.heap.size, 0, none⟩ = some (.int .i64 n) := fun W hW => by rw [hW.cell (by rw [hw0]; simp), hw0]; simp
  have hx1 : ∀ W, Below w0.heap.size w0 W → W.cell? ⟨w.heap.size, 1, none⟩ = some (.slice a l.length cap) := fun W hW => by rw [hW.cell (by rw [hw0]; simp), hw0]; simp
  rw [← hw0]
  clear hw0
  have z0 := hx0 _ (Below.refl _ _)
  have z1 := hx1 _ (Below.refl _ _)
  cases ht : tabB n l
  · have q0 : ∀ x, (wide w0 x).cell? ⟨w.heap.size, 0, none⟩ = some (.int .i64 n) := wide_cell z0
    have q1 : ∀ x, (wide w0 x).cell? ⟨w.heap.size, 1, none⟩ = some (.slice a l.length cap) := wide_cell z1
    clear hx0 hx1 z0 z1
    refine region_wide (by kernel_rfl) (by kernel_rfl) ?_
    repeat (quiet_step ((refine (specTableOk_any n l a cap _ ((HI.out.later HX.out).later (below_wide _ _)) hlen).mono ?_; rintro e w2 ⟨h2, hb2⟩; rw [ht] at h2; subst h2; exact ⟨rfl, wide_next hb2⟩)))
    refine wpQuiet_nil ?_
    rintro w4 ⟨x4, rfl⟩
    have hend := Below.now HX.out (below_wide w0 x4)
    clear q0 q1
    go_wp2_with fail
    go_ret
    exact ⟨ret_bool (by rw [HE.out, ht]; rfl), hend⟩
  · go_region_held3 (fun w' => w'.cell? ⟨w.heap.size, 0, none⟩ = some (.int .i64 n) ∧ w'.cell? ⟨w.heap.size, 1, none⟩ = some (.slice a l.length cap)) (go_keep) (first | (go_at_call 71; refine (specTableOk_any n l a cap _ (HI.out.later (by repeat (first | exact HX.out | refine Below.drew ?_))) hlen).mono ?_; rintro e w2 ⟨h2, hb2⟩; rw [ht] at h2; subst h2; have k2 : Below w0.heap.size w0 w2 := Below.now (by repeat (first | exact Below.refl _ _ | refine Below.drew ?_)) hb2; have y0 := hx0 _ k2; have y1 := hx1 _ k2; clear hb2) | (go_at_call 72; refine (specUnitsOf_any n l a cap _ (HI.out.later (Below.now HX.out k2)) hlen).mono ?_; rintro e w3 ⟨a3, c3, rfl, ho, hb3⟩; have k3 : Below w0.heap.size w0 w3 := Below.now k2 hb3; have u0 := hx0 _ k3; have u1 := hx1 _ k3; clear hb3 ho))
    all_goals
      have hend := Below.now HX.out k3
      clear hx0 hx1 z0 z1
      go_wp2_with fail
      go_ret
      exact ⟨ret_bool (by rw [HE.out, ht]; rfl), hend⟩
set_option maxHeartbeats 1000000 in
theorem implIsGroup_any (n : Int) (l : List Int) (a : Option Addr) (cap : Nat) (w : World) (hl : IntsIn w a l) (hlen : l.length ≤ 2 ^ 47) :
    Calls Tryz.prog 13 #[.agg #[.int .i64 n, .slice a l.length cap]] w fun e w' => e = .returned (.bool (groupB n l)) ∧ Below w.heap.size w w' := by
  have HI := Lib.hid hl
  clear hl
  have HE : Hid (groupB n l = (tabB n l && ((((unitsOfF n l).length : Nat) : Int) == n))) := rfl
  go_enter Tryz.func13, Tryz.ntmps13
  go_wp2_with fail
  obtain ⟨w0, hw0⟩ : ∃ w0, w0 = w.alloc (.cells #[.int .i64 n, .slice a l.length cap] 25) := ⟨_, rfl⟩
  have HX : Hid (Below w.heap.size w w0) := by rw [hw0]; exact (Below.refl _ _).alloc (Nat.le_refl _) _
  have hx0 : ∀ W, Below w0.heap.size w0 W → W.cell? ⟨w.heap.size, 0, none⟩ = some (.int .i64 n) := fun W hW => by rw [hW.cell (by rw [hw0]; simp), hw0]; simp
  have hx1 : ∀ W, Below w0.heap.size w0 W → W.cell? ⟨w.heap.size, 1, none⟩ = some (.slice a l.length cap) := fun W hW => by rw [hW.cell (by rw [hw0]; simp), hw0]; simp
  rw [← hw0]
  clear hw0
  have z0 := hx0 _ (Below.refl _ _)
  have z1 := hx1 _ (Below.refl _ _)
  cases ht : tabB n l
  · have q0 : ∀ x, (wide w0 x).cell? ⟨w.heap.size, 0, none⟩ = some (.int .i64 n) := wide_cell z0
    have q1 : ∀ x, (wide w0 x).cell? ⟨w.heap.size, 1, none⟩ = some (.slice a l.length cap) := wide_cell z1
    clear hx0 hx1 z0 z1
    refine region_wide (by kernel_rfl) (by kernel_rfl) ?_
    repeat (quiet_step ((refine (implTableOk_any n l a cap _ ((HI.out.later HX.out).later (below_wide _ _)) hlen).mono ?_; rintro e w2 ⟨h2, hb2⟩; rw [ht] at h2; subst h2; exact ⟨rfl, wide_next hb2⟩)))
    refine wpQuiet_nil ?_
    rintro w4 ⟨x4, rfl⟩
    have hend := Below.now HX.out (below_wide w0 x4)
    clear q0 q1
    go_wp2_with fail
    go_ret
    exact ⟨ret_bool (by rw [HE.out, ht]; rfl), hend⟩
  · go_region_held3 (fun w' => w'.cell? ⟨w.heap.size, 0, none⟩ = some (.int .i64 n) ∧ w'.cell? ⟨w.heap.size, 1, none⟩ = some (.slice a l.length cap)) (go_keep) (first | (go_at_call 44; refine (implTableOk_any n l a cap _ (HI.out.later (by repeat (first | exact HX.out | refine Below.drew ?_))) hlen).mono ?_; rintro e w2 ⟨h2, hb2⟩; rw [ht] at h2; subst h2; have k2 : Below w0.heap.size w0 w2 := Below.now (by repeat (first | exact Below.refl _ _ | refine Below.drew ?_)) hb2; have y0 := hx0 _ k2; have y1 := hx1 _ k2; clear hb2) | (go_at_call 45; refine (implUnitsOf_any n l a cap _ (HI.out.later (Below.now HX.out k2)) hlen).mono ?_; rintro e w3 ⟨a3, c3, rfl, ho, hb3⟩; have k3 : Below w0.heap.size w0 w3 := Below.now k2 hb3; have u0 := hx0 _ k3; have u1 := hx1 _ k3; clear hb3 ho))
    all_goals
      have hend := Below.now HX.out k3
      clear hx0 hx1 z0 z1
      go_wp2_with fail
      go_ret
      exact ⟨ret_bool (by rw [HE.out, ht]; rfl), hend⟩
end Go.Proofs.YtngbimgabcacpaaGreat
namespace Go.Proofs.YtngbimgabcacpaaGreat
open Go.RowKit
set_option linter.unusedVariables false
def idemB (m : Nat) (ln : List Nat) (i : Nat) : Bool := decide (tm m ln i i = i)
def idemF (n : Int) (l : List Int) : List Int := thoseL n l (idemB n.toNat (l.map Int.toNat))
theorem idemB_of {m : Nat} {ln : List Nat} {i : Nat} {b : Bool} (h : (((tm m ln i i : Nat) : Int) == ((i : Nat) : Int)) = b) : idemB m ln i = b := by
  cases b <;> simp at h <;> simp [idemB] <;> omega
end Go.Proofs.YtngbimgabcacpaaGreat
