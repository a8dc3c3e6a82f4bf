/-
  Putting an arc into an ascending list, of the reference.
-/
import Derived.Test.YtklbehapbchnaaaDoorFol06
import Derived.Test.YtklbehapbchnaaaDoorFol02
namespace Go.Proofs.YtklbehapbchnaaaDoor
open Go.RowKit
set_option linter.unusedVariables false
def eqAB (p q r x1 x2 x3 : Nat) : Bool := decide (p = x1 ∧ q = x2 ∧ r = x3)
theorem eqA_val {p q r x1 x2 x3 : Nat} {w : World} : (if (p : Int) = (x1 : Int) then (if (q : Int) = (x2 : Int) then (if (r : Int) = (x3 : Int) then Result.ok (Next.value (Value.bool true)) w else Result.ok (Next.value (Value.bool false)) w) else Result.ok (Next.value (Value.bool false)) w) else Result.ok (Next.value (Value.bool false)) w) = Result.ok (Next.value (Value.bool (eqAB p q r x1 x2 x3))) w := by
  unfold eqAB
  by_cases h1 : p = x1
  · by_cases h2 : q = x2
    · by_cases h3 : r = x3
      · simp [h1, h2, h3]
      · have h3' : ¬ (r : Int) = (x3 : Int) := by omega
        simp [h1, h2, h3, h3']
    · have h2' : ¬ (q : Int) = (x2 : Int) := by omega
      simp [h1, h2, h2']
  · have h1' : ¬ (p : Int) = (x1 : Int) := by omega
    simp [h1, h1']
theorem alloc_belS (w : World) (o : Obj) : Below w.heap.size w (w.alloc o) := (Below.refl _ _).alloc (Nat.le_refl _) _
theorem arcC_one (L : List Arc3) : ∀ u ∈ arcC L, u.oneCell' = true := fun u hu => by
  unfold arcC cellsL at hu
  obtain ⟨a, _, ha⟩ := List.mem_flatMap.1 hu
  simp only [arcV, List.mem_cons, List.not_mem_nil, or_false] at ha
  rcases ha with rfl | rfl | rfl <;> rfl
def RetPut (L : List Arc3) (x : Arc3) (w : World) (e : Ending) (w' : World) : Prop := ∃ a c, e = .returned (.slice a (putA L x).length c) ∧ (putA L x).length ≤ c ∧ ArcsIn w' a (putA L x) ∧ Below w.heap.size w w'
theorem ret_put {L : List Arc3} {x : Arc3} {k d : Nat} {w wx w4 : World} {v : Value} (hp : putA L x = L.take k ++ x :: L.drop k) (hk : k ≤ L.length) (hd : L.length - k = d) (hb : Bld 66 3 wx w4 v (k + 1 + d) (arcC (L.take k) ++ arcV x ++ arcC (L.drop k))) (hw : Below w.heap.size w wx) : RetPut L x w (.returned v) w4 := by
  have hlen : (putA L x).length = k + 1 + d := by
    rw [hp, List.length_append, List.length_take, List.length_cons, List.length_drop, Nat.min_eq_left hk]; omega
  have hcl : arcC (putA L x) = arcC (L.take k) ++ arcV x ++ arcC (L.drop k) := by
    rw [hp]; unfold arcC; rw [cellsL_app]
    show _ ++ cellsL arcV ([x] ++ L.drop k) = _
    rw [cellsL_app, cellsL_one, List.append_assoc]
  obtain ⟨a, c, rfl⟩ := owns_form hb.1
  refine ⟨a, c, by rw [hlen], ?_, ?_, Below.now hw hb.2⟩
  · rw [hlen]
    rcases hb.1.2 with ⟨hv, h0⟩ | ⟨g', cap', cur, hv, _, _, hn, _⟩
    · omega
    · simp only [Value.slice.injEq] at hv
      obtain ⟨_, _, rfl⟩ := hv
      exact hn
  · have h := owns_cells hb.1
    rw [← hcl] at h
    exact h
set_option maxRecDepth 20000 in
set_option maxHeartbeats 2000000 in
theorem l25Put_any (L : List Arc3) (x : Arc3) (av : Option Addr) (cap : Nat) (w : World) (hL : ArcsIn w av L) (hcap : L.length ≤ cap) (hl : L.length ≤ 200) (hnil : av = none → cap = 0) (hform : ∀ ad, av = some ad → ∃ b off, ad = ⟨b, off, none⟩) :
    Calls Tryd.prog 41 #[.slice av L.length cap, .agg #[.int .i64 ((x.1 : Nat) : Int), .int .i64 ((x.2.1 : Nat) : Int), .int .i64 ((x.2.2 : Nat) : Int)]] w (RetPut L x w) := by
  obtain ⟨x1, x2, x3⟩ := x
  simp only []
  have HB1 : Hid (Below w.heap.size w (w.alloc (.cells #[.int .i64 (x1 : Nat), .int .i64 (x2 : Nat), .int .i64 (x3 : Nat)] 66))) := Lib.hid ((Below.refl _ w).alloc (Nat.le_refl _) _)
  have HX : Hid (∀ W, Below (w.alloc (.cells #[.int .i64 (x1 : Nat), .int .i64 (x2 : Nat), .int .i64 (x3 : Nat)] 66)).heap.size (w.alloc (.cells #[.int .i64 (x1 : Nat), .int .i64 (x2 : Nat), .int .i64 (x3 : Nat)] 66)) W → W.cell? ⟨w.heap.size, 0, none⟩ = some (.int .i64 (x1 : Nat)) ∧ W.cell? ⟨w.heap.size, 1, none⟩ = some (.int .i64 (x2 : Nat)) ∧ W.cell? ⟨w.heap.size, 2, none⟩ = some (.int .i64 (x3 : Nat))) := Lib.hid (fun W hW => ⟨by rw [hW.cell (by simp)]; simp, by rw [hW.cell (by simp)]; simp, by rw [hW.cell (by simp)]; simp⟩)
  have HL1 := Lib.hid (hL.later HB1.out)
  clear hL
  go_enter Tryd.func41, Tryd.ntmps41
  go_wp2_with fail
  generalize w.alloc (.cells #[.int .i64 (x1 : Nat), .int .i64 (x2 : Nat), .int .i64 (x3 : Nat)] 66) = w1 at *
  obtain ⟨B, hB⟩ : ∃ B, w.heap.size = B := ⟨_, rfl⟩
  have HBE := Lib.hid hB
  rw [hB] at HX
  rw [hB]
  clear hB
  go_loopw [5] (fun vk wr => ∃ k : Nat, k ≤ L.length ∧ vk = .int .i64 (k : Nat) ∧ Hid (∀ i (h : i < L.length), i < k → ltA L[i] (x1, x2, x3) = true) ∧ Hid (Below w1.heap.size w1 wr)) (fun vk _ => L.length - (intOf vk).toNat)
  case atStart => exact ⟨0, Nat.zero_le _, rfl, Lib.hid (fun i h hi => by omega), Lib.hid (Below.refl _ _)⟩
  case round =>
    obtain ⟨k, hk, rfl, HK, HR⟩ := hrel
    by_cases hkl : k < L.length
    · obtain ⟨b, off, rfl, hbl, hcs⟩ := arc_cells (HL1.out.later HR.out) hkl
      have hki : (k : Int) < (L.length : Int) := by omega
      obtain ⟨⟨p, q, r⟩, he⟩ : ∃ y, L[k] = y := ⟨_, rfl⟩
      have HE := Lib.hid he
      have HCL : Hid (∀ W, Below wr.heap.size wr W → (W.cell? ⟨b, off + k * 3, none⟩ = some (.int .i64 ((p : Nat) : Int)) ∧ W.cell? ⟨b, off + k * 3 + 1, none⟩ = some (.int .i64 ((q : Nat) : Int)) ∧ W.cell? ⟨b, off + k * 3 + 2, none⟩ = some (.int .i64 ((r : Nat) : Int))) ∧ W.cell? ⟨B, 0, none⟩ = some (.int .i64 (x1 : Nat)) ∧ W.cell? ⟨B, 1, none⟩ = some (.int .i64 (x2 : Nat)) ∧ W.cell? ⟨B, 2, none⟩ = some (.int .i64 (x3 : Nat))) := Lib.hid (fun W hW => by
        have h1 := hcs k hkl
        rw [he] at h1
        exact ⟨⟨by rw [hW.cell hbl]; exact h1.1, by rw [hW.cell hbl]; exact h1.2.1, by rw [hW.cell hbl]; exact h1.2.2⟩, HX.out W (Below.now HR.out hW)⟩)
      have HLS := Lib.hid (fun W => l25Less_any (p, q, r) (x1, x2, x3) W)
      clear he hcs hbl
      go_upto_region 2 with fail
      refine region_each (fun W => Below wr.heap.size wr W) (fun W W2 => Below W.heap.size W W2) (fun u => by simp only [fPut, Act.put, List.setIfInBounds_toArray, List.set_cons_succ, List.set_cons_zero, Nat.zero_add, Nat.reduceAdd]; rfl) (by kernel_rfl) (by kernel_rfl) (by kernel_rfl) (Below.drew (Below.refl _ _)) ?_
      apply each_read (fun _ => Below.refl _ _) rfl
      · intro u wv hC hf
        obtain ⟨⟨z0, z1, z2⟩, b0, b1, b2⟩ := HCL.out _ hC
        clear hf
        go_simp
        try rfl
      apply each_read (fun _ => Below.refl _ _) rfl
      · intro u wv hC hf
        obtain ⟨⟨z0, z1, z2⟩, b0, b1, b2⟩ := HCL.out _ hC
        clear hf
        go_simp
        try rfl
      apply each_read (fun _ => Below.refl _ _) rfl
      · intro u wv hC hf
        obtain ⟨⟨z0, z1, z2⟩, b0, b1, b2⟩ := HCL.out _ hC
        obtain ⟨d1_0, -⟩ := hf
        have e1 : u 1 = _ := d1_0 rfl
        clear d1_0
        go_simp
        try rfl
      apply each_read (fun _ => Below.refl _ _) rfl
      · intro u wv hC hf
        obtain ⟨⟨z0, z1, z2⟩, b0, b1, b2⟩ := HCL.out _ hC
        obtain ⟨d0_0, d2_1, -⟩ := hf
        have e0 : u 0 = _ := d0_0 rfl
        clear d0_0
        have e2 : u 2 = _ := d2_1 rfl
        clear d2_1
        go_simp
        try rfl
      apply each_read (fun _ => Below.refl _ _) rfl
      · intro u wv hC hf
        obtain ⟨⟨z0, z1, z2⟩, b0, b1, b2⟩ := HCL.out _ hC
        obtain ⟨d3_0, -⟩ := hf
        have e3 : u 3 = _ := d3_0 rfl
        clear d3_0
        go_simp
        try rfl
      apply each_readG (fun _ => Below.refl _ _)
      · intro u wv hC hf
        obtain ⟨⟨z0, z1, z2⟩, b0, b1, b2⟩ := HCL.out _ hC
        obtain ⟨d4_0, -⟩ := hf
        have e4 : u 4 = _ := d4_0 rfl
        clear d4_0
        refine ⟨wanted_at rfl rfl rfl e4 rfl, ?_⟩
        go_simp
        try rfl
      apply each_readG (fun _ => Below.refl _ _)
      · intro u wv hC hf
        obtain ⟨⟨z0, z1, z2⟩, b0, b1, b2⟩ := HCL.out _ hC
        obtain ⟨d4_0, -⟩ := hf
        have e4 : u 4 = _ := d4_0 rfl
        clear d4_0
        refine ⟨wanted_at rfl rfl rfl e4 rfl, ?_⟩
        go_simp
        try rfl
      apply each_readG (fun _ => Below.refl _ _)
      · intro u wv hC hf
        obtain ⟨⟨z0, z1, z2⟩, b0, b1, b2⟩ := HCL.out _ hC
        obtain ⟨d5_0, d6_1, d4_2, -⟩ := hf
        have e5 : u 5 = _ := d5_0 rfl
        clear d5_0
        have e6 : u 6 = _ := d6_1 rfl
        clear d6_1
        have e4 : u 4 = _ := d4_2 rfl
        clear d4_2
        refine ⟨wanted_at rfl rfl rfl e4 rfl, ?_⟩
        go_simp
        try rfl
      apply each_readG (fun _ => Below.refl _ _)
      · intro u wv hC hf
        obtain ⟨⟨z0, z1, z2⟩, b0, b1, b2⟩ := HCL.out _ hC
        obtain ⟨d7_0, d4_1, -⟩ := hf
        have e7 : u 7 = _ := d7_0 rfl
        clear d7_0
        have e4 : u 4 = _ := d4_1 rfl
        clear d4_1
        refine ⟨wanted_at rfl rfl rfl e4 rfl, ?_⟩
        go_simp
        try rfl
      apply each_readG (fun _ => Below.refl _ _)
      · intro u wv hC hf
        obtain ⟨⟨z0, z1, z2⟩, b0, b1, b2⟩ := HCL.out _ hC
        obtain ⟨d4_0, -⟩ := hf
        have e4 : u 4 = _ := d4_0 rfl
        clear d4_0
        refine ⟨wanted_at rfl rfl rfl e4 rfl, ?_⟩
        go_simp
        try rfl
      apply each_callRG
      · intro u wv hC hf
        obtain ⟨⟨z0, z1, z2⟩, b0, b1, b2⟩ := HCL.out _ hC
        obtain ⟨d8_0, d9_1, d4_2, d4_3, -⟩ := hf
        have e8 : u 8 = _ := d8_0 rfl
        clear d8_0
        have e9 : u 9 = _ := d9_1 rfl
        clear d9_1
        have e4 : u 4 = _ := d4_2 rfl
        clear d4_2
        clear d4_3
        refine ⟨wanted_at rfl rfl rfl e4 rfl, ?_⟩
        apply Exists.intro; apply Exists.intro; apply And.intro
        · go_simp; exact ⟨rfl, rfl⟩
        · refine (HLS.out _).mono ?_
          rintro e w3 ⟨rfl, hb⟩
          exact ⟨rfl, Below.now hC hb, hb⟩
      apply each_read (fun _ => Below.refl _ _) rfl
      · intro u wv hC hf
        obtain ⟨⟨z0, z1, z2⟩, b0, b1, b2⟩ := HCL.out _ hC
        obtain ⟨d4_0, d10_1, -⟩ := hf
        have e4 : u 4 = _ := d4_0 rfl
        clear d4_0
        have e10 : u 10 = _ := d10_1 rfl
        clear d10_1
        go_simp
        try rfl
      intro u wv hC hall
      obtain ⟨a0, a1, a2, a3, a4, a5, a6, a7, a8, a9, a10, a11, -⟩ := hall
      have e0 : u 0 = _ := a0
      clear a0
      have e1 : u 1 = _ := a1
      clear a1
      have e2 : u 2 = _ := a2
      clear a2
      have e3 : u 3 = _ := a3
      clear a3
      have e4 : u 4 = _ := a4
      clear a4
      have e5 : u 5 = _ := a5
      clear a5
      have e6 : u 6 = _ := a6
      clear a6
      have e7 : u 7 = _ := a7
      clear a7
      have e8 : u 8 = _ := a8
      clear a8
      have e9 : u 9 = _ := a9
      clear a9
      have e10 : u 10 = _ := a10
      clear a10
      have e11 : u 11 = _ := a11
      clear a11
      simp only [e0, e1, e2, e3, e4, e5, e6, e7, e8, e9, e10, e11]
      clear e0 e1 e2 e3 e4 e5 e6 e7 e8 e9 e10 e11
      cases hq : ltA (p, q, r) (x1, x2, x3)
      · have HVC := Lib.hid hC
        have HKX : Hid (∀ h : k < L.length, ltA L[k] (x1, x2, x3) = false) := Lib.hid (fun h => by rw [HE.out]; exact hq)
        have HPA := Lib.hid (putA_at HK.out HKX.out hk)
        have hgk : L[k]? = some (p, q, r) := by rw [List.getElem?_eq_getElem hkl, HE.out]
        rw [hgk] at HPA
        clear hC hgk
        go_upto_region 4 with fail
        refine region_each (fun W => Below wv.heap.size wv W) (fun W W2 => Below W.heap.size W W2) (fun u => by simp only [fPut, Act.put, List.setIfInBounds_toArray, List.set_cons_succ, List.set_cons_zero, Nat.zero_add, Nat.reduceAdd]; rfl) (by kernel_rfl) (by kernel_rfl) (by kernel_rfl) (Below.drew (Below.refl _ _)) ?_
        apply each_read (fun _ => Below.refl _ _) rfl
        · intro u wv hC hf
          obtain ⟨⟨z0, z1, z2⟩, b0, b1, b2⟩ := HCL.out _ (Below.now HVC.out hC)
          clear hf
          go_simp
          try rfl
        apply each_read (fun _ => Below.refl _ _) rfl
        · intro u wv hC hf
          obtain ⟨⟨z0, z1, z2⟩, b0, b1, b2⟩ := HCL.out _ (Below.now HVC.out hC)
          clear hf
          go_simp
          try rfl
        apply each_read (fun _ => Below.refl _ _) rfl
        · intro u wv hC hf
          obtain ⟨⟨z0, z1, z2⟩, b0, b1, b2⟩ := HCL.out _ (Below.now HVC.out hC)
          obtain ⟨d1_0, -⟩ := hf
          have e1 : u 1 = _ := d1_0 rfl
          clear d1_0
          go_simp
          try rfl
        apply each_read (fun _ => Below.refl _ _) rfl
        · intro u wv hC hf
          obtain ⟨⟨z0, z1, z2⟩, b0, b1, b2⟩ := HCL.out _ (Below.now HVC.out hC)
          obtain ⟨d0_0, d2_1, -⟩ := hf
          have e0 : u 0 = _ := d0_0 rfl
          clear d0_0
          have e2 : u 2 = _ := d2_1 rfl
          clear d2_1
          go_simp
          try rfl
        apply each_read (fun _ => Below.refl _ _) rfl
        · intro u wv hC hf
          obtain ⟨⟨z0, z1, z2⟩, b0, b1, b2⟩ := HCL.out _ (Below.now HVC.out hC)
          obtain ⟨d3_0, -⟩ := hf
          have e3 : u 3 = _ := d3_0 rfl
          clear d3_0
          go_simp
          try rfl
        apply each_readG (fun _ => Below.refl _ _)
        · intro u wv hC hf
          obtain ⟨⟨z0, z1, z2⟩, b0, b1, b2⟩ := HCL.out _ (Below.now HVC.out hC)
          obtain ⟨d4_0, -⟩ := hf
          have e4 : u 4 = _ := d4_0 rfl
          clear d4_0
          refine ⟨wanted_at rfl rfl rfl e4 rfl, ?_⟩
          go_simp
          try rfl
        apply each_readG (fun _ => Below.refl _ _)
        · intro u wv hC hf
          obtain ⟨⟨z0, z1, z2⟩, b0, b1, b2⟩ := HCL.out _ (Below.now HVC.out hC)
          obtain ⟨d4_0, -⟩ := hf
          have e4 : u 4 = _ := d4_0 rfl
          clear d4_0
          refine ⟨wanted_at rfl rfl rfl e4 rfl, ?_⟩
          go_simp
          try rfl
        apply each_readG (fun _ => Below.refl _ _)
        · intro u wv hC hf
          obtain ⟨⟨z0, z1, z2⟩, b0, b1, b2⟩ := HCL.out _ (Below.now HVC.out hC)
          obtain ⟨d5_0, d6_1, d4_2, -⟩ := hf
          have e5 : u 5 = _ := d5_0 rfl
          clear d5_0
          have e6 : u 6 = _ := d6_1 rfl
          clear d6_1
          have e4 : u 4 = _ := d4_2 rfl
          clear d4_2
          refine ⟨wanted_at rfl rfl rfl e4 rfl, ?_⟩
          go_simp
          try rfl
        apply each_readG (fun _ => Below.refl _ _)
        · intro u wv hC hf
          obtain ⟨⟨z0, z1, z2⟩, b0, b1, b2⟩ := HCL.out _ (Below.now HVC.out hC)
          obtain ⟨d7_0, d4_1, -⟩ := hf
          have e7 : u 7 = _ := d7_0 rfl
          clear d7_0
          have e4 : u 4 = _ := d4_1 rfl
          clear d4_1
          refine ⟨wanted_at rfl rfl rfl e4 rfl, ?_⟩
          go_simp
          try rfl
        apply each_readG (fun _ => Below.refl _ _)
        · intro u wv hC hf
          obtain ⟨⟨z0, z1, z2⟩, b0, b1, b2⟩ := HCL.out _ (Below.now HVC.out hC)
          obtain ⟨d4_0, -⟩ := hf
          have e4 : u 4 = _ := d4_0 rfl
          clear d4_0
          refine ⟨wanted_at rfl rfl rfl e4 rfl, ?_⟩
          go_simp
          try rfl
        apply each_readG (fun _ => Below.refl _ _)
        · intro u wv hC hf
          obtain ⟨⟨z0, z1, z2⟩, b0, b1, b2⟩ := HCL.out _ (Below.now HVC.out hC)
          obtain ⟨d8_0, d9_1, d4_2, -⟩ := hf
          have e8 : u 8 = _ := d8_0 rfl
          clear d8_0
          have e9 : u 9 = _ := d9_1 rfl
          clear d9_1
          have e4 : u 4 = _ := d4_2 rfl
          clear d4_2
          refine ⟨wanted_at rfl rfl rfl e4 rfl, ?_⟩
          go_simp
          exact eqA_val
        apply each_read (fun _ => Below.refl _ _) rfl
        · intro u wv hC hf
          obtain ⟨⟨z0, z1, z2⟩, b0, b1, b2⟩ := HCL.out _ (Below.now HVC.out hC)
          obtain ⟨d4_0, d10_1, -⟩ := hf
          have e4 : u 4 = _ := d4_0 rfl
          clear d4_0
          have e10 : u 10 = _ := d10_1 rfl
          clear d10_1
          go_simp
          try rfl
        intro u wx hD hall
        obtain ⟨a0, a1, a2, a3, a4, a5, a6, a7, a8, a9, a10, a11, -⟩ := hall
        have e0 : u 0 = _ := a0
        clear a0
        have e1 : u 1 = _ := a1
        clear a1
        have e2 : u 2 = _ := a2
        clear a2
        have e3 : u 3 = _ := a3
        clear a3
        have e4 : u 4 = _ := a4
        clear a4
        have e5 : u 5 = _ := a5
        clear a5
        have e6 : u 6 = _ := a6
        clear a6
        have e7 : u 7 = _ := a7
        clear a7
        have e8 : u 8 = _ := a8
        clear a8
        have e9 : u 9 = _ := a9
        clear a9
        have e10 : u 10 = _ := a10
        clear a10
        have e11 : u 11 = _ := a11
        clear a11
        simp only [e0, e1, e2, e3, e4, e5, e6, e7, e8, e9, e10, e11]
        clear e0 e1 e2 e3 e4 e5 e6 e7 e8 e9 e10 e11
        have HDX := Lib.hid (Below.now (Below.now HR.out HVC.out) hD)
        clear hD HVC HLS HCL
        obtain ⟨bq, hbq⟩ : ∃ bq, eqAB p q r x1 x2 x3 = bq := ⟨_, rfl⟩
        rw [hbq]
        have HBQ := Lib.hid hbq
        clear hbq
        cases bq
        case' true =>
          have e : p = x1 ∧ q = x2 ∧ r = x3 := of_decide_eq_true HBQ.out
          have F : Hid (RetPut L (x1, x2, x3) w (.returned (.slice (some ⟨b, off, none⟩) L.length cap)) wx) := Lib.hid (by
            have h := HPA.out
            rw [if_pos (by rw [e.1, e.2.1, e.2.2])] at h
            unfold RetPut
            rw [h]
            exact ⟨_, _, rfl, hcap, HL1.out.later HDX.out, Below.now HB1.out HDX.out⟩)
          clear e
          go_wp2_with fail
          go_ret
          exact F.out
        case' false =>
          have e : ¬ (p = x1 ∧ q = x2 ∧ r = x3) := of_decide_eq_false HBQ.out
          have HPB : Hid (putA L (x1, x2, x3) = L.take k ++ (x1, x2, x3) :: L.drop k) := Lib.hid (by
            have h := HPA.out
            rw [if_neg (fun h2 => e (by simpa using h2))] at h
            exact h)
          clear e HPA
          have HB6 := Lib.hid (Bld.empty 66 3 wx)
          have HWX := Lib.hid (Below.now HB1.out HDX.out)
          have HS1 : Hid (Src (wx.alloc (.cells #[] 66)) (.slice (some ⟨b, off, none⟩) k cap) k (arcC (L.take k))) := Lib.hid (Src.of_cells (RowsIn.later (ArcsIn.take (HL1.out.later HDX.out) k) (alloc_belS wx _)))
          have HN1 : Hid ((arcC (L.take k)).length = k * 3) := Lib.hid (by rw [arcC_len, List.length_take, Nat.min_eq_left hk])
          have HN2 : Hid (∀ u ∈ arcC (L.take k), u.oneCell' = true) := Lib.hid (arcC_one _)
          have HN3 : Hid (0 + k ≤ maxLen) := Lib.hid (by unfold maxLen; omega)
          have HN4 : Hid ((0 + k) * 24 ≤ 140737488355328) := Lib.hid (by omega)
          have hkc : k ≤ cap := by omega
          have hkci : (k : Int) ≤ (cap : Int) := by omega
          go_wp2_with (at_builtin; refine wpList_appM rfl _ _ rfl Tryd.underlying46 Tryd.infoArc rfl (by decide) (by rfl) HB6.out (by rfl) HS1.out HN1.out HN2.out HN3.out HN4.out ?p1)
          intro v2 w2 hb2 _ _
          have HB2 : Hid (Bld 66 3 wx w2 v2 k (arcC (L.take k))) := Lib.hid hb2
          obtain ⟨a2, c2, rfl⟩ := owns_form HB2.out.1
          obtain ⟨y0, y1, y2⟩ := HX.out w2 (Below.now HDX.out HB2.out.2)
          have HM1 : Hid (∀ u ∈ arcV (x1, x2, x3), u.oneCell' = true) := Lib.hid (by simp [arcV, Value.oneCell'])
          have HM2 : Hid (k + 1 ≤ maxLen) := Lib.hid (by unfold maxLen; omega)
          have HM3 : Hid ((k + 1) * 24 ≤ 140737488355328) := Lib.hid (by omega)
          clear hb2 HB6 HS1 HN1 HN2 HN3 HN4
          go_upto_region 7 with fail
          go_wp2_with (at_builtin; refine wpList_app1 (news := arcV (x1, x2, x3)) rfl (.tmp 39) (.tmp 41) rfl Tryd.underlying46 Tryd.infoArc rfl (by decide) (by rfl) HB2.out (by rfl) rfl HM1.out HM2.out HM3.out ?p2)
          intro v3 w3 hb3
          have HB3 : Hid (Bld 66 3 wx w3 v3 (k + 1) (arcC (L.take k) ++ arcV (x1, x2, x3))) := Lib.hid hb3
          obtain ⟨a3, c3, rfl⟩ := owns_form HB3.out.1
          obtain ⟨d, hd⟩ : ∃ d, L.length - k = d := ⟨_, rfl⟩
          have HS3 : Hid (Src w3 (.slice (some ⟨b, off + k * 3, none⟩) d (cap - k)) d (arcC (L.drop k))) := Lib.hid (Src.of_cells (ArcsIn.drop (HL1.out.later (Below.now HDX.out HB3.out.2)) k))
          have HP1 : Hid ((arcC (L.drop k)).length = d * 3) := Lib.hid (by rw [arcC_len, List.length_drop, hd])
          have HP2 : Hid (∀ u ∈ arcC (L.drop k), u.oneCell' = true) := Lib.hid (arcC_one _)
          have HP3 : Hid (k + 1 + d ≤ maxLen) := Lib.hid (by unfold maxLen; omega)
          have HP4 : Hid ((k + 1 + d) * 24 ≤ 140737488355328) := Lib.hid (by omega)
          clear hb3 HB2 HM1 HM2 HM3 y0 y1 y2
          go_upto_region 8 with fail
          have hkcap : k < cap := by omega
          have hkcapi : (k : Int) < (cap : Int) := by omega
          go_wp2_with (at_builtin; refine wpList_appM rfl (.tmp 43) (.tmp 46) rfl Tryd.underlying46 Tryd.infoArc rfl (by decide) (by rfl) HB3.out (by rfl) HS3.out HP1.out HP2.out HP3.out HP4.out ?p3)
          intro v4 w4 hb4 _ _
          have F : Hid (RetPut L (x1, x2, x3) w (.returned v4) w4) := Lib.hid (ret_put HPB.out hk hd (by rw [List.append_assoc]; exact hb4) HWX.out)
          clear hb4
          go_wp2_with fail
          go_ret
          exact F.out
      · have HK2 : Hid (∀ i (h : i < L.length), i < k + 1 → ltA L[i] (x1, x2, x3) = true) := Lib.hid (fun i h hi => by
          by_cases e : i = k
          · subst e; rw [HE.out]; exact hq
          · exact HK.out i h (by omega))
        have HR2 := Lib.hid (Below.now HR.out hC)
        clear hC hq
        go_wp2_with fail
        go_roundw
        case rel => exact ⟨k + 1, by omega, by go_num, HK2, HR2⟩
        case measure => simp [intOf]; omega
    · have hkn : ¬ (k : Int) < (L.length : Int) := by omega
      have HPB : Hid (putA L (x1, x2, x3) = L.take k ++ (x1, x2, x3) :: L.drop k) := Lib.hid (by
        have h := putA_at HK.out (fun h => absurd h hkl) hk
        rw [if_neg (fun h2 => by rw [List.getElem?_eq_none (by omega)] at h2; cases h2)] at h
        exact h)
      go_upto_region 2 with fail
      refine region_each (fun W => Below wr.heap.size wr W) (fun W W2 => Below W.heap.size W W2) (fun u => by simp only [fPut, Act.put, List.setIfInBounds_toArray, List.set_cons_succ, List.set_cons_zero, Nat.zero_add, Nat.reduceAdd]; rfl) (by kernel_rfl) (by kernel_rfl) (by kernel_rfl) (Below.drew (Below.refl _ _)) ?_
      apply each_read (fun _ => Below.refl _ _) rfl
      · intro u wv hC hf
        clear hf
        go_simp
        try rfl
      apply each_read (fun _ => Below.refl _ _) rfl
      · intro u wv hC hf
        clear hf
        go_simp
        try rfl
      apply each_read (fun _ => Below.refl _ _) rfl
      · intro u wv hC hf
        obtain ⟨d1_0, -⟩ := hf
        have e1 : u 1 = _ := d1_0 rfl
        clear d1_0
        go_simp
        try rfl
      apply each_read (fun _ => Below.refl _ _) rfl
      · intro u wv hC hf
        obtain ⟨d0_0, d2_1, -⟩ := hf
        have e0 : u 0 = _ := d0_0 rfl
        clear d0_0
        have e2 : u 2 = _ := d2_1 rfl
        clear d2_1
        go_simp
        try rfl
      apply each_read (fun _ => Below.refl _ _) rfl
      · intro u wv hC hf
        obtain ⟨d3_0, -⟩ := hf
        have e3 : u 3 = _ := d3_0 rfl
        clear d3_0
        go_simp
        try rfl
      refine each_off ?_ ?_
      · intro u wv hC hf
        obtain ⟨d4_0, -⟩ := hf
        have e4 : u 4 = _ := d4_0 rfl
        clear d4_0
        exact wanted_at rfl rfl rfl e4 rfl
      refine each_off ?_ ?_
      · intro u wv hC hf
        obtain ⟨d4_0, -⟩ := hf
        have e4 : u 4 = _ := d4_0 rfl
        clear d4_0
        exact wanted_at rfl rfl rfl e4 rfl
      refine each_off ?_ ?_
      · intro u wv hC hf
        obtain ⟨d5_0, d6_1, d4_2, -⟩ := hf
        have e5 : u 5 = _ := d5_0 rfl
        clear d5_0
        have e6 : u 6 = _ := d6_1 rfl
        clear d6_1
        have e4 : u 4 = _ := d4_2 rfl
        clear d4_2
        exact wanted_at rfl rfl rfl e4 rfl
      refine each_off ?_ ?_
      · intro u wv hC hf
        obtain ⟨d7_0, d4_1, -⟩ := hf
        have e7 : u 7 = _ := d7_0 rfl
        clear d7_0
        have e4 : u 4 = _ := d4_1 rfl
        clear d4_1
        exact wanted_at rfl rfl rfl e4 rfl
      refine each_off ?_ ?_
      · intro u wv hC hf
        obtain ⟨d4_0, -⟩ := hf
        have e4 : u 4 = _ := d4_0 rfl
        clear d4_0
        exact wanted_at rfl rfl rfl e4 rfl
      refine each_off ?_ ?_
      · intro u wv hC hf
        obtain ⟨d8_0, d9_1, d4_2, d4_3, -⟩ := hf
        have e8 : u 8 = _ := d8_0 rfl
        clear d8_0
        have e9 : u 9 = _ := d9_1 rfl
        clear d9_1
        have e4 : u 4 = _ := d4_2 rfl
        clear d4_2
        clear d4_3
        exact wanted_at rfl rfl rfl e4 rfl
      apply each_read (fun _ => Below.refl _ _) rfl
      · intro u wv hC hf
        obtain ⟨d4_0, d10_1, -⟩ := hf
        have e4 : u 4 = _ := d4_0 rfl
        clear d4_0
        have e10 : u 10 = _ := d10_1 rfl
        clear d10_1
        go_simp
        try rfl
      intro u wv hC hall
      obtain ⟨a0, a1, a2, a3, a4, a5, a6, a7, a8, a9, a10, a11, -⟩ := hall
      have e0 : u 0 = _ := a0
      clear a0
      have e1 : u 1 = _ := a1
      clear a1
      have e2 : u 2 = _ := a2
      clear a2
      have e3 : u 3 = _ := a3
      clear a3
      have e4 : u 4 = _ := a4
      clear a4
      have e5 : u 5 = _ := a5
      clear a5
      have e6 : u 6 = _ := a6
      clear a6
      have e7 : u 7 = _ := a7
      clear a7
      have e8 : u 8 = _ := a8
      clear a8
      have e9 : u 9 = _ := a9
      clear a9
      have e10 : u 10 = _ := a10
      clear a10
      have e11 : u 11 = _ := a11
      clear a11
      simp only [e0, e1, e2, e3, e4, e5, e6, e7, e8, e9, e10, e11]
      clear e0 e1 e2 e3 e4 e5 e6 e7 e8 e9 e10 e11
      have HVC := Lib.hid hC
      clear hC
      go_upto_region 4 with fail
      refine region_each (fun W => Below wv.heap.size wv W) (fun W W2 => Below W.heap.size W W2) (fun u => by simp only [fPut, Act.put, List.setIfInBounds_toArray, List.set_cons_succ, List.set_cons_zero, Nat.zero_add, Nat.reduceAdd]; rfl) (by kernel_rfl) (by kernel_rfl) (by kernel_rfl) (Below.drew (Below.refl _ _)) ?_
      apply each_read (fun _ => Below.refl _ _) rfl
      · intro u wv hC hf
        clear hf
        go_simp
        try rfl
      apply each_read (fun _ => Below.refl _ _) rfl
      · intro u wv hC hf
        clear hf
        go_simp
        try rfl
      apply each_read (fun _ => Below.refl _ _) rfl
      · intro u wv hC hf
        obtain ⟨d1_0, -⟩ := hf
        have e1 : u 1 = _ := d1_0 rfl
        clear d1_0
        go_simp
        try rfl
      apply each_read (fun _ => Below.refl _ _) rfl
      · intro u wv hC hf
        obtain ⟨d0_0, d2_1, -⟩ := hf
        have e0 : u 0 = _ := d0_0 rfl
        clear d0_0
        have e2 : u 2 = _ := d2_1 rfl
        clear d2_1
        go_simp
        try rfl
      apply each_read (fun _ => Below.refl _ _) rfl
      · intro u wv hC hf
        obtain ⟨d3_0, -⟩ := hf
        have e3 : u 3 = _ := d3_0 rfl
        clear d3_0
        go_simp
        try rfl
      refine each_off ?_ ?_
      · intro u wv hC hf
        obtain ⟨d4_0, -⟩ := hf
        have e4 : u 4 = _ := d4_0 rfl
        clear d4_0
        exact wanted_at rfl rfl rfl e4 rfl
      refine each_off ?_ ?_
      · intro u wv hC hf
        obtain ⟨d4_0, -⟩ := hf
        have e4 : u 4 = _ := d4_0 rfl
        clear d4_0
        exact wanted_at rfl rfl rfl e4 rfl
      refine each_off ?_ ?_
      · intro u wv hC hf
        obtain ⟨d5_0, d6_1, d4_2, -⟩ := hf
        have e5 : u 5 = _ := d5_0 rfl
        clear d5_0
        have e6 : u 6 = _ := d6_1 rfl
        clear d6_1
        have e4 : u 4 = _ := d4_2 rfl
        clear d4_2
        exact wanted_at rfl rfl rfl e4 rfl
      refine each_off ?_ ?_
      · intro u wv hC hf
        obtain ⟨d7_0, d4_1, -⟩ := hf
        have e7 : u 7 = _ := d7_0 rfl
        clear d7_0
        have e4 : u 4 = _ := d4_1 rfl
        clear d4_1
        exact wanted_at rfl rfl rfl e4 rfl
      refine each_off ?_ ?_
      · intro u wv hC hf
        obtain ⟨d4_0, -⟩ := hf
        have e4 : u 4 = _ := d4_0 rfl
        clear d4_0
        exact wanted_at rfl rfl rfl e4 rfl
      refine each_off ?_ ?_
      · intro u wv hC hf
        obtain ⟨d8_0, d9_1, d4_2, -⟩ := hf
        have e8 : u 8 = _ := d8_0 rfl
        clear d8_0
        have e9 : u 9 = _ := d9_1 rfl
        clear d9_1
        have e4 : u 4 = _ := d4_2 rfl
        clear d4_2
        exact wanted_at rfl rfl rfl e4 rfl
      apply each_read (fun _ => Below.refl _ _) rfl
      · intro u wv hC hf
        obtain ⟨d4_0, d10_1, -⟩ := hf
        have e4 : u 4 = _ := d4_0 rfl
        clear d4_0
        have e10 : u 10 = _ := d10_1 rfl
        clear d10_1
        go_simp
        try rfl
      intro u wx hD hall
      obtain ⟨a0, a1, a2, a3, a4, a5, a6, a7, a8, a9, a10, a11, -⟩ := hall
      have e0 : u 0 = _ := a0
      clear a0
      have e1 : u 1 = _ := a1
      clear a1
      have e2 : u 2 = _ := a2
      clear a2
      have e3 : u 3 = _ := a3
      clear a3
      have e4 : u 4 = _ := a4
      clear a4
      have e5 : u 5 = _ := a5
      clear a5
      have e6 : u 6 = _ := a6
      clear a6
      have e7 : u 7 = _ := a7
      clear a7
      have e8 : u 8 = _ := a8
      clear a8
      have e9 : u 9 = _ := a9
      clear a9
      have e10 : u 10 = _ := a10
      clear a10
      have e11 : u 11 = _ := a11
      clear a11
      simp only [e0, e1, e2, e3, e4, e5, e6, e7, e8, e9, e10, e11]
      clear e0 e1 e2 e3 e4 e5 e6 e7 e8 e9 e10 e11
      have HDX := Lib.hid (Below.now (Below.now HR.out HVC.out) hD)
      clear hD HVC
      rcases Nat.eq_zero_or_pos L.length with h0 | h0
      · obtain rfl : k = 0 := by omega
        have HSE : ∀ W : World, Src W (.slice av 0 cap) 0 (arcC (L.take 0)) := fun W => by
          cases av with
          | none => exact .inl ⟨by rw [hnil rfl], rfl, rfl⟩
          | some ad => exact .inr ⟨_, _, rfl, fun j u hu => by simp [arcC, cellsL] at hu⟩
        have HSF : ∀ W : World, Src W (.slice av 0 cap) 0 (arcC (L.drop 0)) := fun W => by
          rw [List.eq_nil_of_length_eq_zero h0]
          cases av with
          | none => exact .inl ⟨by rw [hnil rfl], rfl, rfl⟩
          | some ad => exact .inr ⟨_, _, rfl, fun j u hu => by simp [arcC, cellsL] at hu⟩
        rcases Nat.eq_zero_or_pos cap with hc0 | hc0
        · subst hc0
          cases av with
          | none =>
            have HB6 := Lib.hid (Bld.empty 66 3 wx)
            have HWX := Lib.hid (Below.now HB1.out HDX.out)
            have HS1 : Hid (Src (wx.alloc (.cells #[] 66)) (.slice none 0 0) 0 (arcC (L.take 0))) := Lib.hid (HSE _)
            have HN1 : Hid ((arcC (L.take 0)).length = 0 * 3) := Lib.hid (by rw [arcC_len, List.length_take, Nat.min_eq_left hk])
            have HN2 : Hid (∀ u ∈ arcC (L.take 0), u.oneCell' = true) := Lib.hid (arcC_one _)
            have HN3 : Hid (0 + 0 ≤ maxLen) := Lib.hid (by unfold maxLen; omega)
            have HN4 : Hid ((0 + 0) * 24 ≤ 140737488355328) := Lib.hid (by omega)
            go_wp2_with (at_builtin; refine wpList_appM rfl _ _ rfl Tryd.underlying46 Tryd.infoArc rfl (by decide) (by rfl) HB6.out (by rfl) HS1.out HN1.out HN2.out HN3.out HN4.out ?t1)
            intro v2 w2 hb2 _ _
            have HB2 : Hid (Bld 66 3 wx w2 v2 0 (arcC (L.take 0))) := Lib.hid hb2
            obtain ⟨a2, c2, rfl⟩ := owns_form HB2.out.1
            obtain ⟨y0, y1, y2⟩ := HX.out w2 (Below.now HDX.out HB2.out.2)
            have HM1 : Hid (∀ u ∈ arcV (x1, x2, x3), u.oneCell' = true) := Lib.hid (by simp [arcV, Value.oneCell'])
            have HM2 : Hid (0 + 1 ≤ maxLen) := Lib.hid (by unfold maxLen; omega)
            have HM3 : Hid ((0 + 1) * 24 ≤ 140737488355328) := Lib.hid (by omega)
            clear hb2 HB6 HS1 HN1 HN2 HN3 HN4
            go_upto_region 7 with fail
            go_wp2_with (at_builtin; refine wpList_app1 (news := arcV (x1, x2, x3)) rfl (.tmp 39) (.tmp 41) rfl Tryd.underlying46 Tryd.infoArc rfl (by decide) (by rfl) HB2.out (by rfl) rfl HM1.out HM2.out HM3.out ?t2)
            intro v3 w3 hb3
            have HB3 : Hid (Bld 66 3 wx w3 v3 (0 + 1) (arcC (L.take 0) ++ arcV (x1, x2, x3))) := Lib.hid hb3
            obtain ⟨a3, c3, rfl⟩ := owns_form HB3.out.1
            have hd : L.length - 0 = 0 := by omega
            have HS3 : Hid (Src w3 (.slice none 0 0) 0 (arcC (L.drop 0))) := Lib.hid (HSF _)
            have HP1 : Hid ((arcC (L.drop 0)).length = 0 * 3) := Lib.hid (by rw [arcC_len, List.length_drop, hd])
            have HP2 : Hid (∀ u ∈ arcC (L.drop 0), u.oneCell' = true) := Lib.hid (arcC_one _)
            have HP3 : Hid (0 + 1 + 0 ≤ maxLen) := Lib.hid (by unfold maxLen; omega)
            have HP4 : Hid ((0 + 1 + 0) * 24 ≤ 140737488355328) := Lib.hid (by omega)
            have HD := Lib.hid hd
            clear hb3 HB2 HM1 HM2 HM3 y0 y1 y2 hd
            go_upto_region 8 with fail
            go_wp2_with (at_builtin; refine wpList_appM rfl (.tmp 43) (.tmp 46) rfl Tryd.underlying46 Tryd.infoArc rfl (by decide) (by rfl) HB3.out (by rfl) HS3.out HP1.out HP2.out HP3.out HP4.out ?t31)
            intro v4 w4 hb4 _ _
            have F : Hid (RetPut L (x1, x2, x3) w (.returned v4) w4) := Lib.hid (ret_put HPB.out hk HD.out (by rw [List.append_assoc]; exact hb4) HWX.out)
            clear hb4
            go_wp2_with fail
            go_ret
            exact F.out
          | some ad =>
            obtain ⟨b, off, rfl⟩ := hform ad rfl
            have HB6 := Lib.hid (Bld.empty 66 3 wx)
            have HWX := Lib.hid (Below.now HB1.out HDX.out)
            have HS1 : Hid (Src (wx.alloc (.cells #[] 66)) (.slice (some ⟨b, off, none⟩) 0 0) 0 (arcC (L.take 0))) := Lib.hid (HSE _)
            have HN1 : Hid ((arcC (L.take 0)).length = 0 * 3) := Lib.hid (by rw [arcC_len, List.length_take, Nat.min_eq_left hk])
            have HN2 : Hid (∀ u ∈ arcC (L.take 0), u.oneCell' = true) := Lib.hid (arcC_one _)
            have HN3 : Hid (0 + 0 ≤ maxLen) := Lib.hid (by unfold maxLen; omega)
            have HN4 : Hid ((0 + 0) * 24 ≤ 140737488355328) := Lib.hid (by omega)
            go_wp2_with (at_builtin; refine wpList_appM rfl _ _ rfl Tryd.underlying46 Tryd.infoArc rfl (by decide) (by rfl) HB6.out (by rfl) HS1.out HN1.out HN2.out HN3.out HN4.out ?u1)
            intro v2 w2 hb2 _ _
            have HB2 : Hid (Bld 66 3 wx w2 v2 0 (arcC (L.take 0))) := Lib.hid hb2
            obtain ⟨a2, c2, rfl⟩ := owns_form HB2.out.1
            obtain ⟨y0, y1, y2⟩ := HX.out w2 (Below.now HDX.out HB2.out.2)
            have HM1 : Hid (∀ u ∈ arcV (x1, x2, x3), u.oneCell' = true) := Lib.hid (by simp [arcV, Value.oneCell'])
            have HM2 : Hid (0 + 1 ≤ maxLen) := Lib.hid (by unfold maxLen; omega)
            have HM3 : Hid ((0 + 1) * 24 ≤ 140737488355328) := Lib.hid (by omega)
            clear hb2 HB6 HS1 HN1 HN2 HN3 HN4
            go_upto_region 7 with fail
            go_wp2_with (at_builtin; refine wpList_app1 (news := arcV (x1, x2, x3)) rfl (.tmp 39) (.tmp 41) rfl Tryd.underlying46 Tryd.infoArc rfl (by decide) (by rfl) HB2.out (by rfl) rfl HM1.out HM2.out HM3.out ?u2)
            intro v3 w3 hb3
            have HB3 : Hid (Bld 66 3 wx w3 v3 (0 + 1) (arcC (L.take 0) ++ arcV (x1, x2, x3))) := Lib.hid hb3
            obtain ⟨a3, c3, rfl⟩ := owns_form HB3.out.1
            have hd : L.length - 0 = 0 := by omega
            have HS3 : Hid (Src w3 (.slice (some ⟨b, off, none⟩) 0 0) 0 (arcC (L.drop 0))) := Lib.hid (HSF _)
            have HP1 : Hid ((arcC (L.drop 0)).length = 0 * 3) := Lib.hid (by rw [arcC_len, List.length_drop, hd])
            have HP2 : Hid (∀ u ∈ arcC (L.drop 0), u.oneCell' = true) := Lib.hid (arcC_one _)
            have HP3 : Hid (0 + 1 + 0 ≤ maxLen) := Lib.hid (by unfold maxLen; omega)
            have HP4 : Hid ((0 + 1 + 0) * 24 ≤ 140737488355328) := Lib.hid (by omega)
            have HD := Lib.hid hd
            clear hb3 HB2 HM1 HM2 HM3 y0 y1 y2 hd
            go_upto_region 8 with fail
            go_wp2_with (at_builtin; refine wpList_appM rfl (.tmp 43) (.tmp 46) rfl Tryd.underlying46 Tryd.infoArc rfl (by decide) (by rfl) HB3.out (by rfl) HS3.out HP1.out HP2.out HP3.out HP4.out ?u31)
            intro v4 w4 hb4 _ _
            have F : Hid (RetPut L (x1, x2, x3) w (.returned v4) w4) := Lib.hid (ret_put HPB.out hk HD.out (by rw [List.append_assoc]; exact hb4) HWX.out)
            clear hb4
            go_wp2_with fail
            go_ret
            exact F.out
        · cases av with
          | none => exact absurd (hnil rfl) (by omega)
          | some ad =>
            obtain ⟨b, off, rfl⟩ := hform ad rfl
            have HB6 := Lib.hid (Bld.empty 66 3 wx)
            have HWX := Lib.hid (Below.now HB1.out HDX.out)
            have HS1 : Hid (Src (wx.alloc (.cells #[] 66)) (.slice (some ⟨b, off, none⟩) 0 cap) 0 (arcC (L.take 0))) := Lib.hid (HSE _)
            have HN1 : Hid ((arcC (L.take 0)).length = 0 * 3) := Lib.hid (by rw [arcC_len, List.length_take, Nat.min_eq_left hk])
            have HN2 : Hid (∀ u ∈ arcC (L.take 0), u.oneCell' = true) := Lib.hid (arcC_one _)
            have HN3 : Hid (0 + 0 ≤ maxLen) := Lib.hid (by unfold maxLen; omega)
            have HN4 : Hid ((0 + 0) * 24 ≤ 140737488355328) := Lib.hid (by omega)
            go_wp2_with (at_builtin; refine wpList_appM rfl _ _ rfl Tryd.underlying46 Tryd.infoArc rfl (by decide) (by rfl) HB6.out (by rfl) HS1.out HN1.out HN2.out HN3.out HN4.out ?v1)
            intro v2 w2 hb2 _ _
            have HB2 : Hid (Bld 66 3 wx w2 v2 0 (arcC (L.take 0))) := Lib.hid hb2
            obtain ⟨a2, c2, rfl⟩ := owns_form HB2.out.1
            obtain ⟨y0, y1, y2⟩ := HX.out w2 (Below.now HDX.out HB2.out.2)
            have HM1 : Hid (∀ u ∈ arcV (x1, x2, x3), u.oneCell' = true) := Lib.hid (by simp [arcV, Value.oneCell'])
            have HM2 : Hid (0 + 1 ≤ maxLen) := Lib.hid (by unfold maxLen; omega)
            have HM3 : Hid ((0 + 1) * 24 ≤ 140737488355328) := Lib.hid (by omega)
            clear hb2 HB6 HS1 HN1 HN2 HN3 HN4
            go_upto_region 7 with fail
            go_wp2_with (at_builtin; refine wpList_app1 (news := arcV (x1, x2, x3)) rfl (.tmp 39) (.tmp 41) rfl Tryd.underlying46 Tryd.infoArc rfl (by decide) (by rfl) HB2.out (by rfl) rfl HM1.out HM2.out HM3.out ?v2)
            intro v3 w3 hb3
            have HB3 : Hid (Bld 66 3 wx w3 v3 (0 + 1) (arcC (L.take 0) ++ arcV (x1, x2, x3))) := Lib.hid hb3
            obtain ⟨a3, c3, rfl⟩ := owns_form HB3.out.1
            have hd : L.length - 0 = 0 := by omega
            have HS3 : Hid (Src w3 (.slice (some ⟨b, off, none⟩) 0 cap) 0 (arcC (L.drop 0))) := Lib.hid (HSF _)
            have HP1 : Hid ((arcC (L.drop 0)).length = 0 * 3) := Lib.hid (by rw [arcC_len, List.length_drop, hd])
            have HP2 : Hid (∀ u ∈ arcC (L.drop 0), u.oneCell' = true) := Lib.hid (arcC_one _)
            have HP3 : Hid (0 + 1 + 0 ≤ maxLen) := Lib.hid (by unfold maxLen; omega)
            have HP4 : Hid ((0 + 1 + 0) * 24 ≤ 140737488355328) := Lib.hid (by omega)
            have HD := Lib.hid hd
            clear hb3 HB2 HM1 HM2 HM3 y0 y1 y2 hd
            go_upto_region 8 with fail
            go_wp2_with (at_builtin; refine wpList_appM rfl (.tmp 43) (.tmp 46) rfl Tryd.underlying46 Tryd.infoArc rfl (by decide) (by rfl) HB3.out (by rfl) HS3.out HP1.out HP2.out HP3.out HP4.out ?v31)
            intro v4 w4 hb4 _ _
            have F : Hid (RetPut L (x1, x2, x3) w (.returned v4) w4) := Lib.hid (ret_put HPB.out hk HD.out (by rw [List.append_assoc]; exact hb4) HWX.out)
            clear hb4
            go_wp2_with fail
            go_ret
            exact F.out
      · obtain ⟨b, off, rfl, hbl, hcs⟩ := arc_cells (HL1.out.later HR.out) (k := 0) h0
        clear hbl hcs
        have hke : L.length = k := by omega
        by_cases hcc : k < cap
        · skip
          have HB6 := Lib.hid (Bld.empty 66 3 wx)
          have HWX := Lib.hid (Below.now HB1.out HDX.out)
          have HS1 : Hid (Src (wx.alloc (.cells #[] 66)) (.slice (some ⟨b, off, none⟩) k cap) k (arcC (L.take k))) := Lib.hid (Src.of_cells (RowsIn.later (ArcsIn.take (HL1.out.later HDX.out) k) (alloc_belS wx _)))
          have HN1 : Hid ((arcC (L.take k)).length = k * 3) := Lib.hid (by rw [arcC_len, List.length_take, Nat.min_eq_left hk])
          have HN2 : Hid (∀ u ∈ arcC (L.take k), u.oneCell' = true) := Lib.hid (arcC_one _)
          have HN3 : Hid (0 + k ≤ maxLen) := Lib.hid (by unfold maxLen; omega)
          have HN4 : Hid ((0 + k) * 24 ≤ 140737488355328) := Lib.hid (by omega)
          have hkc : k ≤ cap := by omega
          have hkci : (k : Int) ≤ (cap : Int) := by omega
          go_wp2_with (at_builtin; refine wpList_appM rfl _ _ rfl Tryd.underlying46 Tryd.infoArc rfl (by decide) (by rfl) HB6.out (by rfl) HS1.out HN1.out HN2.out HN3.out HN4.out ?q1)
          intro v2 w2 hb2 _ _
          have HB2 : Hid (Bld 66 3 wx w2 v2 k (arcC (L.take k))) := Lib.hid hb2
          obtain ⟨a2, c2, rfl⟩ := owns_form HB2.out.1
          obtain ⟨y0, y1, y2⟩ := HX.out w2 (Below.now HDX.out HB2.out.2)
          have HM1 : Hid (∀ u ∈ arcV (x1, x2, x3), u.oneCell' = true) := Lib.hid (by simp [arcV, Value.oneCell'])
          have HM2 : Hid (k + 1 ≤ maxLen) := Lib.hid (by unfold maxLen; omega)
          have HM3 : Hid ((k + 1) * 24 ≤ 140737488355328) := Lib.hid (by omega)
          clear hb2 HB6 HS1 HN1 HN2 HN3 HN4
          go_upto_region 7 with fail
          go_wp2_with (at_builtin; refine wpList_app1 (news := arcV (x1, x2, x3)) rfl (.tmp 39) (.tmp 41) rfl Tryd.underlying46 Tryd.infoArc rfl (by decide) (by rfl) HB2.out (by rfl) rfl HM1.out HM2.out HM3.out ?q2)
          intro v3 w3 hb3
          have HB3 : Hid (Bld 66 3 wx w3 v3 (k + 1) (arcC (L.take k) ++ arcV (x1, x2, x3))) := Lib.hid hb3
          obtain ⟨a3, c3, rfl⟩ := owns_form HB3.out.1
          have hd : L.length - k = 0 := by omega
          have HS3 : Hid (Src w3 (.slice (some ⟨b, off + k * 3, none⟩) 0 (cap - k)) 0 (arcC (L.drop k))) := Lib.hid (Src.of_cells (ArcsIn.drop (HL1.out.later (Below.now HDX.out HB3.out.2)) k))
          have HP1 : Hid ((arcC (L.drop k)).length = 0 * 3) := Lib.hid (by rw [arcC_len, List.length_drop, hd])
          have HP2 : Hid (∀ u ∈ arcC (L.drop k), u.oneCell' = true) := Lib.hid (arcC_one _)
          have HP3 : Hid (k + 1 + 0 ≤ maxLen) := Lib.hid (by unfold maxLen; omega)
          have HP4 : Hid ((k + 1 + 0) * 24 ≤ 140737488355328) := Lib.hid (by omega)
          have HD := Lib.hid hd
          clear hb3 HB2 HM1 HM2 HM3 y0 y1 y2 hd
          go_upto_region 8 with fail
          have hkcap : k < cap := by omega
          have hkcapi : (k : Int) < (cap : Int) := by omega
          go_wp2_with (at_builtin; refine wpList_appM rfl (.tmp 43) (.tmp 46) rfl Tryd.underlying46 Tryd.infoArc rfl (by decide) (by rfl) HB3.out (by rfl) HS3.out HP1.out HP2.out HP3.out HP4.out ?q3)
          intro v4 w4 hb4 _ _
          have F : Hid (RetPut L (x1, x2, x3) w (.returned v4) w4) := Lib.hid (ret_put HPB.out hk HD.out (by rw [List.append_assoc]; exact hb4) HWX.out)
          clear hb4
          go_wp2_with fail
          go_ret
          exact F.out
        · have hce : k = cap := by omega
          subst hce
          have HB6 := Lib.hid (Bld.empty 66 3 wx)
          have HWX := Lib.hid (Below.now HB1.out HDX.out)
          have HS1 : Hid (Src (wx.alloc (.cells #[] 66)) (.slice (some ⟨b, off, none⟩) k k) k (arcC (L.take k))) := Lib.hid (Src.of_cells (RowsIn.later (ArcsIn.take (HL1.out.later HDX.out) k) (alloc_belS wx _)))
          have HN1 : Hid ((arcC (L.take k)).length = k * 3) := Lib.hid (by rw [arcC_len, List.length_take, Nat.min_eq_left hk])
          have HN2 : Hid (∀ u ∈ arcC (L.take k), u.oneCell' = true) := Lib.hid (arcC_one _)
          have HN3 : Hid (0 + k ≤ maxLen) := Lib.hid (by unfold maxLen; omega)
          have HN4 : Hid ((0 + k) * 24 ≤ 140737488355328) := Lib.hid (by omega)
          go_wp2_with (at_builtin; refine wpList_appM rfl _ _ rfl Tryd.underlying46 Tryd.infoArc rfl (by decide) (by rfl) HB6.out (by rfl) HS1.out HN1.out HN2.out HN3.out HN4.out ?r1)
          intro v2 w2 hb2 _ _
          have HB2 : Hid (Bld 66 3 wx w2 v2 k (arcC (L.take k))) := Lib.hid hb2
          obtain ⟨a2, c2, rfl⟩ := owns_form HB2.out.1
          obtain ⟨y0, y1, y2⟩ := HX.out w2 (Below.now HDX.out HB2.out.2)
          have HM1 : Hid (∀ u ∈ arcV (x1, x2, x3), u.oneCell' = true) := Lib.hid (by simp [arcV, Value.oneCell'])
          have HM2 : Hid (k + 1 ≤ maxLen) := Lib.hid (by unfold maxLen; omega)
          have HM3 : Hid ((k + 1) * 24 ≤ 140737488355328) := Lib.hid (by omega)
          clear hb2 HB6 HS1 HN1 HN2 HN3 HN4
          go_upto_region 7 with fail
          go_wp2_with (at_builtin; refine wpList_app1 (news := arcV (x1, x2, x3)) rfl (.tmp 39) (.tmp 41) rfl Tryd.underlying46 Tryd.infoArc rfl (by decide) (by rfl) HB2.out (by rfl) rfl HM1.out HM2.out HM3.out ?r2)
          intro v3 w3 hb3
          have HB3 : Hid (Bld 66 3 wx w3 v3 (k + 1) (arcC (L.take k) ++ arcV (x1, x2, x3))) := Lib.hid hb3
          obtain ⟨a3, c3, rfl⟩ := owns_form HB3.out.1
          have hd : L.length - k = 0 := by omega
          have HS3 : Hid (Src w3 (.slice (some ⟨b, off, none⟩) 0 0) 0 (arcC (L.drop k))) := Lib.hid (by
            rw [List.drop_eq_nil_of_le (by omega)]
            exact .inr ⟨_, _, rfl, fun j u hu => by simp [arcC, cellsL] at hu⟩)
          have HP1 : Hid ((arcC (L.drop k)).length = 0 * 3) := Lib.hid (by rw [arcC_len, List.length_drop, hd])
          have HP2 : Hid (∀ u ∈ arcC (L.drop k), u.oneCell' = true) := Lib.hid (arcC_one _)
          have HP3 : Hid (k + 1 + 0 ≤ maxLen) := Lib.hid (by unfold maxLen; omega)
          have HP4 : Hid ((k + 1 + 0) * 24 ≤ 140737488355328) := Lib.hid (by omega)
          have HD := Lib.hid hd
          clear hb3 HB2 HM1 HM2 HM3 y0 y1 y2 hd
          go_upto_region 8 with fail
          go_wp2_with (at_builtin; refine wpList_appM rfl (.tmp 43) (.tmp 46) rfl Tryd.underlying46 Tryd.infoArc rfl (by decide) (by rfl) HB3.out (by rfl) HS3.out HP1.out HP2.out HP3.out HP4.out ?r31)
          intro v4 w4 hb4 _ _
          have F : Hid (RetPut L (x1, x2, x3) w (.returned v4) w4) := Lib.hid (ret_put HPB.out hk HD.out (by rw [List.append_assoc]; exact hb4) HWX.out)
          clear hb4
          go_wp2_with fail
          go_ret
          exact F.out
end Go.Proofs.YtklbehapbchnaaaDoor
