/-
  Append of one element to a row of its own that is known by its base, at a plain region's list.
-/
import Derived.Test.YtgoeadgpbidgiaaGreatClp01
import Derived.Test.YtgoeadgpbidgiaaGreatClp08
import Derived.Test.YtgoeadgpbidgiaaGreatClp14
import Derived.Test.YtgoeadgpbidgiaaGreatClp15
import Derived.Test.YtgoeadgpbidgiaaGreatClp04
import Derived.Deep.AppendLies
import Derived.Test.YtgoeadgpbidgiaaGreatClp07
namespace Go.Proofs.YtgoeadgpbidgiaaGreat
open Go.RowKit
set_option linter.unusedVariables false
def fromF (R : List RulD) (i : Nat) (b : Bool) : ByteArray := if b = true then (nthR R i).2 else (nthR R i).1
def toF (R : List RulD) (i : Nat) (b : Bool) : ByteArray := if b = true then (nthR R i).1 else (nthR R i).2
def lkB (R : List RulD) (w0 : ByteArray) (i p : Nat) (b : Bool) : Bool := preAt w0 p (fromF R i b)
def lkW (R : List RulD) (w0 : ByteArray) (i p : Nat) (b : Bool) : ByteArray := if preAt w0 p (fromF R i b) = true then replF w0 p (fromF R i b).size (toF R i b) else ⟨#[]⟩
theorem pre_room {w0 l : ByteArray} {p : Nat} (h : preAt w0 p l = true) (hp : p ≤ w0.size) : p + l.size ≤ w0.size := by
  by_cases h0 : l.size = 0
  · omega
  · exact preAt_fits h (by omega)
set_option maxRecDepth 100000 in
set_option maxHeartbeats 4000000 in
theorem link_any (k : Int) (R : List RulD) (a : Option Addr) (cap : Nat) (w0 : ByteArray) (i p : Nat) (b : Bool) (w : World) (hl : RulesIn w a R) (h8 : ∀ r ∈ R, r.1.size ≤ 8 ∧ r.2.size ≤ 8) (hi : i < R.length) (hp : p ≤ w0.size) (hw : w0.size ≤ 8) :
    Calls Tryz.prog 44 #[.agg #[.int .i64 k, .slice a R.length cap], .string w0, .agg #[.int .i64 (i : Nat), .int .i64 (p : Nat), .bool b]] w fun e w' => e = .returned (.tuple #[.string (lkW R w0 i p b), .bool (lkB R w0 i p b)]) ∧ Below w.heap.size w w' := by
  obtain ⟨bR, oR, rfl, hbR, hcR⟩ := rule_at hl (Below.refl _ _) hi
  obtain ⟨hf8, ht8⟩ := h8 _ (nthR_mem hi)
  have hat := alloc_two w (.cells #[.int .i64 k, .slice (some ⟨bR, oR, none⟩) R.length cap] 25) (.cells #[.int .i64 (i : Nat), .int .i64 (p : Nat), .bool b] 83)
  have HB0 := Lib.hid (Below.now (alloc_belowS w (.cells #[.int .i64 k, .slice (some ⟨bR, oR, none⟩) R.length cap] 25)) (alloc_belowS _ (.cells #[.int .i64 (i : Nat), .int .i64 (p : Nat), .bool b] 83)))
  have hsz : ((w.alloc (.cells #[.int .i64 k, .slice (some ⟨bR, oR, none⟩) R.length cap] 25)).alloc (.cells #[.int .i64 (i : Nat), .int .i64 (p : Nat), .bool b] 83)).heap.size = w.heap.size + 2 := by simp
  have HX : Hid (∀ W, Below ((w.alloc (.cells #[.int .i64 k, .slice (some ⟨bR, oR, none⟩) R.length cap] 25)).alloc (.cells #[.int .i64 (i : Nat), .int .i64 (p : Nat), .bool b] 83)).heap.size ((w.alloc (.cells #[.int .i64 k, .slice (some ⟨bR, oR, none⟩) R.length cap] 25)).alloc (.cells #[.int .i64 (i : Nat), .int .i64 (p : Nat), .bool b] 83)) W → W.cell? ⟨w.heap.size, 0, none⟩ = some (.int .i64 k) ∧ W.cell? ⟨w.heap.size, 1, none⟩ = some (.slice (some ⟨bR, oR, none⟩) R.length cap) ∧ W.cell? ⟨w.heap.size + 1, 0, none⟩ = some (.int .i64 (i : Nat)) ∧ W.cell? ⟨w.heap.size + 1, 1, none⟩ = some (.int .i64 (p : Nat)) ∧ W.cell? ⟨w.heap.size + 1, 2, none⟩ = some (.bool b) ∧ W.cell? ⟨bR, oR + i * 2, none⟩ = some (.string (nthR R i).1) ∧ W.cell? ⟨bR, oR + i * 2 + 1, none⟩ = some (.string (nthR R i).2)) := Lib.hid (fun W hW => by
    have h1 := (hW.block w.heap.size (by rw [hsz]; omega)).trans hat.1
    have h2 := (hW.block (w.heap.size + 1) (by rw [hsz]; omega)).trans hat.2
    have hb := Below.now HB0.out hW
    exact ⟨by simp [World.cell?, h1], by simp [World.cell?, h1], by simp [World.cell?, h2], by simp [World.cell?, h2], by simp [World.cell?, h2], (hb.cell (p := ⟨bR, oR + i * 2, none⟩) hbR).trans hcR.1, (hb.cell (p := ⟨bR, oR + i * 2 + 1, none⟩) hbR).trans hcR.2⟩)
  have hin : inB (p : Int) 0 (w0.size : Int) = true := by unfold inB; simp; omega
  have HIN := Lib.hid (fun W => (within_any (p : Int) 0 (w0.size : Int) W).mono (fun e w' h => show e = .returned (.bool true) ∧ W = w' from ⟨by rw [h.1, hin], h.2⟩))
  have x3 : (p : Int) ≤ (w0.size : Int) := by omega
  clear hl h8 hat hsz hin hbR hcR
  go_enter Tryz.func44, Tryz.ntmps44
  go_upto_region 1 with fail
  generalize ((w.alloc (.cells #[.int .i64 k, .slice (some ⟨bR, oR, none⟩) R.length cap] 25)).alloc (.cells #[.int .i64 (i : Nat), .int .i64 (p : Nat), .bool b] 83)) = w1 at *
  refine region_each (fun W => Below w1.heap.size w1 W) (fun W W2 => Below W.heap.size W W2) (fun u => by simp only [fPut, Act.put, List.setIfInBounds_toArray, List.set_cons_succ, List.set_cons_zero, Nat.zero_add, Nat.reduceAdd]; rfl) (by kernel_rfl) (by kernel_rfl) (by kernel_rfl) (Below.drew (Below.refl _ _)) ?_
  apply each_read (fun _ => Below.refl _ _) rfl
  · intro u wv hC hf
    obtain ⟨s0, s1, l0, l1, l2, k0, k1⟩ := HX.out _ hC
    clear hf
    go_simp
    try rfl
  apply each_read (fun _ => Below.refl _ _) rfl
  · intro u wv hC hf
    obtain ⟨s0, s1, l0, l1, l2, k0, k1⟩ := HX.out _ hC
    obtain ⟨d0_0, -⟩ := hf
    have e0 : u 0 = _ := d0_0 rfl
    clear d0_0
    go_simp
    try rfl
  conv => arg 8; simp only [List.cons_append, List.nil_append]
  apply each_read (fun _ => Below.refl _ _) rfl
  · intro u wv hC hf
    obtain ⟨s0, s1, l0, l1, l2, k0, k1⟩ := HX.out _ hC
    clear hf
    go_simp
    try rfl
  conv => arg 8; simp only [List.cons_append, List.nil_append]
  apply each_read (fun _ => Below.refl _ _) rfl
  · intro u wv hC hf
    obtain ⟨s0, s1, l0, l1, l2, k0, k1⟩ := HX.out _ hC
    obtain ⟨d2_0, -⟩ := hf
    have e2 : u 2 = _ := d2_0 rfl
    clear d2_0
    go_simp
    try rfl
  conv => arg 8; simp only [List.cons_append, List.nil_append]
  apply each_read (fun _ => Below.refl _ _) rfl
  · intro u wv hC hf
    obtain ⟨s0, s1, l0, l1, l2, k0, k1⟩ := HX.out _ hC
    obtain ⟨d1_0, d3_1, -⟩ := hf
    have e1 : u 1 = _ := d1_0 rfl
    clear d1_0
    have e3 : u 3 = _ := d3_1 rfl
    clear d3_1
    go_simp
    try rfl
  conv => arg 8; simp only [List.cons_append, List.nil_append]
  apply each_read (fun _ => Below.refl _ _) rfl
  · intro u wv hC hf
    obtain ⟨s0, s1, l0, l1, l2, k0, k1⟩ := HX.out _ hC
    obtain ⟨d4_0, -⟩ := hf
    have e4 : u 4 = _ := d4_0 rfl
    clear d4_0
    go_simp
    try rfl
  conv => arg 8; simp only [List.cons_append, List.nil_append]
  apply each_read (fun _ => Below.refl _ _) rfl
  · intro u wv hC hf
    obtain ⟨s0, s1, l0, l1, l2, k0, k1⟩ := HX.out _ hC
    obtain ⟨d5_0, -⟩ := hf
    have e5 : u 5 = _ := d5_0 rfl
    clear d5_0
    go_simp
    try rfl
  conv => arg 8; simp only [List.cons_append, List.nil_append]
  apply each_read (fun _ => Below.refl _ _) rfl
  · intro u wv hC hf
    obtain ⟨s0, s1, l0, l1, l2, k0, k1⟩ := HX.out _ hC
    obtain ⟨d14_0, -⟩ := hf
    clear d14_0
    go_simp
    try rfl
  conv => arg 8; simp only [List.cons_append, List.nil_append]
  apply each_read (fun _ => Below.refl _ _) rfl
  · intro u wv hC hf
    obtain ⟨s0, s1, l0, l1, l2, k0, k1⟩ := HX.out _ hC
    obtain ⟨d7_0, d14_1, -⟩ := hf
    have e7 : u 7 = _ := d7_0 rfl
    clear d7_0
    clear d14_1
    go_simp
    try rfl
  conv => arg 8; simp only [List.cons_append, List.nil_append]
  apply each_read (fun _ => Below.refl _ _) rfl
  · intro u wv hC hf
    obtain ⟨s0, s1, l0, l1, l2, k0, k1⟩ := HX.out _ hC
    obtain ⟨d14_0, -⟩ := hf
    clear d14_0
    go_simp
    try rfl
  conv => arg 8; simp only [List.cons_append, List.nil_append]
  apply each_read (fun _ => Below.refl _ _) rfl
  · intro u wv hC hf
    obtain ⟨s0, s1, l0, l1, l2, k0, k1⟩ := HX.out _ hC
    obtain ⟨d9_0, d14_1, -⟩ := hf
    have e9 : u 9 = _ := d9_0 rfl
    clear d9_0
    clear d14_1
    go_simp
    try rfl
  conv => arg 8; simp only [List.cons_append, List.nil_append]
  apply each_read (fun _ => Below.refl _ _) rfl
  · intro u wv hC hf
    obtain ⟨s0, s1, l0, l1, l2, k0, k1⟩ := HX.out _ hC
    obtain ⟨d8_0, d10_1, d14_2, -⟩ := hf
    have e8 : u 8 = _ := d8_0 rfl
    clear d8_0
    have e10 : u 10 = _ := d10_1 rfl
    clear d10_1
    clear d14_2
    go_simp
    try rfl
  conv => arg 8; simp only [List.cons_append, List.nil_append]
  apply each_read (fun _ => Below.refl _ _) rfl
  · intro u wv hC hf
    obtain ⟨s0, s1, l0, l1, l2, k0, k1⟩ := HX.out _ hC
    obtain ⟨d11_0, d14_1, -⟩ := hf
    have e11 : u 11 = _ := d11_0 rfl
    clear d11_0
    clear d14_1
    go_simp
    try rfl
  conv => arg 8; simp only [List.cons_append, List.nil_append]
  apply each_read (fun _ => Below.refl _ _) rfl
  · intro u wv hC hf
    obtain ⟨s0, s1, l0, l1, l2, k0, k1⟩ := HX.out _ hC
    obtain ⟨d12_0, d14_1, -⟩ := hf
    have e12 : u 12 = _ := d12_0 rfl
    clear d12_0
    clear d14_1
    go_simp
    try rfl
  conv => arg 8; simp only [List.cons_append, List.nil_append]
  apply each_read (fun _ => Below.refl _ _) rfl
  · intro u wv hC hf
    obtain ⟨s0, s1, l0, l1, l2, k0, k1⟩ := HX.out _ hC
    obtain ⟨d6_0, d0_1, d1_2, d2_3, d3_4, d4_5, d5_6, d6_7, d7_8, d8_9, d9_10, d10_11, d11_12, d12_13, d13_14, -⟩ := hf
    have e6 : u 6 = _ := d6_0 rfl
    clear d6_0
    have e0 : u 0 = _ := d0_1 rfl
    clear d0_1
    have e1 : u 1 = _ := d1_2 rfl
    clear d1_2
    have e2 : u 2 = _ := d2_3 rfl
    clear d2_3
    have e3 : u 3 = _ := d3_4 rfl
    clear d3_4
    have e4 : u 4 = _ := d4_5 rfl
    clear d4_5
    have e5 : u 5 = _ := d5_6 rfl
    clear d5_6
    clear d6_7
    clear d7_8
    clear d8_9
    clear d9_10
    clear d10_11
    clear d11_12
    clear d12_13
    clear d13_14
    go_simp
    try rfl
  conv => arg 8; simp only [List.cons_append, List.nil_append]
  apply each_read (fun _ => Below.refl _ _) rfl
  · intro u wv hC hf
    obtain ⟨s0, s1, l0, l1, l2, k0, k1⟩ := HX.out _ hC
    obtain ⟨d13_0, d14_1, d0_2, d1_3, d2_4, d3_5, d4_6, d5_7, d6_8, d7_9, d8_10, d9_11, d10_12, d11_13, d12_14, d13_15, d14_16, -⟩ := hf
    have e13 : u 13 = _ := d13_0 rfl
    clear d13_0
    have e14 : u 14 = _ := d14_1 rfl
    clear d14_1
    have e0 : u 0 = _ := d0_2 rfl
    clear d0_2
    have e1 : u 1 = _ := d1_3 rfl
    clear d1_3
    have e2 : u 2 = _ := d2_4 rfl
    clear d2_4
    have e3 : u 3 = _ := d3_5 rfl
    clear d3_5
    have e4 : u 4 = _ := d4_6 rfl
    clear d4_6
    have e5 : u 5 = _ := d5_7 rfl
    clear d5_7
    have e6 : u 6 = _ := d6_8 rfl
    clear d6_8
    have e7 : u 7 = _ := d7_9 rfl
    clear d7_9
    have e8 : u 8 = _ := d8_10 rfl
    clear d8_10
    have e9 : u 9 = _ := d9_11 rfl
    clear d9_11
    have e10 : u 10 = _ := d10_12 rfl
    clear d10_12
    have e11 : u 11 = _ := d11_13 rfl
    clear d11_13
    have e12 : u 12 = _ := d12_14 rfl
    clear d12_14
    clear d13_15
    clear d14_16
    go_simp
    try rfl
  intro u w2 hb2 hall
  obtain ⟨a0, a1, a2, a3, a4, a5, a6, a7, a8, a9, a10, a11, a12, a13, a14, a15, -⟩ := hall
  have e0 : u 0 = _ := a0
  clear a0
  have e1 : u 1 = _ := a1
  clear a1
  have e2 : u 2 = _ := a2
  clear a2
  have e3 : u 3 = _ := a3
  clear a3
  have e4 : u 4 = _ := a4
  clear a4
  have e5 : u 5 = _ := a5
  clear a5
  have e6 : u 6 = _ := a6
  clear a6
  have e7 : u 7 = _ := a7
  clear a7
  have e8 : u 8 = _ := a8
  clear a8
  have e9 : u 9 = _ := a9
  clear a9
  have e10 : u 10 = _ := a10
  clear a10
  have e11 : u 11 = _ := a11
  clear a11
  have e12 : u 12 = _ := a12
  clear a12
  have e13 : u 13 = _ := a13
  clear a13
  have e14 : u 14 = _ := a14
  clear a14
  have e15 : u 15 = _ := a15
  clear a15
  simp only [e0, e1, e2, e3, e4, e5, e6, e7, e8, e9, e10, e11, e12, e13, e14, e15]
  clear e0 e1 e2 e3 e4 e5 e6 e7 e8 e9 e10 e11 e12 e13 e14 e15
  have HB2 := Lib.hid (Below.now HB0.out hb2)
  obtain ⟨s0, s1, l0, l1, l2, k0, k1⟩ := HX.out _ hb2
  clear hb2 k0 k1
  cases b
  · have HHP := Lib.hid (fun W => Tryz.strings_HasPrefix (w0.extract p w0.size) (nthR R i).1 W)
    rw [preAt_hp] at HHP
    have HFS : Hid ((nthR R i).1.size ≤ 8 ∧ (nthR R i).2.size ≤ 8) := Lib.hid ⟨hf8, ht8⟩
    have HRP := Lib.hid (fun W (h : preAt w0 p (nthR R i).1 = true) => implReplaceAt_ok w0 (nthR R i).2 p (nthR R i).1.size W (pre_room h hp) (by omega) (by omega) (by omega))
    have HY : Hid (preAt w0 p (nthR R i).1 = true → lkW R w0 i p false = replF w0 p (nthR R i).1.size (nthR R i).2 ∧ lkB R w0 i p false = true) := Lib.hid (fun h => by unfold lkW lkB; exact ⟨if_pos h, h⟩)
    have HN : Hid (preAt w0 p (nthR R i).1 = false → lkW R w0 i p false = ⟨#[]⟩ ∧ lkB R w0 i p false = false) := Lib.hid (fun h => by unfold lkW lkB; exact ⟨if_neg (by rw [show fromF R i false = (nthR R i).1 from rfl, h]; simp), h⟩)
    clear hf8 ht8
    generalize (nthR R i).1 = f at *
    generalize (nthR R i).2 = t at *
    cases hq : preAt w0 p f
    · rw [hq] at HHP
      have HNN := Lib.hid (HN.out hq)
      clear hq HY HN HRP
      go_wp2_with (first | (go_at_call 22; refine (HIN.out _).mono ?_; rintro e w' ⟨rfl, rfl⟩) | (go_at_call 72; refine (HHP.out _).mono ?_; rintro e w' ⟨rfl, rfl⟩))
      refine bodyPost_ret (v := .tuple #[.string ⟨#[]⟩, .bool false]) ?_ rfl ⟨by rw [HNN.out.1, HNN.out.2], HB2.out⟩
      simp [results, Tryz.results44, go_sem]
    · rw [hq] at HHP
      have HYY := Lib.hid (HY.out hq)
      have HRR := Lib.hid (fun W => HRP.out W hq)
      clear hq HY HN HRP
      go_wp2_with (first | (go_at_call 22; refine (HIN.out _).mono ?_; rintro e w' ⟨rfl, rfl⟩) | (go_at_call 72; refine (HHP.out _).mono ?_; rintro e w' ⟨rfl, rfl⟩))
      refine (HRR.out _).mono ?_
      rintro e w3 ⟨rfl, hb3⟩
      have F := Lib.hid (Below.now HB2.out hb3)
      clear hb3
      go_wp2_with fail
      refine bodyPost_ret (v := .tuple #[.string (replF w0 p f.size t), .bool true]) ?_ rfl ⟨by rw [HYY.out.1, HYY.out.2], F.out⟩
      simp [results, Tryz.results44, go_sem]
  · have HHP := Lib.hid (fun W => Tryz.strings_HasPrefix (w0.extract p w0.size) (nthR R i).2 W)
    rw [preAt_hp] at HHP
    have HFS : Hid ((nthR R i).2.size ≤ 8 ∧ (nthR R i).1.size ≤ 8) := Lib.hid ⟨ht8, hf8⟩
    have HRP := Lib.hid (fun W (h : preAt w0 p (nthR R i).2 = true) => implReplaceAt_ok w0 (nthR R i).1 p (nthR R i).2.size W (pre_room h hp) (by omega) (by omega) (by omega))
    have HY : Hid (preAt w0 p (nthR R i).2 = true → lkW R w0 i p true = replF w0 p (nthR R i).2.size (nthR R i).1 ∧ lkB R w0 i p true = true) := Lib.hid (fun h => by unfold lkW lkB; exact ⟨if_pos h, h⟩)
    have HN : Hid (preAt w0 p (nthR R i).2 = false → lkW R w0 i p true = ⟨#[]⟩ ∧ lkB R w0 i p true = false) := Lib.hid (fun h => by unfold lkW lkB; exact ⟨if_neg (by rw [show fromF R i true = (nthR R i).2 from rfl, h]; simp), h⟩)
    clear hf8 ht8
    generalize (nthR R i).2 = f at *
    generalize (nthR R i).1 = t at *
    cases hq : preAt w0 p f
    · rw [hq] at HHP
      have HNN := Lib.hid (HN.out hq)
      clear hq HY HN HRP
      go_wp2_with (first | (go_at_call 22; refine (HIN.out _).mono ?_; rintro e w' ⟨rfl, rfl⟩) | (go_at_call 72; refine (HHP.out _).mono ?_; rintro e w' ⟨rfl, rfl⟩))
      refine bodyPost_ret (v := .tuple #[.string ⟨#[]⟩, .bool false]) ?_ rfl ⟨by rw [HNN.out.1, HNN.out.2], HB2.out⟩
      simp [results, Tryz.results44, go_sem]
    · rw [hq] at HHP
      have HYY := Lib.hid (HY.out hq)
      have HRR := Lib.hid (fun W => HRP.out W hq)
      clear hq HY HN HRP
      go_wp2_with (first | (go_at_call 22; refine (HIN.out _).mono ?_; rintro e w' ⟨rfl, rfl⟩) | (go_at_call 72; refine (HHP.out _).mono ?_; rintro e w' ⟨rfl, rfl⟩))
      refine (HRR.out _).mono ?_
      rintro e w3 ⟨rfl, hb3⟩
      have F := Lib.hid (Below.now HB2.out hb3)
      clear hb3
      go_wp2_with fail
      refine bodyPost_ret (v := .tuple #[.string (replF w0 p f.size t), .bool true]) ?_ rfl ⟨by rw [HYY.out.1, HYY.out.2], F.out⟩
      simp [results, Tryz.results44, go_sem]
end Go.Proofs.YtgoeadgpbidgiaaGreat
namespace Go.Proofs.YtgoeadgpbidgiaaGreat
open Go.RowKit
set_option linter.unusedVariables false
theorem wpList_appB {P : Program} {ops : Array Oper} {rest : List Oper} {o : Oper} {a : Act} {Q : Exit → Act → World → Prop} {T tsl : TypeId} {z : Value} {size bytes : Nat} (hg : o.guard = none) (s x : Operand)
    (ho : o.op = .call { callee := .builtin .append, args := #[s, x], argTypes := #[tsl, tsl] }) (ht : P.underlying tsl = some (.slice T)) (hinfo : (P.info? T).map (fun i => (i.zero, i.size, i.bytes)) = some (some z, size, bytes))
    (hzs : z.cells.size = size) (hpos : 0 < size) {H : Nat} {wr : World} {v : Value} {n : Nat} {xs : List Value} (hs : a.eval s = v) (hb : wr.ownsRow H T size v n xs) (hH : H ≤ wr.heap.size) {ad : Addr} {c m : Nat} {news : List Value} (hx : a.eval x = .slice (some ad) m c)
    (hsrc : ∀ j u, news[j]? = some u → wr.cell? (ad.add j) = some u) (hn : news.length = m * size) (hm : 0 < m) (h1 : ∀ u ∈ news, u.oneCell' = true) (h63 : n + m ≤ maxLen) (hbytes : (n + m) * bytes ≤ 140737488355328)
    (hK : ∀ g cap w', w'.ownsRow H T size (.slice (some ⟨g, 0, none⟩) (n + m) cap) (n + m) (xs ++ news) → wr.grownBy w' v.ownBlock → (v.ownBlock = some g ∨ g = wr.heap.size) → wpList P ops Q rest (a.put o.dst (.slice (some ⟨g, 0, none⟩) (n + m) cap)) w') :
    wpList P ops Q (o :: rest) a wr := by
  obtain ⟨i0, hi, hz0, hz1, hz2⟩ := info_parts hinfo
  exact wpList_append_lies (w := wr) hg s x tsl ho H T i0 z size bytes ht hi hz0 hz1 hz2 hzs hpos v n xs hs hb ad m c news hx hn hsrc h1 hm h63 hbytes hH _ rfl fun g cap w' h2 h3 h4 _ => hK g cap w' h2 h3 h4
end Go.Proofs.YtgoeadgpbidgiaaGreat
namespace Go.Proofs.YtgoeadgpbidgiaaGreat
open Go.RowKit
set_option linter.unusedVariables false
set_option maxRecDepth 100000 in
set_option maxHeartbeats 1000000 in
theorem specStepsOf_bad (k : Int) (R : List RulD) (a : Option Addr) (cap : Nat) (w0 : ByteArray) (w : World) (hl : RulesIn w a R) (hlen : R.length ≤ 2 ^ 40) (hz : SzR R) (hn : ¬ rulesP k R) :
    Calls Tryz.prog 119 #[.agg #[.int .i64 k, .slice a R.length cap], .string w0] w fun e w' => e = .returned (.slice none 0 0) ∧ Below w.heap.size w w' := by
  have HL := Lib.hid hl
  have HN := Lib.hid hn
  have HRO := Lib.hid (fun W h => specRulesOk_any k R a cap W h hlen hz)
  have HA := Lib.hid (fun o => alloc_belowS w o)
  clear hl hz hn
  go_enter Tryz.func119, Tryz.ntmps119
  go_wp2_with fail
  refine (HRO.out _ (HL.out.later (HA.out _))).mono ?_
  rintro e w1 ⟨bb, hbb, rfl, hb1⟩
  have HW1 := Lib.hid (Below.now (HA.out _) hb1)
  have hbf : bb = false := by
    cases bb with
    | false => rfl
    | true => exact absurd (hbb.1 rfl) HN.out
  subst hbf
  clear hbb hb1
  go_wp2_with fail
  go_ret
  exact ⟨rfl, HW1.out⟩
set_option maxRecDepth 100000 in
set_option maxHeartbeats 1000000 in
theorem specFirstStep_bad (k : Int) (R : List RulD) (a : Option Addr) (cap : Nat) (w0 : ByteArray) (w : World) (hl : RulesIn w a R) (hlen : R.length ≤ 2 ^ 40) (hz : SzR R) (hn : ¬ rulesP k R) :
    Calls Tryz.prog 117 #[.agg #[.int .i64 k, .slice a R.length cap], .string w0] w fun e w' => e = .returned (.tuple #[.agg #[.int .i64 0, .int .i64 0], .bool false]) ∧ Below w.heap.size w w' := by
  have HL := Lib.hid hl
  have HSO := Lib.hid (fun W h => specStepsOf_bad k R a cap w0 W h hlen hz hn)
  have HA2 := Lib.hid (fun o o2 => Below.now (alloc_belowS w o) (alloc_belowS (w.alloc o) o2))
  have e1 : (w.alloc (.cells #[.int .i64 k, .slice a R.length cap] 25)).heap.size = w.heap.size + 1 := by simp
  have HBX := Lib.hid (fun W2 (h : Below ((w.alloc (.cells #[.int .i64 k, .slice a R.length cap] 25)).alloc (.cells #[.int .i64 0, .int .i64 0] 103)).heap.size ((w.alloc (.cells #[.int .i64 k, .slice a R.length cap] 25)).alloc (.cells #[.int .i64 0, .int .i64 0] 103)) W2) => box_facts h)
  rw [e1] at HBX
  clear hl hz hn e1
  go_enter Tryz.func117, Tryz.ntmps117
  go_wp2_with fail
  refine (HSO.out _ (HL.out.later (HA2.out _ _))).mono ?_
  rintro e w1 ⟨rfl, hb1⟩
  obtain ⟨⟨b0, b1⟩, f0, f1⟩ := HBX.out w1 hb1
  have HW1 := Lib.hid (Below.now (HA2.out _ _) hb1)
  have HSZ : Hid (w.heap.size ≤ w.heap.size + 1) := Lib.hid (by omega)
  clear hb1
  go_wp2_with fail
  refine bodyPost_ret (v := .tuple #[.agg #[.int .i64 0, .int .i64 0], .bool false]) ?_ rfl ?_
  · simp [results, Tryz.results117, go_sem, b0, b1]
  · exact ⟨rfl, (HW1.out.setCell HSZ.out _).setCell HSZ.out _⟩
set_option maxRecDepth 100000 in
set_option maxHeartbeats 1000000 in
theorem l04Trace_bad (k : Int) (R : List RulD) (a : Option Addr) (cap : Nat) (w0 : ByteArray) (w : World) (hl : RulesIn w a R) (hlen : R.length ≤ 2 ^ 40) (hz : SzR R) (hn : ¬ rulesP k R) :
    Calls Tryz.prog 101 #[.agg #[.int .i64 k, .slice a R.length cap], .string w0] w fun e w' => ∃ v, e = .returned (.tuple #[v, .string w0]) ∧ Below w.heap.size w w' := by
  have HL := Lib.hid hl
  have HFS := Lib.hid (fun W h => specFirstStep_bad k R a cap w0 W h hlen hz hn)
  have hb1 := alloc_belowS w (.cells #[.int .i64 k, .slice a R.length cap] 25)
  have HBX := Lib.hid (fun W2 (h : Below (w.alloc (.cells #[.int .i64 k, .slice a R.length cap] 25)).heap.size (w.alloc (.cells #[.int .i64 k, .slice a R.length cap] 25)) W2) => box_two h)
  clear hl hz hn
  go_enter Tryz.func101, Tryz.ntmps101
  go_wp2_with fail
  have HW1 := Lib.hid hb1
  generalize w.alloc (.cells #[.int .i64 k, .slice a R.length cap] 25) = w1 at *
  clear hb1
  go_loopw [1, 6] (fun vw vo wr => vw = .string w0 ∧ (∃ g, vo = .slice (some ⟨g, 0, none⟩) 0 0) ∧ Below w1.heap.size w1 wr) (fun _ _ _ => 0)
  case atStart => exact ⟨rfl, ⟨_, rfl⟩, alloc_belowS _ _⟩
  case round =>
    obtain ⟨rfl, ⟨g, rfl⟩, hbd⟩ := hrel
    obtain ⟨s0, s1⟩ := HBX.out wr hbd
    have HB := Lib.hid hbd
    clear hbd
    go_wp2_with fail
    refine (HFS.out wr (HL.out.later (Below.now HW1.out HB.out))).mono ?_
    rintro e w2 ⟨rfl, hb2⟩
    have HB2 := Lib.hid (Below.now HW1.out (Below.now HB.out hb2))
    clear hb2
    go_wp2_with fail
    go_ret2
    exact ⟨_, rfl, Below.now HB2.out (alloc_belowS _ _)⟩
/-- the words behind an insertion: reduced, if the rules are not too many -/
noncomputable def phiF (R : List RulD) (r : RulD) (u : ByteArray) : ByteArray := if (allF R r).length ≤ 12 then nfC (allF R r) u else u
theorem l04Trace_all (k : Int) (R : List RulD) (r : RulD) (a : Option Addr) (cap : Nat) (u : ByteArray) (w : World) (hl : RulesIn w a (allF R r)) (hs : sysP k R) (hr : NewR k r) (hu : wordOkB k u = true) :
    Calls Tryz.prog 101 #[.agg #[.int .i64 k, .slice a (allF R r).length cap], .string u] w fun e w' => ∃ v, e = .returned (.tuple #[v, .string (phiF R r u)]) ∧ Below w.heap.size w w' := by
  have ha := allF_sys hs hr
  have hlen := allF_len hs r
  unfold phiF
  by_cases h : (allF R r).length ≤ 12
  · rw [if_pos h]
    have hsys : sysP k (allF R r) := ⟨⟨⟨ha.1.1, h⟩, ha.1.2⟩, ha.2⟩
    exact (l04Trace_any k (allF R r) a cap u w hl hsys hu).mono fun e w' ⟨v, x, hx, he, hb⟩ => ⟨v, by rw [nfC_eq hx]; exact he, hb⟩
  · rw [if_neg h]
    refine l04Trace_bad k (allF R r) a cap u w hl (by omega) (fun j hj => ?_) (fun hp => h hp.1.2)
    have h1 := (ha.1.2 _ (nthR_mem hj)).1.2
    unfold maxLen
    omega
end Go.Proofs.YtgoeadgpbidgiaaGreat
namespace Go.Proofs.YtgoeadgpbidgiaaGreat
open Go.RowKit
set_option linter.unusedVariables false
/-- the sides of those pairs among some that have to do with the last rule -/
def newL (N : List RulD) (l : List PairD) : List RulD := (l.filter (lastP N)).map (sidesF N)
theorem newL_take {N : List RulD} {S : List PairD} {q : Nat} (h : q < S.length) : newL N (S.take (q + 1)) = newL N (S.take q) ++ newL N [S[q]] := by
  unfold newL
  rw [List.take_succ_eq_append_getElem h, List.filter_append, List.map_append]
theorem newL_yes {N : List RulD} {p : PairD} (h : lastP N p = true) : newL N [p] = [sidesF N p] := by simp [newL, h]
theorem newL_no {N : List RulD} {p : PairD} (h : lastP N p = false) : newL N [p] = [] := by simp [newL, h]
theorem newL_len (N : List RulD) (l : List PairD) : (newL N l).length ≤ l.length := by
  unfold newL
  rw [List.length_map]
  exact List.length_filter_le _ _
theorem ruleCells_one1 (l : List RulD) (x y : ByteArray) : ruleCells (l ++ [(x, y)]) = ruleCells l ++ [.string x, .string y] := by rw [ruleCells_app]; rfl
theorem lastP_int {N : List RulD} (h : 0 < N.length) (x y : Nat) (u : ByteArray) (i : Nat) : lastP N (u, x, y, i) = (((x : Int) == (N.length : Int) - 1) || ((y : Int) == (N.length : Int) - 1)) := by
  have key : ∀ z : Nat, decide (z = N.length - 1) = ((z : Int) == (N.length : Int) - 1) := fun z => by
    rw [Bool.eq_iff_iff, decide_eq_true_eq, beq_iff_eq]
    omega
  unfold lastP
  rw [← key, ← key]
set_option maxRecDepth 100000 in
set_option maxHeartbeats 4000000 in
theorem l06Pairs_any (k : Int) (R : List RulD) (a : Option Addr) (cap : Nat) (w : World) (hl : RulesIn w a R) (hs : sysP k R) (hne : 0 < R.length) :
    Calls Tryz.prog 104 #[.agg #[.int .i64 k, .slice a R.length cap]] w (RetSl 67 2 (newQ R).length (ruleCells (newQ R)) w) := by
  have HL := Lib.hid hl
  have HPF := Lib.hid (fun W h => specPairsOf_any k R a cap W h hs)
  have HIJ := Lib.hid (fun p W h (hm : p ∈ pairsF R) => specSidesOf_any k R a cap p W h hs (pairOk hs hm))
  have HSZ : (pairsF R).length ≤ 2496 := by
    have h := pairTo_len (left8 hs) hs.1.1.2 (i := R.length) (j := 0) hs.1.1.2 (by omega)
    rw [pairTo_done] at h
    exact h
  have HLP := Lib.hid (fun u x y i => lastP_int hne x y u i)
  have HSD : Hid (∀ p, sidesF R p = (leftP R p, rightP R p)) := Lib.hid (fun p => rfl)
  have HFE : Hid (newQ R = newL R ((pairsF R).take (pairsF R).length)) := Lib.hid (by rw [List.take_length]; rfl)
  have h12 : R.length ≤ 12 := hs.1.1.2
  have hb1 := alloc_belowS w (.cells #[.int .i64 k, .slice a R.length cap] 25)
  have HBX := Lib.hid (fun W2 (h : Below (w.alloc (.cells #[.int .i64 k, .slice a R.length cap] 25)).heap.size (w.alloc (.cells #[.int .i64 k, .slice a R.length cap] 25)) W2) => box_two h)
  have HW1 := Lib.hid hb1
  clear hl hs
  go_enter Tryz.func104, Tryz.ntmps104
  have s0 := fun o => (HBX.out _ (alloc_belowS _ o)).1
  have s1 := fun o => (HBX.out _ (alloc_belowS _ o)).2
  go_wp2_with fail
  have HB0 : Hid (Bld 67 2 (w.alloc (.cells #[.int .i64 k, .slice a R.length cap] 25)) ((w.alloc (.cells #[.int .i64 k, .slice a R.length cap] 25)).alloc (.cells #[] 67)) (.slice (some ⟨(w.alloc (.cells #[.int .i64 k, .slice a R.length cap] 25)).heap.size, 0, none⟩) 0 0) 0 (ruleCells [])) := Lib.hid (Bld.empty 67 2 _)
  have e1 : (w.alloc (.cells #[.int .i64 k, .slice a R.length cap] 25)).heap.size = w.heap.size + 1 := by simp
  rw [e1] at HB0
  clear s0 s1
  generalize hW1 : w.alloc (.cells #[.int .i64 k, .slice a R.length cap] 25) = w1 at *
  have hb3 := alloc_belowS w1 (.cells #[] 67)
  obtain ⟨w2, hw2⟩ : ∃ w2, w2 = w1.alloc (.cells #[] 67) := ⟨_, rfl⟩
  rw [← hw2] at hb3 HB0 ⊢
  have HB3 := Lib.hid hb3
  have hs12 : w1.heap.size = w.heap.size + 1 := by rw [← hW1]; simp
  have hs22 : w2.heap.size = w1.heap.size + 1 := by rw [hw2]; simp
  clear hb1 hb3 hw2 e1 hW1
  have HMM : Hid (∀ q (h : q < (pairsF R).length), (pairsF R)[q] ∈ pairsF R) := Lib.hid (fun q h => List.getElem_mem h)
  refine (HPF.out _ (HL.out.later (Below.now HW1.out HB3.out))).mono ?_
  rintro e wc ⟨a2, c2, rfl, ho6, hbc⟩
  have hba : ∀ x, a2 = some x → w2.heap.size ≤ x.block ∧ x.block < wc.heap.size := fun x hx => ho6.lt x.block (by rw [hx]; rfl)
  have HI : Hid (RowsIn prV wc a2 (pairsF R)) := Lib.hid (owns_rows ho6)
  have HB1 : Hid (Bld 67 2 w1 wc (.slice (some ⟨w.heap.size + 1, 0, none⟩) 0 0) (newL R ((pairsF R).take 0)).length (ruleCells (newL R ((pairsF R).take 0)))) := Lib.hid (HB0.out.later hbc)
  have HA1 : Hid (Away wc a2 (.slice (some ⟨w.heap.size + 1, 0, none⟩) 0 0)) := Lib.hid (fun x hx => by
    obtain ⟨h1, h2⟩ := hba x hx
    exact ⟨h2, fun e => by have e2 : x.block = w.heap.size + 1 := Option.some.inj e; omega⟩)
  have HIJ2 : Hid (∀ q (h : q < (pairsF R).length) W, RulesIn W a R → Calls Tryz.prog 97 #[.agg #[.int .i64 k, .slice a R.length cap], pairVal (pairsF R)[q]] W fun e w' => e = .returned (.tuple #[.string (leftP R (pairsF R)[q]), .string (rightP R (pairsF R)[q]), .bool true]) ∧ Below W.heap.size W w') := Lib.hid (fun q h W hW => HIJ.out _ W hW (HMM.out q h))
  clear hbc ho6 HB0 HPF hba HIJ HMM
  generalize pairsF R = S at *
  generalize hMI : (R.length : Int) - 1 = M at *
  have HMI := Lib.hid hMI
  clear hMI
  go_wp2_with fail
  go_loopw [3, 18] (fun vo vq wr => ∃ q : Nat, q ≤ S.length ∧ vq = .int .i64 (q : Nat) ∧ Bld 67 2 w1 wr vo (newL R (S.take q)).length (ruleCells (newL R (S.take q))) ∧ Hid (RowsIn prV wr a2 S) ∧ Hid (Away wr a2 vo)) (fun _ vq _ => S.length - (intOf vq).toNat)
  case atStart => exact ⟨0, Nat.zero_le _, rfl, HB1.out, HI, HA1⟩
  case round =>
    clear HB1 HI HA1
    obtain ⟨q, hq, rfl, hbd, HI, HAW⟩ := hrel
    obtain ⟨ao, co, rfl⟩ := owns_form hbd.1
    have HB := Lib.hid hbd
    have hil := newL_len R (S.take q)
    have htl : (S.take q).length ≤ 2496 := by rw [List.length_take]; omega
    by_cases hlt : q < S.length
    · obtain ⟨b2, off2, rfl, hb2, hcs⟩ := RowsIn.cell prV_len (by omega) HI.out hlt
      have HNX := Lib.hid (newL_take (N := R) hlt)
      have HC := Lib.hid (HIJ2.out q hlt)
      have c0 : wr.cell? ⟨b2, off2 + q * 5, none⟩ = some (.string S[q].1) := hcs q hlt 0 _ rfl
      have c1 : wr.cell? ⟨b2, off2 + q * 5 + 1, none⟩ = some (.int .i64 (S[q].2.1 : Nat)) := hcs q hlt 1 _ rfl
      have c2 : wr.cell? ⟨b2, off2 + q * 5 + 2, none⟩ = some (.int .i64 0) := hcs q hlt 2 _ rfl
      have c3 : wr.cell? ⟨b2, off2 + q * 5 + 3, none⟩ = some (.int .i64 (S[q].2.2.1 : Nat)) := hcs q hlt 3 _ rfl
      have c4 : wr.cell? ⟨b2, off2 + q * 5 + 4, none⟩ = some (.int .i64 (S[q].2.2.2 : Nat)) := hcs q hlt 4 _ rfl
      have HLR := Lib.hid (fun o => HL.out.later (Below.now HW1.out (Below.now hbd.2 (alloc_belowS wr o))))
      have s0 := fun o => (HBX.out _ (Below.now hbd.2 (alloc_belowS wr o))).1
      have s1 := fun o => (HBX.out _ (Below.now hbd.2 (alloc_belowS wr o))).2
      have HSQ := Lib.hid (HSD.out S[q])
      unfold pairVal at HC
      clear hcs hbd
      generalize S[q] = p at *
      obtain ⟨u, x, y, z⟩ := p
      have HLX := Lib.hid (HLP.out u x y z)
      generalize leftP R (u, x, y, z) = lp at *
      generalize rightP R (u, x, y, z) = rp at *
      have HA0 : Hid (Away (wr.alloc (.cells #[.string u, .int .i64 (x : Nat), .int .i64 0, .int .i64 (y : Nat), .int .i64 (z : Nat)] 114)) (some ⟨b2, off2, none⟩) (.slice ao (newL R (S.take q)).length co)) := Lib.hid (fun x hx => ⟨Nat.lt_of_lt_of_le (HAW.out x hx).1 (alloc_belowS wr _).size, (HAW.out x hx).2⟩)
      have HB0 := Lib.hid (HB.out.later (alloc_belowS wr (.cells #[.string u, .int .i64 (x : Nat), .int .i64 0, .int .i64 (y : Nat), .int .i64 (z : Nat)] 114)))
      have HI0 := Lib.hid (HI.out.later (alloc_belowS wr (.cells #[.string u, .int .i64 (x : Nat), .int .i64 0, .int .i64 (y : Nat), .int .i64 (z : Nat)] 114)))
      cases hlast : lastP R (u, x, y, z)
      · have hx1 : ((x : Int) == M) = false := by have h := HLX.out; rw [hlast] at h; exact (Bool.or_eq_false_iff.1 h.symm).1
        have hx2 : ((y : Int) == M) = false := by have h := HLX.out; rw [hlast] at h; exact (Bool.or_eq_false_iff.1 h.symm).2
        have HNY : Hid (newL R (S.take (q + 1)) = newL R (S.take q)) := Lib.hid (by rw [HNX.out, newL_no hlast, List.append_nil])
        clear hlast
        generalize newL R (S.take q) = X at *
        go_wp2_with fail
        go_roundw
        case rel => exact ⟨q + 1, by omega, by go_num, by rw [HNY.out]; exact HB0.out, HI0, HA0⟩
        case measure => simp [intOf]; omega
      · have HNY : Hid (newL R (S.take (q + 1)) = newL R (S.take q) ++ [(lp, rp)]) := Lib.hid (by rw [HNX.out, newL_yes hlast, HSQ.out])
        have hor : ((x : Int) == M) = true ∨ (((x : Int) == M) = false ∧ ((y : Int) == M) = true) := by
          have h := HLX.out
          rw [hlast] at h
          cases h1 : ((x : Int) == M)
          · rw [h1] at h; exact .inr ⟨rfl, by simpa using h.symm⟩
          · exact .inl rfl
        have HN1 : Hid ([Value.string lp, .string rp].length = 1 * 2) := Lib.hid rfl
        have HN2 : Hid (∀ v ∈ [Value.string lp, .string rp], v.oneCell' = true) := Lib.hid (fun v hv => by simp at hv; rcases hv with rfl | rfl <;> rfl)
        clear hlast
        generalize newL R (S.take q) = X at *
        rcases hor with hx1 | ⟨hx1, hx2⟩
        all_goals
          go_wp2_with fail
          refine (HC.out _ (HLR.out _)).mono ?_
          rintro e w5 ⟨rfl, hb5⟩
          have HB5 := Lib.hid (HB0.out.later hb5)
          have HI5 := Lib.hid (HI0.out.later hb5)
          have HA5 : Hid (Away w5 (some ⟨b2, off2, none⟩) (.slice ao X.length co)) := Lib.hid (fun x hx => ⟨Nat.lt_of_lt_of_le (HA0.out x hx).1 hb5.size, (HA0.out x hx).2⟩)
          have HB6 := Lib.hid (HB5.out.later (alloc_belowS w5 (.cells #[.string lp, .string rp] 67)))
          clear hb5 s0 s1 c0 c1 c2 c3 c4 HC HLR
          go_wp2_with (at_builtin; refine wpList_appM rfl (.tmp 41) (.tmp 45) rfl Tryz.underlying23 Tryz.infoRule rfl (by decide) rfl HB6.out rfl (Src.lit _) HN1.out HN2.out (by unfold maxLen; omega) (by omega) ?_; intro v4 w4 hb4 hg4 ho4)
          have HB4 : Hid (Bld 67 2 w1 w4 v4 (newL R (S.take (q + 1))).length (ruleCells (newL R (S.take (q + 1))))) := Lib.hid (by
            rw [HNY.out, List.length_append, ruleCells_one1]; exact hb4)
          have HG4 := Lib.hid ((World.grownBy_alloc w5 _ (Value.slice ao X.length co).ownBlock).trans hg4)
          have HI4 : Hid (RowsIn prV w4 (some ⟨b2, off2, none⟩) S) := Lib.hid (CellsIn.grownC HI5.out HG4.out (fun x hx => (HA5.out x hx).2))
          have HA4 : Hid (Away w4 (some ⟨b2, off2, none⟩) v4) := Lib.hid (fun x hx => by
            obtain ⟨h1, h2⟩ := HA5.out x hx
            refine ⟨Nat.lt_of_lt_of_le h1 HG4.out.size, fun e => ?_⟩
            rcases ho4 with h | h
            · exact h2 (e.trans h)
            · have e4 := Option.some.inj (e.trans h)
              first | omega | (simp at e4; omega))
          obtain ⟨a4, c4, hv4⟩ := owns_form HB4.out.1
          subst hv4
          clear hb4 hg4 ho4
          go_wp2_with fail
          go_roundw
          case rel => exact ⟨q + 1, by omega, by go_num, HB4.out, HI4, HA4⟩
          case measure => simp [intOf]; omega
    · obtain rfl : q = S.length := by omega
      have F : Hid (RetSl 67 2 (newQ R).length (ruleCells (newQ R)) w (.returned (.slice ao (newL R (S.take S.length)).length co)) wr) := Lib.hid (by
        rw [HFE.out]
        exact (HB.out.since HW1.out).ret)
      clear hbd
      go_wp2_with fail
      go_ret
      exact F.out
end Go.Proofs.YtgoeadgpbidgiaaGreat
namespace Go.Proofs.YtgoeadgpbidgiaaGreat
open Go.RowKit
set_option linter.unusedVariables false
section
variable {P : Program}
/-- append of one element to a row that lies from H on, at a plain region's list -/
theorem wpList_appH {ops : Array Oper} {rest : List Oper} {o : Oper} {a : Act} {Q : Exit → Act → World → Prop} {T tsl : TypeId} {z : Value} {size bytes : Nat} (hg : o.guard = none) (s x : Operand)
    (ho : o.op = .call { callee := .builtin .append, args := #[s, x], argTypes := #[tsl, tsl] }) (ht : P.underlying tsl = some (.slice T)) (hinfo : (P.info? T).map (fun i => (i.zero, i.size, i.bytes)) = some (some z, size, bytes))
    (hzs : z.cells.size = size) (hpos : 0 < size) {H : Nat} {wr : World} {v : Value} {n : Nat} {xs news : List Value} (hs : a.eval s = v) (hb : wr.ownsRow H T size v n xs) (hH : H ≤ wr.heap.size) (hx : a.eval x = .slice (some ⟨wr.heap.size, 0, none⟩) 1 1)
    (hn : news.length = size) (h1 : ∀ u ∈ news, u.oneCell' = true) (h63 : n + 1 ≤ maxLen) (hbytes : (n + 1) * bytes ≤ 140737488355328)
    (hK : ∀ g cap w', w'.ownsRow H T size (.slice (some ⟨g, 0, none⟩) (n + 1) cap) (n + 1) (xs ++ news) → (wr.alloc (.cells news.toArray T)).grownBy w' v.ownBlock → ((Value.slice (some ⟨g, 0, none⟩) (n + 1) cap).ownBlock = v.ownBlock ∨ (Value.slice (some ⟨g, 0, none⟩) (n + 1) cap).ownBlock = some (wr.alloc (.cells news.toArray T)).heap.size) → wpList P ops Q rest (a.put o.dst (.slice (some ⟨g, 0, none⟩) (n + 1) cap)) w') :
    wpList P ops Q (o :: rest) a (wr.alloc (.cells news.toArray T)) := by
  obtain ⟨i0, hi, hz0, hz1, hz2⟩ := info_parts hinfo
  refine wpList_append_lies (w := wr.alloc (.cells news.toArray T)) hg s x tsl ho H T i0 z size bytes ht hi hz0 hz1 hz2 hzs hpos v n xs hs (hb.alloc _) ⟨wr.heap.size, 0, none⟩ 1 1 news hx (by omega) ?_ h1 (by omega) h63 hbytes ?_ _ rfl ?_
  · intro j u hu
    have hadd : (⟨wr.heap.size, 0, none⟩ : Addr).add j = ⟨wr.heap.size, j, none⟩ := by unfold Addr.add; split <;> simp_all
    rw [hadd, World.cell?_alloc_new]
    simpa using hu
  · simp; omega
  · intro g cap w' hown hgr ho _
    refine hK g cap w' hown hgr ?_
    rcases ho with ho | ho
    · exact .inl ho.symm
    · exact .inr (by rw [ho]; rfl)
end
end Go.Proofs.YtgoeadgpbidgiaaGreat
