/-
  The reference's SplitAny, coarsely: it yields some strings, none longer than the text, in memory of its own.
-/
import Derived.Test.YtmgdglghjlggnaaGreatGway23
import Derived.Test.YtmgdglghjlggnaaGreatGway10
import Derived.Test.YtmgdglghjlggnaaGreatGway06
import Derived.Test.YtmgdglghjlggnaaGreatGway05
import Derived.Test.YtmgdglghjlggnaaGreatGway04
import Derived.Test.YtmgdglghjlggnaaGreatGway14
import Derived.Test.YtmgdglghjlggnaaGreatGway03
import Derived.Test.YtmgdglghjlggnaaGreatGway12
import Derived.Deep.DeepCutAuto
import Derived.Deep.QuietTactic
import Derived.BigQuiet
namespace Go.Proofs.YtmgdglghjlggnaaGreat
open Go.RowKit
set_option linter.unusedVariables false
/-- the elements at the greatest distance -/
def farB (m : Nat) (S : List ByteArray) (i : Nat) : Bool := decide (dF S i = Lib.maxOf (dL m S))
set_option maxHeartbeats 1000000 in
theorem antipodes_pred (m : Nat) (S : List ByteArray) (bx b o c : Nat) (w : World) (hm1 : 1 ≤ m) (hm : m ≤ 40) (hx : w.cell? ⟨bx, 0, none⟩ = some (.slice (some ⟨b, o, none⟩) m c)) (hi : IntsIn w (some ⟨b, o, none⟩) (dL m S)) :
    PredEl w.heap.size 40 #[.pointer (some ⟨bx, 0, none⟩)] (farB m S) m w := by
  intro i him W hW
  have hdl := dL_len m S
  obtain ⟨_, _, hbo, hbl, hc0⟩ := (hi.later hW).cell (i := i) (by omega)
  simp only [Option.some.injEq, Addr.mk.injEq, and_true] at hbo
  obtain ⟨rfl, rfl⟩ := hbo
  have HCI : Hid (∀ V, Below W.heap.size W V → V.cell? ⟨b, o + i, none⟩ = some (.int .i64 (dF S i))) := Lib.hid (fun V hV => by
    rw [hV.cell hbl, hc0 i (by omega), dL_at him])
  have HBX : Hid (∀ V, Below W.heap.size W V → V.cell? ⟨bx, 0, none⟩ = some (.slice (some ⟨b, o, none⟩) m c)) := Lib.hid (fun V hV => by
    have h1 : W.cell? ⟨bx, 0, none⟩ = some (.slice (some ⟨b, o, none⟩) m c) := by rw [hW.cell (World.block_lt_of_cell? w _ hx)]; exact hx
    rw [hV.cell (World.block_lt_of_cell? W _ h1)]; exact h1)
  have HMX : Hid (∀ V, Below W.heap.size W V → Calls Tryz.prog 26 #[.slice (some ⟨b, o, none⟩) m c] V fun e w' => e = .returned (.int .i64 (Lib.maxOf (dL m S))) ∧ w' = V) := Lib.hid (fun V hV => by
    obtain ⟨_, _, hbo, _, hc2⟩ := ((hi.later hW).later hV).cell (i := 0) (by omega)
    simp only [Option.some.injEq, Addr.mk.injEq, and_true] at hbo
    obtain ⟨rfl, rfl⟩ := hbo
    have := Tryz.slices_Max_int b o (dL m S).length c (dL m S) V (by omega) (Nat.le_refl _) (by omega) hc2
    rw [List.take_length, hdl] at this
    exact this)
  have HF : Hid (∀ x y : Int, dF S i = x → Lib.maxOf (dL m S) = y → farB m S i = (x == y)) := Lib.hid (fun x y h1 h2 => by
    unfold farB; rw [h1, h2]; rfl)
  have hi2 : (i : Int) < (m : Int) := by omega
  obtain ⟨x, hx2⟩ : ∃ x, dF S i = x := ⟨_, rfl⟩
  obtain ⟨y, hy2⟩ : ∃ y, Lib.maxOf (dL m S) = y := ⟨_, rfl⟩
  have HF2 := Lib.hid (HF.out x y hx2 hy2)
  rw [hx2] at HCI
  rw [hy2] at HMX
  clear HF hx2 hy2 hc0 hbl hdl hi hx hW
  go_enter Tryz.func40, Tryz.ntmps40
  go_upto_region 1 with fail
  refine region_each (fun V => Below W.heap.size W V) (fun V V2 => Below V.heap.size V V2) (fun u => by simp only [fPut, Act.put, List.setIfInBounds_toArray, List.set_cons_succ, List.set_cons_zero, Nat.zero_add, Nat.reduceAdd]; rfl) (by kernel_rfl) (by kernel_rfl) (by kernel_rfl) (Below.drew (Below.refl _ _)) ?_
  apply each_read (fun _ => Below.refl _ _) rfl
  · intro u wv hC hf
    have z0 := HBX.out _ hC
    have z1 := HCI.out _ hC
    clear hf
    go_simp
    try rfl
  apply each_read (fun _ => Below.refl _ _) rfl
  · intro u wv hC hf
    have z0 := HBX.out _ hC
    have z1 := HCI.out _ hC
    clear hf
    go_simp
    try rfl
  conv => arg 8; simp only [List.cons_append, List.nil_append]
  apply each_read (fun _ => Below.refl _ _) rfl
  · intro u wv hC hf
    have z0 := HBX.out _ hC
    have z1 := HCI.out _ hC
    obtain ⟨d0_0, d1_1, -⟩ := hf
    have e0 : u 0 = _ := d0_0 rfl
    clear d0_0
    have e1 : u 1 = _ := d1_1 rfl
    clear d1_1
    go_simp
    try rfl
  conv => arg 8; simp only [List.cons_append, List.nil_append]
  apply each_read (fun _ => Below.refl _ _) rfl
  · intro u wv hC hf
    have z0 := HBX.out _ hC
    have z1 := HCI.out _ hC
    obtain ⟨d2_0, -⟩ := hf
    have e2 : u 2 = _ := d2_0 rfl
    clear d2_0
    go_simp
    try rfl
  conv => arg 8; simp only [List.cons_append, List.nil_append]
  apply each_read (fun _ => Below.refl _ _) rfl
  · intro u wv hC hf
    have z0 := HBX.out _ hC
    have z1 := HCI.out _ hC
    clear hf
    go_simp
    try rfl
  conv => arg 8; simp only [List.cons_append, List.nil_append]
  apply each_callR rfl
  · intro u wv hC hf
    have z0 := HBX.out _ hC
    have z1 := HCI.out _ hC
    obtain ⟨d4_0, -⟩ := hf
    have e4 : u 4 = _ := d4_0 rfl
    clear d4_0
    apply Exists.intro; apply Exists.intro; apply And.intro
    · go_simp; exact ⟨rfl, rfl⟩
    · refine (HMX.out _ hC).mono ?_
      rintro e w3 ⟨rfl, hw⟩
      subst hw
      exact ⟨rfl, hC, Below.refl _ _⟩
  conv => arg 8; simp only [List.cons_append, List.nil_append]
  apply each_read (fun _ => Below.refl _ _) rfl
  · intro u wv hC hf
    have z0 := HBX.out _ hC
    have z1 := HCI.out _ hC
    obtain ⟨d3_0, d5_1, -⟩ := hf
    have e3 : u 3 = _ := d3_0 rfl
    clear d3_0
    have e5 : u 5 = _ := d5_1 rfl
    clear d5_1
    go_simp
    try rfl
  conv => arg 8; simp only [List.cons_append, List.nil_append]
  apply each_read (fun _ => Below.refl _ _) rfl
  · intro u wv hC hf
    have z0 := HBX.out _ hC
    have z1 := HCI.out _ hC
    obtain ⟨d6_0, d5_1, d0_2, d1_3, d2_4, d3_5, d4_6, d5_7, d6_8, -⟩ := hf
    have e6 : u 6 = _ := d6_0 rfl
    clear d6_0
    have e5 : u 5 = _ := d5_1 rfl
    clear d5_1
    have e0 : u 0 = _ := d0_2 rfl
    clear d0_2
    have e1 : u 1 = _ := d1_3 rfl
    clear d1_3
    have e2 : u 2 = _ := d2_4 rfl
    clear d2_4
    have e3 : u 3 = _ := d3_5 rfl
    clear d3_5
    have e4 : u 4 = _ := d4_6 rfl
    clear d4_6
    clear d5_7
    clear d6_8
    go_simp
    try rfl
  intro u wv hC hall
  obtain ⟨a0, a1, a2, a3, a4, a5, a6, a7, -⟩ := hall
  have e0 : u 0 = _ := a0
  clear a0
  have e1 : u 1 = _ := a1
  clear a1
  have e2 : u 2 = _ := a2
  clear a2
  have e3 : u 3 = _ := a3
  clear a3
  have e4 : u 4 = _ := a4
  clear a4
  have e5 : u 5 = _ := a5
  clear a5
  have e6 : u 6 = _ := a6
  clear a6
  have e7 : u 7 = _ := a7
  clear a7
  simp only [e0, e1, e2, e3, e4, e5, e6, e7]
  clear e0 e1 e2 e3 e4 e5 e6 e7
  go_wp2_with fail
  go_ret
  exact ⟨ret_bool HF2.out.symm, hC⟩
def RetAn (m : Nat) (ln zn : List Nat) (l : List Int) (w : World) (e : Ending) (w' : World) : Prop := ∃ S, ShortP m ln zn S ∧ RetSl 3 1 (thoseL (m : Nat) l (farB m S)).length (intVals (thoseL (m : Nat) l (farB m S))) w e w'
set_option maxRecDepth 20000 in
set_option maxHeartbeats 1000000 in
theorem implAntipodesOf_any (m : Nat) (ln zn : List Nat) (l z : List Int) (a : Option Addr) (cap : Nat) (az : Option Addr) (cz : Nat) (w : World) (hle : l = ln.map Int.ofNat) (hze : z = zn.map Int.ofNat) (h : ImgsOk m ln zn) (hl : IntsIn w a l) (hz : IntsIn w az z) :
    Calls Tryz.prog 17 #[.agg #[.int .i64 (m : Nat), .slice a l.length cap], .slice az z.length cz] w (RetAn m ln zn l w) := by
  have hm1 := h.tab.lo
  have hm2 := h.tab.hi
  have hll : l.length = m * m := by rw [hle, List.length_map]; exact h.tab.len
  have hsq := sq_le hm2
  have hl47 : l.length ≤ 2 ^ 47 := by omega
  have HIM := Lib.hid (fun W h1 h2 => imagesOk_ok m ln zn l z a cap az cz W hle hze h h1 h2)
  have HDI := Lib.hid (fun W h1 h2 => distances_ok m ln zn l z a cap az cz W hle hze h h1 h2)
  have HB := Lib.hid (alloc_belowS w (.cells #[.int .i64 (m : Nat), .slice a l.length cap] 25))
  have HX : Hid (∀ W, Below (w.alloc (.cells #[.int .i64 (m : Nat), .slice a l.length cap] 25)).heap.size (w.alloc (.cells #[.int .i64 (m : Nat), .slice a l.length cap] 25)) W → W.cell? ⟨w.heap.size, 0, none⟩ = some (.int .i64 (m : Nat)) ∧ W.cell? ⟨w.heap.size, 1, none⟩ = some (.slice a l.length cap)) := Lib.hid (fun W hW => ⟨by rw [hW.cell (by simp)]; simp, by rw [hW.cell (by simp)]; simp⟩)
  have HN := Lib.hid (hl.later HB.out)
  have HZ := Lib.hid (hz.later HB.out)
  clear hl hz hle hze h hsq hll
  go_enter Tryz.func17, Tryz.ntmps17
  go_upto_region 1 with fail
  generalize w.alloc (.cells #[.int .i64 (m : Nat), .slice a l.length cap] 25) = w1 at *
  obtain ⟨z0, z1⟩ := HX.out w1 (Below.refl _ _)
  go_wp2_with fail
  refine (HIM.out _ HN.out HZ.out).mono ?_
  rintro e w2 ⟨rfl, hb2⟩
  have HB2 := Lib.hid hb2
  clear z0 z1 hb2
  obtain ⟨z0, z1⟩ := HX.out _ HB2.out
  go_wp2_with fail
  refine (HDI.out _ (HN.out.later HB2.out) (HZ.out.later HB2.out)).mono ?_
  rintro e w3 ⟨S, hsh, a2, c2, rfl, ho, hb3⟩
  have HSP := Lib.hid hsh
  have hdl := dL_len m S
  obtain ⟨b2, o2, rfl, _, _⟩ := (owns_ints ho).cell (i := 0) (by omega)
  have HIN := Lib.hid (owns_ints ho)
  have HB3 := Lib.hid (Below.now HB2.out hb3)
  rw [hdl]
  clear z0 z1 hb3 hsh ho
  go_upto_region 4 with fail
  have HB4 := Lib.hid (Below.now HB3.out (alloc_belowS w3 (.cells #[.slice (some ⟨b2, o2, none⟩) m c2] 23)))
  have HIN4 := Lib.hid (HIN.out.later (alloc_belowS w3 (.cells #[.slice (some ⟨b2, o2, none⟩) m c2] 23)))
  have HC4 : Hid ((w3.alloc (.cells #[.slice (some ⟨b2, o2, none⟩) m c2] 23)).cell? ⟨w3.heap.size, 0, none⟩ = some (.slice (some ⟨b2, o2, none⟩) m c2)) := Lib.hid (by simp)
  generalize w3.alloc (.cells #[.slice (some ⟨b2, o2, none⟩) m c2] 23) = w4 at *
  generalize w3.heap.size = bx at *
  obtain ⟨z0, z1⟩ := HX.out _ HB4.out
  go_wp2_with fail
  refine (those_any (m : Nat) l a cap _ (HN.out.later HB4.out) hl47 _ _ _ (farB m S) (Nat.le_refl _) ?_ (enters_of Tryz.func40 (by kernel_rfl) rfl)).mono ?_
  · intro _
    exact antipodes_pred m S bx b2 o2 c2 w4 hm1 hm2 HC4.out HIN4.out
  rintro e w5 ⟨a5, c5, rfl, ho5, hb5⟩
  have F : Hid (RetAn m ln zn l w (.returned (.slice a5 (thoseL (m : Nat) l (farB m S)).length c5)) w5) := Lib.hid ⟨S, HSP.out, a5, c5, rfl, owns_mono ho5 (by have := HB.out.size; have := HB4.out.size; omega), Below.now HB.out (Below.now HB4.out hb5)⟩
  clear ho5 hb5 z0 z1
  generalize (thoseL (m : Nat) l (farB m S)).length = rn at *
  go_wp2_with fail
  go_ret
  exact F.out
/-- two elements are inverse to each other -/
def symB (m : Nat) (ln : List Nat) (x : Nat) (k : Int) : Bool := decide (tm m ln x k.toNat = 0) && decide (tm m ln k.toNat x = 0)
set_option maxHeartbeats 1000000 in
theorem symmetric_pred (m : Nat) (ln zn : List Nat) (a : Option Addr) (len cap bt bi x : Nat) (w : World) (hx0 : w.cell? ⟨bt, 0, none⟩ = some (.int .i64 (m : Nat))) (hx1 : w.cell? ⟨bt, 1, none⟩ = some (.slice a len cap)) (hbi : w.cell? ⟨bi, 0, none⟩ = some (.int .i64 ((x : Nat) : Int))) (hl : NatsIn w a ln) (hT : Tb m ln) (hlen : len = m * m) (hx : x < m) (hzm : ∀ y ∈ zn, y < m) :
    PredInts w.heap.size 42 #[.pointer (some ⟨bt, 0, none⟩), .pointer (some ⟨bi, 0, none⟩)] (symB m ln x) (zn.map Int.ofNat) w := by
  intro j hj W hW
  rw [List.length_map] at hj
  have hkm : zn.getD j 0 < m := by
    have := hzm _ (List.getElem_mem hj)
    rw [List.getD_eq_getElem?_getD, List.getElem?_eq_getElem hj]
    exact this
  have hnz : nthZ (zn.map Int.ofNat) j = ((zn.getD j 0 : Nat) : Int) := by
    rw [nthZ_lt (by rw [List.length_map]; exact hj)]
    simp [List.getD_eq_getElem?_getD, hj]
  rw [hnz]
  generalize zn.getD j 0 = k at *
  have HX : Hid (∀ V, Below W.heap.size W V → V.cell? ⟨bt, 0, none⟩ = some (.int .i64 (m : Nat)) ∧ V.cell? ⟨bt, 1, none⟩ = some (.slice a len cap) ∧ V.cell? ⟨bi, 0, none⟩ = some (.int .i64 ((x : Nat) : Int))) := Lib.hid (fun V hV => by
    have h := fun (p : Addr) v (hp : w.cell? p = some v) => show V.cell? p = some v from by
      have h1 : W.cell? p = some v := by rw [hW.cell (World.block_lt_of_cell? w _ hp)]; exact hp
      rw [hV.cell (World.block_lt_of_cell? W _ h1)]; exact h1
    exact ⟨h _ _ hx0, h _ _ hx1, h _ _ hbi⟩)
  have HT1 : Hid (∀ V, Below W.heap.size W V → Calls Tryz.prog 43 #[.agg #[.int .i64 m, .slice a len cap], .int .i64 (x : Nat), .int .i64 (k : Nat)] V fun e w' => e = .returned (.int .i64 (tm m ln x k : Nat)) ∧ Below V.heap.size V w') := Lib.hid (fun V hV => implTimes_any m ln a len cap x k V ((hl.later hW).later hV) hT hlen hx hkm)
  have HT2 : Hid (∀ V, Below W.heap.size W V → Calls Tryz.prog 43 #[.agg #[.int .i64 m, .slice a len cap], .int .i64 (k : Nat), .int .i64 (x : Nat)] V fun e w' => e = .returned (.int .i64 (tm m ln k x : Nat)) ∧ Below V.heap.size V w') := Lib.hid (fun V hV => implTimes_any m ln a len cap k x V ((hl.later hW).later hV) hT hlen hkm hx)
  have HF : Hid (∀ p q : Nat, tm m ln x k = p → tm m ln k x = q → symB m ln x ((k : Nat) : Int) = (decide (p = 0) && decide (q = 0))) := Lib.hid (fun p q h1 h2 => by
    unfold symB; rw [Int.toNat_natCast, h1, h2])
  have HF2 := Lib.hid (HF.out _ _ rfl rfl)
  generalize tm m ln x k = p at *
  generalize tm m ln k x = q at *
  clear hx0 hx1 hbi hl hT hlen hx hzm hkm hnz hW HF
  obtain ⟨z0, z1, z2⟩ := HX.out W (Below.refl _ _)
  go_enter Tryz.func42, Tryz.ntmps42
  go_wp2_with fail
  refine (HT1.out W (Below.refl _ _)).mono ?_
  rintro e w2 ⟨rfl, hb2⟩
  have HB2 := Lib.hid hb2
  clear z0 z1 z2 hb2
  obtain ⟨z0, z1, z2⟩ := HX.out _ HB2.out
  by_cases hp : p = 0
  · have hp1 : (p : Int) = 0 := by omega
    subst hp
    clear hp1
    go_wp2_with fail
    refine (HT2.out _ HB2.out).mono ?_
    rintro e w3 ⟨rfl, hb3⟩
    have HB3 := Lib.hid (Below.now HB2.out hb3)
    clear z0 z1 z2 hb3
    go_wp2_with fail
    go_ret
    exact ⟨ret_bool (by rw [HF2.out]; by_cases hq : q = 0 <;> simp [hq]), HB3.out⟩
  · have hp1 : ¬ (p : Int) = 0 := by omega
    go_wp2_with fail
    go_ret
    exact ⟨ret_bool (by rw [HF2.out]; simp [hp]), HB2.out⟩
def RetSy (m : Nat) (ln zn : List Nat) (w : World) (e : Ending) (w' : World) : Prop := ∃ b, e = .returned (.bool b) ∧ (b = true → ∀ x ∈ zn, ∃ k, k < m ∧ tm m ln x k = 0 ∧ tm m ln k x = 0) ∧ Below w.heap.size w w'
theorem sym_any {m : Nat} {ln zn : List Nat} {x : Nat} (hzm : ∀ y ∈ zn, y < m) (h : (zn.map Int.ofNat).any (symB m ln x) = true) : ∃ k, k < m ∧ tm m ln x k = 0 ∧ tm m ln k x = 0 := by
  obtain ⟨k, hk, hp⟩ := List.any_eq_true.1 h
  obtain ⟨q, hq, rfl⟩ := List.mem_map.1 hk
  unfold symB at hp
  have e : (Int.ofNat q).toNat = q := rfl
  rw [e] at hp
  simp only [Bool.and_eq_true, decide_eq_true_eq] at hp
  exact ⟨q, hzm q hq, hp.1, hp.2⟩
set_option maxRecDepth 20000 in
set_option maxHeartbeats 2000000 in
theorem implIsSymmetric_any (m : Nat) (ln zn : List Nat) (l z : List Int) (a : Option Addr) (cap : Nat) (az : Option Addr) (cz : Nat) (w : World) (hle : l = ln.map Int.ofNat) (hze : z = zn.map Int.ofNat) (h : ImgsOk m ln zn) (hl : IntsIn w a l) (hz : IntsIn w az z) :
    Calls Tryz.prog 19 #[.agg #[.int .i64 (m : Nat), .slice a l.length cap], .slice az z.length cz] w (RetSy m ln zn w) := by
  have hm1 := h.tab.lo
  have hm2 := h.tab.hi
  have hll : l.length = m * m := by rw [hle, List.length_map]; exact h.tab.len
  have hzl : z.length = zn.length := by rw [hze, List.length_map]
  have hz4 := h.few
  have HIM := Lib.hid (fun W h1 h2 => imagesOk_ok m ln zn l z a cap az cz W hle hze h h1 h2)
  have HB := Lib.hid (alloc_belowS w (.cells #[.int .i64 (m : Nat), .slice a l.length cap] 25))
  have HX : Hid (∀ W, Below (w.alloc (.cells #[.int .i64 (m : Nat), .slice a l.length cap] 25)).heap.size (w.alloc (.cells #[.int .i64 (m : Nat), .slice a l.length cap] 25)) W → W.cell? ⟨w.heap.size, 0, none⟩ = some (.int .i64 (m : Nat)) ∧ W.cell? ⟨w.heap.size, 1, none⟩ = some (.slice a l.length cap)) := Lib.hid (fun W hW => ⟨by rw [hW.cell (by simp)]; simp, by rw [hW.cell (by simp)]; simp⟩)
  have HCF : Hid (∀ (x bt bi : Nat) W, x < m → W.cell? ⟨bt, 0, none⟩ = some (.int .i64 (m : Nat)) → W.cell? ⟨bt, 1, none⟩ = some (.slice a l.length cap) → W.cell? ⟨bi, 0, none⟩ = some (.int .i64 ((x : Nat) : Int)) → IntsIn W a l → IntsIn W az z → Calls Tryz.prog 41 #[.slice az z.length cz, .func (.func 42) #[] #[.pointer (some ⟨bt, 0, none⟩), .pointer (some ⟨bi, 0, none⟩)]] W fun e w' => e = .returned (.bool ((zn.map Int.ofNat).any (symB m ln x))) ∧ Below W.heap.size W w') := Lib.hid (fun x bt bi W hx h0 h1 h2 h3 h4 => by
    have h5 := symmetric_pred m ln zn a l.length cap bt bi x W h0 h1 h2 (by unfold NatsIn; rw [← hle]; exact h3) h.tab.toTb hll hx h.rng
    rw [← hze] at h5 ⊢
    exact containsFuncInts_any 42 _ (symB m ln x) z az cz W h4 (by omega) W.heap.size (Nat.le_refl _) h5 (enters_of Tryz.func42 (by kernel_rfl) rfl))
  have HAN := Lib.hid (fun x => sym_any (m := m) (ln := ln) (zn := zn) (x := x) h.rng)
  have HRG := Lib.hid h.rng
  have HZC : Hid (∀ W, IntsIn W az z → ∀ j, j < zn.length → ∃ b off, az = some ⟨b, off, none⟩ ∧ W.cell? ⟨b, off + j, none⟩ = some (.int .i64 ((zn.getD j 0 : Nat) : Int))) := Lib.hid (fun W hW j hj => img_cell (by unfold NatsIn; rw [← hze]; exact hW) hj)
  have HN := Lib.hid (hl.later HB.out)
  have HZ := Lib.hid (hz.later HB.out)
  rw [hzl] at *
  clear hl hz hle hze h hll hzl
  go_enter Tryz.func19, Tryz.ntmps19
  go_upto_region 1 with fail
  generalize w.alloc (.cells #[.int .i64 (m : Nat), .slice a l.length cap] 25) = w1 at *
  obtain ⟨z0, z1⟩ := HX.out w1 (Below.refl _ _)
  go_wp2_with fail
  refine (HIM.out _ HN.out HZ.out).mono ?_
  rintro e w2 ⟨rfl, hb2⟩
  have HB2 := Lib.hid hb2
  clear z0 z1 hb2
  go_wp2_with fail
  go_loopw [13] (fun i wr => ∃ j : Nat, j ≤ zn.length ∧ i = .int .i64 (j : Nat) ∧ Hid (Below w1.heap.size w1 wr) ∧ Hid (∀ y, y < j → ∃ k, k < m ∧ tm m ln (zn.getD y 0) k = 0 ∧ tm m ln k (zn.getD y 0) = 0)) (fun i _ => zn.length - (intOf i).toNat)
  case atStart => exact ⟨0, Nat.zero_le _, rfl, HB2, Lib.hid (fun y hy => by omega)⟩
  case round =>
    clear HB2
    obtain ⟨j, hj, rfl, HW, HALL⟩ := hrel
    by_cases hlt : j < zn.length
    · obtain ⟨bz, oz, rfl, hcz⟩ := HZC.out wr (HZ.out.later HW.out) j hlt
      have hxm : zn.getD j 0 < m := by
        have := HRG.out _ (List.getElem_mem hlt)
        rw [List.getD_eq_getElem?_getD, List.getElem?_eq_getElem hlt]
        exact this
      obtain ⟨x, hx⟩ : ∃ x, zn.getD j 0 = x := ⟨_, rfl⟩
      have HXE := Lib.hid hx
      rw [hx] at hcz hxm
      clear hx
      go_upto_region 6 with fail
      clear hcz
      have HB5 := Lib.hid (Below.now HW.out (alloc_belowS wr (.cells #[.int .i64 (x : Nat)] 3)))
      have HC5 : Hid ((wr.alloc (.cells #[.int .i64 (x : Nat)] 3)).cell? ⟨wr.heap.size, 0, none⟩ = some (.int .i64 (x : Nat))) := Lib.hid (by simp)
      generalize wr.alloc (.cells #[.int .i64 (x : Nat)] 3) = w5 at *
      generalize wr.heap.size = bi at *
      obtain ⟨z0, z1⟩ := HX.out _ HB5.out
      go_wp2_with fail
      refine (HCF.out x w.heap.size bi w5 hxm z0 z1 HC5.out (HN.out.later HB5.out) (HZ.out.later HB5.out)).mono ?_
      rintro e w6 ⟨rfl, hb6⟩
      have HB6 := Lib.hid (Below.now HB5.out hb6)
      have HAX := Lib.hid (HAN.out x)
      clear z0 z1 hb6
      generalize (zn.map Int.ofNat).any (symB m ln x) = q at *
      cases q
      · have F : Hid (RetSy m ln zn w (.returned (.bool false)) w6) := Lib.hid ⟨false, rfl, fun h => (by cases h), Below.now HB.out HB6.out⟩
        go_wp2_with fail
        go_ret
        exact F.out
      · have HA2 : Hid (∀ y, y < j + 1 → ∃ k, k < m ∧ tm m ln (zn.getD y 0) k = 0 ∧ tm m ln k (zn.getD y 0) = 0) := Lib.hid (fun y hy => by
          by_cases e : y = j
          · rw [e, HXE.out]; exact HAX.out rfl
          · exact HALL.out y (by omega))
        go_wp2_with fail
        go_roundw
        case rel => exact ⟨j + 1, by omega, by go_num, HB6, HA2⟩
        case measure => simp [intOf]; omega
    · obtain rfl : j = zn.length := by omega
      have F : Hid (RetSy m ln zn w (.returned (.bool true)) wr) := Lib.hid ⟨true, rfl, fun _ x hx => by
        obtain ⟨y, hy, e⟩ := List.getElem_of_mem hx
        have := HALL.out y hy
        rw [List.getD_eq_getElem?_getD, List.getElem?_eq_getElem hy, Option.getD_some, e] at this
        exact this, Below.now HB.out HW.out⟩
      go_wp2_with fail
      go_ret
      exact F.out
end Go.Proofs.YtmgdglghjlggnaaGreat
namespace Go.Proofs.YtmgdglghjlggnaaGreat
open Go.RowKit
set_option linter.unusedVariables false
/-- the text of a rule, of rules -/
def ruleT (r : RulD) : ByteArray := dotB r.1 ++ ⟨#[62]⟩ ++ dotB r.2
def rulesT (s : ByteArray) (R : List RulD) : Nat → ByteArray
  | 0 => s
  | j + 1 => rulesT s R j ++ ⟨#[32]⟩ ++ ruleT (nthR R j)
theorem ruleT_size (r : RulD) : (ruleT r).size ≤ r.1.size + r.2.size + 3 := by
  have h1 := dotB_size r.1
  have h2 := dotB_size r.2
  unfold ruleT
  rw [ByteArray.size_append, ByteArray.size_append]
  have : (⟨#[62]⟩ : ByteArray).size = 1 := rfl
  omega
set_option maxRecDepth 20000 in
set_option maxHeartbeats 1000000 in
theorem specFormatRule_any (x y : ByteArray) (w : World) (hx : x.size + y.size + 3 ≤ maxLen) :
    Calls Tryz.prog 94 #[.agg #[.string x, .string y]] w fun e w' => e = .returned (.string (ruleT (x, y))) ∧ Below w.heap.size w w' := by
  have h1 := dotB_size x
  have h2 := dotB_size y
  unfold maxLen at hx
  have P1 := Lib.hid (fun W => l03Side_any x W)
  have P2 := Lib.hid (fun W => l03Side_any y W)
  have HR : Hid (ruleT (x, y) = dotB x ++ ⟨#[62]⟩ ++ dotB y) := Lib.hid rfl
  generalize ruleT (x, y) = rt at *
  generalize dotB x = a at *
  generalize dotB y = b at *
  have c1 : ¬ 9223372036854775807 < a.size + 1 := by omega
  have c3 : ¬ 9223372036854775807 < a.size + 1 + b.size := by omega
  go_enter Tryz.func94, Tryz.ntmps94
  go_wp2_with fail
  obtain ⟨w0, hw0⟩ : ∃ w0, w0 = (w.alloc (.cells #[.string x, .string y] 89)) := ⟨_, rfl⟩
  have HX : Hid (Below w.heap.size w w0) := Lib.hid (by rw [hw0]; exact (Below.refl _ _).alloc (Nat.le_refl _) _)
  have hx0 : ∀ W, Below w0.heap.size w0 W → W.cell? ⟨w.heap.size, 0, none⟩ = some (.string x) := fun W hW => by rw [hW.cell (by rw [hw0]; simp), hw0]; simp
  have hx1 : ∀ W, Below w0.heap.size w0 W → W.cell? ⟨w.heap.size, 1, none⟩ = some (.string y) := fun W hW => by rw [hW.cell (by rw [hw0]; simp), hw0]; simp
  rw [← hw0]
  clear hw0
  have q0 : ∀ x, (wide w0 x).cell? ⟨w.heap.size, 0, none⟩ = some _ := wide_cell (hx0 _ (Below.refl _ _))
  have q1 : ∀ x, (wide w0 x).cell? ⟨w.heap.size, 1, none⟩ = some _ := wide_cell (hx1 _ (Below.refl _ _))
  clear hx0 hx1
  refine region_wide (by kernel_rfl) (by kernel_rfl) ?_
  repeat (quiet_step (first
    | (go_at_call 110; refine (P1.out _).mono ?_; rintro e w2 ⟨rfl, rfl⟩; exact ⟨rfl, _, rfl⟩)
    | (go_at_call 110; refine (P2.out _).mono ?_; rintro e w2 ⟨rfl, rfl⟩; exact ⟨rfl, _, rfl⟩)))
  refine wpQuiet_nil ?_
  rintro w4 ⟨x4, rfl⟩
  have hend := Below.now HX.out (below_wide w0 x4)
  clear q0 q1
  go_wp2_with fail
  go_ret
  exact ⟨ret_str HR.out.symm, hend⟩
theorem rulesT_size {s : ByteArray} {k : Int} {R : List RulD} (h : rulesP k R) : ∀ j, j ≤ R.length → (rulesT s R j).size ≤ s.size + j * 20
  | 0, _ => by simp [rulesT]
  | j + 1, hj => by
    have ih := rulesT_size (s := s) h j (by omega)
    have h1 := ruleT_size (nthR R j)
    have h2 := (h.2 _ (nthR_mem (show j < R.length by omega))).1.2
    rw [rulesT, ByteArray.size_append, ByteArray.size_append]
    have : (⟨#[32]⟩ : ByteArray).size = 1 := rfl
    omega
/-- the text of a system -/
def sysT (k : Int) (R : List RulD) : ByteArray := rulesT (numB k) R R.length
open Classical in
noncomputable def sysT0 (k : Int) (R : List RulD) : ByteArray := if rulesP k R then sysT k R else ⟨#[]⟩
set_option maxRecDepth 20000 in
set_option maxHeartbeats 2000000 in
theorem specFormatSystem_any (k : Int) (l : List RulD) (a : Option Addr) (cap : Nat) (w : World) (hl : RulesIn w a l) (hlen : l.length ≤ 2 ^ 40) (hz : SzR l) :
    Calls Tryz.prog 69 #[.agg #[.int .i64 k, .slice a l.length cap]] w fun e w' => e = .returned (.string (sysT0 k l)) ∧ Below w.heap.size w w' := by
  have HL := Lib.hid hl
  have HR := Lib.hid (fun W h => specRulesOk_any k l a cap W h hlen hz)
  have HA := Lib.hid (fun o => alloc_belowS w o)
  clear hl hz
  go_enter Tryz.func69, Tryz.ntmps69
  go_wp2_with fail
  refine (HR.out _ (HL.out.later (HA.out _))).mono ?_
  rintro e w2 ⟨bb, hbb, rfl, hb2⟩
  have HBB := Lib.hid hbb
  have hb0 := (hb2.block w.heap.size (by simp)).trans (alloc_at w (.cells #[.int .i64 k, .slice a l.length cap] 67))
  obtain ⟨s0, s1⟩ := sys_cells hb0
  have HW2 := Lib.hid (Below.now (HA.out _) hb2)
  clear hbb hb2 HR
  cases bb
  · have F : Hid (sysT0 k l = ⟨#[]⟩) := Lib.hid (if_neg (fun h => by have := HBB.out.2 h; cases this))
    go_wp2_with fail
    go_ret
    exact ⟨ret_str F.out.symm, HW2.out⟩
  · have HRP := Lib.hid (HBB.out.1 rfl)
    have F : Hid (sysT0 k l = rulesT (numB k) l l.length) := Lib.hid (if_pos HRP.out)
    clear HBB
    have hk1 := HRP.out.1.1
    have hn := itoa_len (n := k) (by omega) (by omega)
    have HF := Lib.hid (fun W => specFormatInt_any k W (by omega) (by omega))
    have HT0 : Hid (numB k = rulesT (numB k) l 0) := Lib.hid rfl
    go_wp2_with fail
    refine (HF.out _).mono ?_
    rintro e w3 ⟨rfl, hb3⟩
    have hb03 := (hb3.block w.heap.size (Array.getElem?_eq_some_iff.1 hb0).1).trans hb0
    obtain ⟨s0, s1⟩ := sys_cells hb03
    have HW3 := Lib.hid (Below.now HW2.out hb3)
    clear hb3 HF hb0
    go_wp2_with fail
    clear s0 s1
    go_loopw [3, 15] (fun s i wr => ∃ j : Nat, j ≤ l.length ∧ i = .int .i64 (j : Nat) ∧ s = .string (rulesT (numB k) l j) ∧ Below w.heap.size w wr) (fun _ i _ => l.length - (intOf i).toNat)
    case atStart => exact ⟨0, Nat.zero_le _, rfl, rfl, HW3.out⟩
    case round =>
      obtain ⟨j, hj, rfl, rfl, hbw⟩ := hrel
      have HBW := Lib.hid hbw
      by_cases hlt : j < l.length
      · obtain ⟨b, off, rfl, hb, hc⟩ := (HL.out.later hbw).cell hlt
        obtain ⟨c1, c2⟩ := hc j hlt
        have hz2 := (HRP.out.2 _ (nthR_mem hlt)).1.2
        have hts := rulesT_size (s := numB k) HRP.out j (by omega)
        have hrs := ruleT_size (nthR l j)
        have h12 := HRP.out.1.2
        have HS : Hid (rulesT (numB k) l (j + 1) = rulesT (numB k) l j ++ ⟨#[32]⟩ ++ ruleT ((nthR l j).1, (nthR l j).2)) := Lib.hid rfl
        have hrs2 : (ruleT ((nthR l j).1, (nthR l j).2)).size ≤ 30 := by
          show (ruleT (nthR l j)).size ≤ 30; omega
        clear hc hbw hrs
        generalize (nthR l j).1 = x at *
        generalize (nthR l j).2 = y at *
        have HFR := Lib.hid (fun W => specFormatRule_any x y W (by unfold maxLen; omega))
        generalize ruleT (x, y) = rt at *
        generalize rulesT (numB k) l j = st at *
        have n1 : ¬ 9223372036854775807 < st.size + 1 := by omega
        have n2 : ¬ 9223372036854775807 < st.size + 1 + rt.size := by omega
        go_wp2_with fail
        refine (HFR.out _).mono ?_
        rintro e w5 ⟨rfl, hb5⟩
        have HB5 := Lib.hid (Below.now ((alloc_belowS wr (.cells #[.string x, .string y] 89))) hb5)
        have HB6 := Lib.hid (Below.now HBW.out HB5.out)
        clear hb5
        go_wp2_with fail
        go_roundw
        case rel => exact ⟨j + 1, by omega, by go_num, by rw [HS.out], HB6.out⟩
        case measure => simp [intOf]; omega
      · obtain rfl : j = l.length := by omega
        go_wp2_with fail
        go_ret
        exact ⟨ret_str F.out.symm, HBW.out⟩
end Go.Proofs.YtmgdglghjlggnaaGreat
namespace Go.Proofs.YtmgdglghjlggnaaGreat
open Go.RowKit
set_option linter.unusedVariables false
/-- strings of at most m bytes -/
def ShortS (m : Nat) (l : List ByteArray) : Prop := ∀ s ∈ l, s.size ≤ m
theorem ShortS.app {m : Nat} {l : List ByteArray} {s : ByteArray} (h : ShortS m l) (hs : s.size ≤ m) : ShortS m (l ++ [s]) := by
  intro x hx
  rcases List.mem_append.1 hx with h1 | h1
  · exact h x h1
  · obtain rfl : x = s := by simpa using h1
    exact hs
theorem ShortS.at_ {m : Nat} {l : List ByteArray} (h : ShortS m l) {j : Nat} (hj : j < l.length) : (nthS l j).size ≤ m := h _ (by rw [nthS_lt hj]; exact List.getElem_mem hj)
def RetStrs (m k : Nat) (w : World) (e : Ending) (w' : World) : Prop := ∃ l : List ByteArray, (ShortS m l ∧ 1 ≤ l.length ∧ l.length ≤ k) ∧ RetSl 9 1 l.length (strVals l) w e w'
theorem strVals_appP (l : List ByteArray) (s : ByteArray) : strVals (l ++ [s]) = strVals l ++ [.string s] := by simp [strVals]
theorem bld_drewN {T : TypeId} {size : Nat} {w wr : World} {v : Value} {n : Nat} {xs : List Value} (h : Bld T size w wr v n xs) (k : Nat) : Bld T size w (wr.drewN k) v n xs := h.later ⟨rfl, rfl, rfl, Nat.le_refl _, fun _ _ => rfl⟩
set_option maxRecDepth 20000 in
set_option maxHeartbeats 4000000 in
theorem specSplitAny_any (s : ByteArray) (c : UInt8) (w : World) (hs : s.size ≤ 2 ^ 20) :
    Calls Tryz.prog 65 #[.string s, .string ⟨#[c]⟩] w (RetStrs s.size (s.size + 1) w) := by
  have HS := Lib.hid (Bld.empty 9 1 w)
  have hz1 : (⟨#[c]⟩ : ByteArray).size = 1 := rfl
  have hcb := byte_lt c
  go_enter Tryz.func65, Tryz.ntmps65
  go_wp2_with fail
  go_loopw [5, 6, 7] (fun o f i wr => ∃ (j fr : Nat) (l : List ByteArray), (j ≤ s.size ∧ fr ≤ j) ∧ i = .int .i64 (j : Nat) ∧ f = .int .i64 (fr : Nat) ∧ Hid (ShortS s.size l ∧ l.length ≤ j) ∧ Bld 9 1 w wr o l.length (strVals l)) (fun _ _ i _ => s.size - (intOf i).toNat)
  case atStart => exact ⟨0, 0, [], ⟨Nat.zero_le _, Nat.le_refl _⟩, rfl, rfl, Lib.hid ⟨(fun x hx => by simp at hx), Nat.le_refl _⟩, HS.out⟩
  case round =>
    clear HS
    obtain ⟨j, fr, l, ⟨hj, hfr⟩, rfl, rfl, hl, hbd⟩ := hrel
    obtain ⟨a3, c3, rfl⟩ := owns_form hbd.1
    have hl2 := hl.out.2
    have HB := Lib.hid hbd
    clear hbd
    by_cases hlt : j < s.size
    · have hji : (j : Int) < (s.size : Int) := by omega
      go_wp2_with fail
      generalize hW : wr = wr0 at *; clear hW
      go_loopw [5, 6, 8] (fun o f k wr => ∃ i : Nat, i ≤ 1 ∧ o = .slice a3 l.length c3 ∧ f = .int .i64 (fr : Nat) ∧ k = .int .i64 (i : Nat) ∧ Hid (Bld 9 1 w wr (.slice a3 l.length c3) l.length (strVals l))) (fun _ _ k _ => 1 - (intOf k).toNat)
      case atStart => exact ⟨0, by omega, rfl, rfl, rfl, HB⟩
      case round =>
        clear HB
        obtain ⟨i, hi, rfl, rfl, rfl, HB⟩ := hrel
        by_cases hi0 : i = 0
        · subst hi0
          have HD : Hid (∀ n, Bld 9 1 w (wr.drewN n) (.slice a3 l.length c3) l.length (strVals l)) := Lib.hid (fun n => bld_drewN HB.out n)
          cases hq : ((s[j]'hlt).toNat : Int) == ((((⟨#[c]⟩ : ByteArray)[0]'(Nat.zero_lt_one)).toNat : Nat) : Int)
          · go_wp2_with fail
            go_quiet (fail)
            go_wp2_with fail
            go_roundw
            case rel => exact ⟨1, by omega, rfl, rfl, by go_num, Lib.hid (HD.out _)⟩
            case measure => simp [intOf]; try omega
          · have F : Hid (∀ x, x.size ≤ s.size → (ShortS s.size (l ++ [x]) ∧ (l ++ [x]).length ≤ j + 1)) := Lib.hid (fun x hx => ⟨hl.out.1.app hx, by simp; omega⟩)
            have hxs : (s.extract fr j).size ≤ s.size := by rw [ByteArray.size_extract]; omega
            go_wp2_with fail
            go_quiet (fail)
            go_wp2_with (at_builtin; refine wpList_app1 rfl _ _ rfl Tryz.underlying52 Tryz.infoStr rfl (by decide) rfl (HD.out nq) rfl rfl ?c1 ?c2 ?c3 ?c4)
            case c1 => simp [Value.oneCell']
            case c2 => unfold maxLen; omega
            case c3 => omega
            intro v2 w4 hb2
            have F2 : Hid (Bld 9 1 w w4 v2 (l ++ [s.extract fr j]).length (strVals (l ++ [s.extract fr j]))) := Lib.hid (by rw [strVals_appP, List.length_append]; exact hb2)
            clear hb2
            go_wp2_with fail
            go_roundw
            case rel => exact ⟨j + 1, j + 1, _, ⟨by omega, by omega⟩, by go_num, by go_num, Lib.hid (F.out _ hxs), F2.out⟩
            case measure => simp [intOf]; omega
        · obtain rfl : i = 1 := by omega
          go_wp2_with fail
          go_roundw
          case rel => exact ⟨j + 1, fr, l, ⟨by omega, by omega⟩, by go_num, rfl, Lib.hid ⟨hl.out.1, by omega⟩, HB.out⟩
          case measure => simp [intOf]; omega
    · obtain rfl : j = s.size := by omega
      have F : Hid (∀ x, x.size ≤ s.size → (ShortS s.size (l ++ [x]) ∧ 1 ≤ (l ++ [x]).length ∧ (l ++ [x]).length ≤ s.size + 1)) := Lib.hid (fun x hx => ⟨hl.out.1.app hx, by simp, by simp; omega⟩)
      have hxs : (s.extract fr s.size).size ≤ s.size := by rw [ByteArray.size_extract]; omega
      go_wp2_with (at_builtin; refine wpList_app1 rfl _ _ rfl Tryz.underlying52 Tryz.infoStr rfl (by decide) rfl HB.out rfl rfl ?a1 ?a2 ?a3 ?a4)
      case a1 => simp [Value.oneCell']
      case a2 => unfold maxLen; omega
      case a3 => omega
      intro v2 w4 hb2
      have F2 : Hid (RetStrs s.size (s.size + 1) w (.returned v2) w4) := Lib.hid ⟨_, F.out _ hxs, by rw [strVals_appP, List.length_append]; exact hb2.ret⟩
      clear hb2
      go_wp2_with fail
      go_ret
      exact F2.out
end Go.Proofs.YtmgdglghjlggnaaGreat
