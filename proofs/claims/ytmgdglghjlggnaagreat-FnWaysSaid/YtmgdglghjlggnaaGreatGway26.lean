/-
  Words by their values and least words, of the program: CountValues, CountShortest.
-/
import Derived.Test.YtmgdglghjlggnaaGreatGway23
import Derived.Test.YtmgdglghjlggnaaGreatGway24
import Derived.Test.YtmgdglghjlggnaaGreatGway25
import Derived.Test.YtmgdglghjlggnaaGreatGway10
import Derived.Test.YtmgdglghjlggnaaGreatGway17
namespace Go.Proofs.YtmgdglghjlggnaaGreat
open Go.RowKit
set_option linter.unusedVariables false
theorem sum_ofNat : ∀ l : List Nat, (l.map Int.ofNat).sum = ((l.sum : Nat) : Int)
  | [] => rfl
  | a :: l => by
    rw [List.map_cons, List.sum_cons, sum_ofNat l, List.sum_cons]
    show (a : Int) + _ = _
    omega
theorem CtRow.ints {wr : World} {B g m : Nat} {l : List Nat} (h : CtRow wr B g m l) : IntsIn wr (some ⟨g, 0, none⟩) (l.map Int.ofNat) := by
  have := h.2.2
  rw [ctV_ints] at this
  exact owns_ints this
theorem ct_sum {m g : Nat} {L : List Nat} {W : World} (h : IntsIn W (some ⟨g, 0, none⟩) (L.map Int.ofNat)) (hl : L.length = m) (hm : m ≤ 1000) (hs : L.sum ≤ 1000000000) : Calls Tryz.prog 10 #[.slice (some ⟨g, 0, none⟩) m m] W fun e w' => e = .returned (.int .i64 ((L.sum : Nat) : Int)) ∧ W = w' := by
  have hle : (L.map Int.ofNat).length = m := by rw [List.length_map, hl]
  have := lawSum_any (L.map Int.ofNat) (some ⟨g, 0, none⟩) m W h (by omega) (fun j hj => by
    unfold sumZ
    rw [← List.map_take, sum_ofNat]
    have := take_sum_le L j
    omega)
  rw [hle, sum_ofNat] at this
  exact this
theorem less_rk {u v : ByteArray} {us vs : List Nat} (hu : u = wdN us) (hv : v = wdN vs) (h1 : ∀ y ∈ us, y < 4) (h2 : ∀ y ∈ vs, y < 4) (h : rkN us < rkN vs) : lessS u v = true := by
  have r1 := rk_wdN h1
  have r2 := rk_wdN h2
  rw [← hu] at r1
  rw [← hv] at r2
  have lw : ∀ {ys : List Nat}, (∀ y ∈ ys, y < 4) → LW (wdN ys).data.toList := fun {ys} hy c hc => by
    rw [wdN_list] at hc
    obtain ⟨z, hz, rfl⟩ := List.mem_map.1 hc
    have h1 := hy z hz
    have h2 := lt97_num (show z < 4 by omega)
    omega
  have lu := lw h1
  have lv := lw h2
  rw [← hu] at lu
  rw [← hv] at lv
  cases hq : lessS u v
  · exfalso
    unfold lessS at hq
    cases hq2 : ltW (blW v) (blW u)
    · have e : u.data.toList = v.data.toList := ltW_total hq hq2
      rw [e, r2] at r1
      omega
    · have := rk_less lv lu hq2
      rw [r1, r2] at this
      omega
  · rfl
set_option maxRecDepth 20000 in
set_option maxHeartbeats 2000000 in
/-- ValueOf of any word: of a short one its value -/
theorem implValueOf_all (m : Nat) (ln zn : List Nat) (l z : List Int) (a : Option Addr) (cap : Nat) (az : Option Addr) (cz : Nat) (v : ByteArray) (w : World) (hle : l = ln.map Int.ofNat) (hze : z = zn.map Int.ofNat) (h : ImgsOk m ln zn) (hl : IntsIn w a l) (hz : IntsIn w az z) (hw : letIn zn v) (hs : v.size ≤ 1000) :
    Calls Tryz.prog 16 #[.agg #[.int .i64 (m : Nat), .slice a l.length cap], .slice az z.length cz, .string v] w fun e w' => ∃ (p : Int) (b : Bool), e = .returned (.tuple #[.int .i64 p, .bool b]) ∧ (v.size ≤ 16 → p = (valF m ln zn v : Nat) ∧ b = true) ∧ Below w.heap.size w w' := by
  by_cases h16 : v.size ≤ 16
  · have hwo : wordOkB (zn.length : Nat) v = true := wordOk_iff.2 ⟨⟨by have := h.one; omega, by have := h.few; omega⟩, h16, fun y hy => by
      have := hw y hy
      show letB _ y = true
      simp only [letB, inB]
      simp
      omega⟩
    refine (implValueOf_any m ln zn l z a cap az cz v w hle hze h hl hz hwo).mono ?_
    rintro e w' ⟨rfl, hb⟩
    exact ⟨_, true, rfl, fun _ => ⟨rfl, rfl⟩, hb⟩
  · have hzl : z.length = zn.length := by rw [hze, List.length_map]
    have HIM := Lib.hid (fun W h1 h2 => imagesOk_ok m ln zn l z a cap az cz W hle hze h h1 h2)
    have HWO : Hid (∀ W, Calls Tryz.prog 39 #[.int .i64 (z.length : Nat), .string v] W fun e w' => e = .returned (.bool false) ∧ W = w') := Lib.hid (fun W => by
      have := implWordOk_any (z.length : Nat) v W (by unfold maxLen; omega)
      rw [show wordOkB (z.length : Nat) v = false from by
        cases hq : wordOkB (z.length : Nat) v
        · rfl
        · exact absurd (wordOk_iff.1 hq).2.1 h16] at this
      exact this)
    have HB := Lib.hid (alloc_belowS w (.cells #[.int .i64 (m : Nat), .slice a l.length cap] 25))
    have HX : Hid (∀ W, Below (w.alloc (.cells #[.int .i64 (m : Nat), .slice a l.length cap] 25)).heap.size (w.alloc (.cells #[.int .i64 (m : Nat), .slice a l.length cap] 25)) W → W.cell? ⟨w.heap.size, 0, none⟩ = some (.int .i64 (m : Nat)) ∧ W.cell? ⟨w.heap.size, 1, none⟩ = some (.slice a l.length cap)) := Lib.hid (fun W hW => ⟨by rw [hW.cell (by simp)]; simp, by rw [hW.cell (by simp)]; simp⟩)
    have HN := Lib.hid (hl.later HB.out)
    have HZ := Lib.hid (hz.later HB.out)
    clear hl hz hle hze h hzl hw
    go_enter Tryz.func16, Tryz.ntmps16
    go_upto_region 1 with fail
    generalize w.alloc (.cells #[.int .i64 (m : Nat), .slice a l.length cap] 25) = w1 at *
    obtain ⟨z0, z1⟩ := HX.out w1 (Below.refl _ _)
    go_wp2_with fail
    refine (HIM.out _ HN.out HZ.out).mono ?_
    rintro e w2 ⟨rfl, hb2⟩
    have HB2 := Lib.hid hb2
    clear z0 z1 hb2
    go_wp2_with fail
    refine (HWO.out _).mono ?_
    rintro e w3 ⟨rfl, hw3⟩
    replace hw3 := hw3.symm
    subst hw3
    have F : Hid (∃ (p : Int) (b : Bool), Ending.returned (.tuple #[.int .i64 0, .bool false]) = .returned (.tuple #[.int .i64 p, .bool b]) ∧ (v.size ≤ 16 → p = (valF m ln zn v : Nat) ∧ b = true) ∧ Below w.heap.size w w3) := Lib.hid ⟨0, false, rfl, fun h => absurd h h16, Below.now HB.out HB2.out⟩
    go_wp2_with fail
    refine bodyPost_ret (v := .tuple #[.int .i64 0, .bool false]) ?_ rfl F.out
    simp [results, Tryz.results16, go_sem]
end Go.Proofs.YtmgdglghjlggnaaGreat
namespace Go.Proofs.YtmgdglghjlggnaaGreat
open Go.RowKit
set_option linter.unusedVariables false
theorem pow_top {k n : Nat} (hk : k ≤ 4) (hn : n ≤ 12) : ∀ j, j ≤ n → k ^ j ≤ 2 ^ 60 := fun j hj => by
  have h1 : k ^ j ≤ 4 ^ j := Nat.pow_le_pow_left hk j
  have h2 : 4 ^ j ≤ 4 ^ 12 := Nat.pow_le_pow_right (by decide) (by omega)
  have h3 : (4 : Nat) ^ 12 ≤ 2 ^ 60 := by decide
  omega
theorem pow_top2 {k n : Nat} (hk : k ≤ 2) (hn : n ≤ 40) : ∀ j, j ≤ n → k ^ j ≤ 2 ^ 60 := fun j hj => by
  have h1 : k ^ j ≤ 2 ^ j := Nat.pow_le_pow_left hk j
  have h2 : 2 ^ j ≤ 2 ^ 60 := Nat.pow_le_pow_right (by decide) (by omega)
  omega
theorem countValues_ok (m : Nat) (ln zn : List Nat) (l z : List Int) (a : Option Addr) (cap : Nat) (az : Option Addr) (cz n : Nat) (w : World) (hle : l = ln.map Int.ofNat) (hze : z = zn.map Int.ofNat) (h : ImgsOk m ln zn) (hP : ∀ j, j ≤ n → zn.length ^ j ≤ 2 ^ 60) (hn : n ≤ 1000) (hl : IntsIn w a l) (hz : IntsIn w az z) :
    Calls Tryz.prog 29 #[.agg #[.int .i64 (m : Nat), .slice a l.length cap], .slice az z.length cz, .int .i64 (n : Nat)] w (RetCt m (valsN m ln zn n) w) := by
  have hll : l.length = m * m := by rw [hle, List.length_map]; exact h.tab.len
  have hzl : z.length = zn.length := by rw [hze, List.length_map]
  have := countValues_any m ln zn a l.length cap az cz n w (by unfold NatsIn; rw [← hle]; exact hl) h.tab.toTb hll (by unfold NatsIn; rw [← hze]; exact hz) h.rng h.few hP hn
  rw [← hzl] at this
  exact this
set_option maxRecDepth 20000 in
set_option maxHeartbeats 1000000 in
theorem implCountValues_any (m : Nat) (ln zn : List Nat) (l z : List Int) (a : Option Addr) (cap : Nat) (az : Option Addr) (cz n : Nat) (w : World) (hle : l = ln.map Int.ofNat) (hze : z = zn.map Int.ofNat) (h : ImgsOk m ln zn) (hn : n ≤ 12) (hl : IntsIn w a l) (hz : IntsIn w az z) :
    Calls Tryz.prog 9 #[.agg #[.int .i64 (m : Nat), .slice a l.length cap], .slice az z.length cz, .int .i64 (n : Nat)] w (RetCt m (valsN m ln zn n) w) := by
  have HIM := Lib.hid (fun W h1 h2 => imagesOk_ok m ln zn l z a cap az cz W hle hze h h1 h2)
  have HCV := Lib.hid (fun W h1 h2 => countValues_ok m ln zn l z a cap az cz n W hle hze h (pow_top h.few hn) (by omega) h1 h2)
  have HWI := Lib.hid (fun W => within_any (n : Nat) 0 12 W)
  have hib : inB (n : Nat) 0 12 = true := by simp [inB]; omega
  have HB := Lib.hid (alloc_belowS w (.cells #[.int .i64 (m : Nat), .slice a l.length cap] 25))
  have HX : Hid (∀ W, Below (w.alloc (.cells #[.int .i64 (m : Nat), .slice a l.length cap] 25)).heap.size (w.alloc (.cells #[.int .i64 (m : Nat), .slice a l.length cap] 25)) W → W.cell? ⟨w.heap.size, 0, none⟩ = some (.int .i64 (m : Nat)) ∧ W.cell? ⟨w.heap.size, 1, none⟩ = some (.slice a l.length cap)) := Lib.hid (fun W hW => ⟨by rw [hW.cell (by simp)]; simp, by rw [hW.cell (by simp)]; simp⟩)
  have HN := Lib.hid (hl.later HB.out)
  have HZ := Lib.hid (hz.later HB.out)
  rw [hib] at HWI
  clear hl hz hle hze h hib
  go_enter Tryz.func9, Tryz.ntmps9
  go_upto_region 1 with fail
  generalize w.alloc (.cells #[.int .i64 (m : Nat), .slice a l.length cap] 25) = w1 at *
  obtain ⟨z0, z1⟩ := HX.out w1 (Below.refl _ _)
  go_wp2_with fail
  refine (HIM.out _ HN.out HZ.out).mono ?_
  rintro e w2 ⟨rfl, hb2⟩
  have HB2 := Lib.hid hb2
  clear z0 z1 hb2
  obtain ⟨z0, z1⟩ := HX.out _ HB2.out
  go_wp2_with fail
  refine (HWI.out _).mono ?_
  rintro e w3 ⟨rfl, hw3⟩
  replace hw3 := hw3.symm
  subst hw3
  go_wp2_with fail
  refine (HCV.out _ (HN.out.later HB2.out) (HZ.out.later HB2.out)).mono ?_
  rintro e w4 ⟨g, rfl, hr, hb4⟩
  have F : Hid (RetCt m (valsN m ln zn n) w (.returned (.slice (some ⟨g, 0, none⟩) m m)) w4) := Lib.hid ⟨g, rfl, hr.mono (by have := HB.out.size; have := HB2.out.size; omega), Below.now HB.out (Below.now HB2.out hb4)⟩
  clear hr hb4 z0 z1
  go_wp2_with fail
  go_ret
  exact F.out
/-- the number of the least words of an element -/
def csF (m : Nat) (ln zn : List Nat) (S : List ByteArray) (i : Nat) : Nat := if dF S i < 0 then 0 else (valsN m ln zn (dF S i).toNat).getD i 0
set_option maxRecDepth 20000 in
set_option maxHeartbeats 2000000 in
theorem implCountShortest_any (m : Nat) (ln zn : List Nat) (l z : List Int) (a : Option Addr) (cap : Nat) (az : Option Addr) (cz i : Nat) (w : World) (hle : l = ln.map Int.ofNat) (hze : z = zn.map Int.ofNat) (h : ImgsOk m ln zn) (hi : i < m) (hz2 : zn.length ≤ 2) (hl : IntsIn w a l) (hz : IntsIn w az z) :
    Calls Tryz.prog 14 #[.agg #[.int .i64 (m : Nat), .slice a l.length cap], .slice az z.length cz, .int .i64 (i : Nat)] w fun e w' => ∃ S, ShortP m ln zn S ∧ e = .returned (.int .i64 ((csF m ln zn S i : Nat) : Int)) ∧ Below w.heap.size w w' := by
  have hm1 := h.tab.lo
  have hm2 := h.tab.hi
  have HIM := Lib.hid (fun W h1 h2 => imagesOk_ok m ln zn l z a cap az cz W hle hze h h1 h2)
  have HDI := Lib.hid (fun W h1 h2 => distances_ok m ln zn l z a cap az cz W hle hze h h1 h2)
  have HCV := Lib.hid (fun n (hn : n ≤ 40) W h1 h2 => countValues_ok m ln zn l z a cap az cz n W hle hze h (pow_top2 hz2 hn) (by omega) h1 h2)
  have HUQ := Lib.hid (fun S S' (h1 : ShortP m ln zn S) (h2 : ShortP m ln zn S') => h1.uniq h.few h2)
  have HTP := Lib.hid (fun S (h1 : ShortP m ln zn S) => dF_top h1 hm2 hi)
  have HHA := Lib.hid (fun W v => has_any m (i : Nat) v W hm1 hm2)
  have hib : inB (i : Nat) 0 ((m : Int) - 1) = true := by simp [inB]; omega
  have HB := Lib.hid (alloc_belowS w (.cells #[.int .i64 (m : Nat), .slice a l.length cap] 25))
  have HX : Hid (∀ W, Below (w.alloc (.cells #[.int .i64 (m : Nat), .slice a l.length cap] 25)).heap.size (w.alloc (.cells #[.int .i64 (m : Nat), .slice a l.length cap] 25)) W → W.cell? ⟨w.heap.size, 0, none⟩ = some (.int .i64 (m : Nat)) ∧ W.cell? ⟨w.heap.size, 1, none⟩ = some (.slice a l.length cap)) := Lib.hid (fun W hW => ⟨by rw [hW.cell (by simp)]; simp, by rw [hW.cell (by simp)]; simp⟩)
  have HN := Lib.hid (hl.later HB.out)
  have HZ := Lib.hid (hz.later HB.out)
  clear hl hz hle hze h
  go_enter Tryz.func14, Tryz.ntmps14
  go_upto_region 1 with fail
  generalize w.alloc (.cells #[.int .i64 (m : Nat), .slice a l.length cap] 25) = w1 at *
  obtain ⟨z0, z1⟩ := HX.out w1 (Below.refl _ _)
  go_wp2_with fail
  refine (HIM.out _ HN.out HZ.out).mono ?_
  rintro e w2 ⟨rfl, hb2⟩
  have HB2 := Lib.hid hb2
  clear z0 z1 hb2
  obtain ⟨z0, z1⟩ := HX.out _ HB2.out
  go_wp2_with fail
  refine (HHA.out _ _).mono ?_
  rintro e w3 ⟨rfl, hb3⟩
  rw [hib]
  have HB3 := Lib.hid (Below.now HB2.out hb3)
  clear z0 z1 hb3 HB2
  obtain ⟨z0, z1⟩ := HX.out _ HB3.out
  go_wp2_with fail
  refine (HDI.out _ (HN.out.later HB3.out) (HZ.out.later HB3.out)).mono ?_
  rintro e w4 ⟨S, hsh, a2, c2, rfl, ho, hb4⟩
  have HSP := Lib.hid hsh
  have hdl := dL_len m S
  have HB4 := Lib.hid (Below.now HB3.out hb4)
  obtain ⟨b2, o2, rfl, _, hc2⟩ := (owns_ints ho).cell (i := i) (by omega)
  have hci := hc2 i (by omega)
  rw [dL_at hi] at hci
  rw [hdl]
  have hi2 : (i : Int) < (m : Int) := by omega
  have hdt := HTP.out S hsh
  have hcs : csF m ln zn S i = if dF S i < 0 then 0 else (valsN m ln zn (dF S i).toNat).getD i 0 := rfl
  have HE : Hid (∀ S', ShortP m ln zn S' → S' = S) := Lib.hid (fun S' h => HUQ.out S' S h HSP.out)
  obtain ⟨x, hx⟩ : ∃ x, dF S i = x := ⟨_, rfl⟩
  have HXD := Lib.hid hx
  rw [hx] at hci hdt hcs
  have HCS := Lib.hid hcs
  clear z0 z1 hb4 hsh ho hc2 hx hcs hdl HUQ HTP
  by_cases h0 : x < 0
  · have F : Hid (∃ S, ShortP m ln zn S ∧ Ending.returned (.int .i64 0) = .returned (.int .i64 ((csF m ln zn S i : Nat) : Int)) ∧ Below w.heap.size w w4) := Lib.hid ⟨S, HSP.out, by rw [HCS.out, if_pos h0]; rfl, Below.now HB.out HB4.out⟩
    go_wp2_with fail
    go_ret
    exact F.out
  · obtain ⟨q, rfl⟩ : ∃ q : Nat, x = (q : Int) := ⟨x.toNat, by omega⟩
    have hq40 : q ≤ 40 := by omega
    have HCQ := Lib.hid (HCV.out q hq40)
    have HCS2 : Hid (csF m ln zn S i = (valsN m ln zn q).getD i 0) := Lib.hid (by rw [HCS.out, if_neg h0]; rfl)
    generalize (valsN m ln zn q) = vv at *
    clear HCS HCV hdt
    go_upto_region 3 with fail
    clear hci
    refine region_each (fun W => Below w4.heap.size w4 W) (fun W W2 => Below W.heap.size W W2) (fun u => by simp only [fPut, Act.put, List.setIfInBounds_toArray, List.set_cons_succ, List.set_cons_zero, Nat.zero_add, Nat.reduceAdd]; rfl) (by kernel_rfl) (by kernel_rfl) (by kernel_rfl) (Below.drew (Below.refl _ _)) ?_
    apply each_read (fun _ => Below.refl _ _) rfl
    · intro u wv hC hf
      have z0 := (HX.out _ (Below.now HB4.out hC)).1
      have z1 := (HX.out _ (Below.now HB4.out hC)).2
      clear hf
      go_simp
      try rfl
    apply each_read (fun _ => Below.refl _ _) rfl
    · intro u wv hC hf
      have z0 := (HX.out _ (Below.now HB4.out hC)).1
      have z1 := (HX.out _ (Below.now HB4.out hC)).2
      clear hf
      go_simp
      try rfl
    conv => arg 8; simp only [List.cons_append, List.nil_append]
    apply each_read (fun _ => Below.refl _ _) rfl
    · intro u wv hC hf
      have z0 := (HX.out _ (Below.now HB4.out hC)).1
      have z1 := (HX.out _ (Below.now HB4.out hC)).2
      clear hf
      go_simp
      try rfl
    conv => arg 8; simp only [List.cons_append, List.nil_append]
    apply each_read (fun _ => Below.refl _ _) rfl
    · intro u wv hC hf
      have z0 := (HX.out _ (Below.now HB4.out hC)).1
      have z1 := (HX.out _ (Below.now HB4.out hC)).2
      clear hf
      go_simp
      try rfl
    conv => arg 8; simp only [List.cons_append, List.nil_append]
    refine each_call (fun v wv => ∃ b o c, v = .slice (some ⟨b, o, none⟩) m c ∧ wv.cell? ⟨b, o + i, none⟩ = some (.int .i64 ((q : Nat) : Int)) ∧ b < wv.heap.size) (fun v w w2 _ hR ⟨b, o, c, h1, h2, h3⟩ => ⟨b, o, c, h1, (hR.cell h3).trans h2, Nat.lt_of_lt_of_le h3 hR.size⟩) rfl ?_ ?_
    · intro u wv hC hf
      have z0 := (HX.out _ (Below.now HB4.out hC)).1
      have z1 := (HX.out _ (Below.now HB4.out hC)).2
      obtain ⟨d2_0, d3_1, -⟩ := hf
      have e2 : u 2 = _ := d2_0 rfl
      clear d2_0
      have e3 : u 3 = _ := d3_1 rfl
      clear d3_1
      apply Exists.intro; apply Exists.intro; apply And.intro
      · go_simp; exact ⟨rfl, rfl⟩
      · refine (HDI.out _ (HN.out.later (Below.now HB4.out hC)) (HZ.out.later (Below.now HB4.out hC))).mono ?_
        rintro e w5 ⟨S5, hs5, a5, c5, rfl, ho5, hb5⟩
        obtain rfl := HE.out S5 hs5
        have hd5 := dL_len m S5
        obtain ⟨b5, o5, rfl, hl5, hc5⟩ := (owns_ints ho5).cell (i := i) (by omega)
        have hci := hc5 i (by omega)
        rw [dL_at hi, HXD.out] at hci
        exact ⟨_, rfl, Below.now hC hb5, hb5, b5, o5, c5, by rw [hd5], hci, hl5⟩
    conv => arg 8; simp only [List.cons_append, List.nil_append]
    apply each_read (fun _ => Below.refl _ _) rfl
    · intro u wv hC hf
      have z0 := (HX.out _ (Below.now HB4.out hC)).1
      have z1 := (HX.out _ (Below.now HB4.out hC)).2
      clear hf
      go_simp
      try rfl
    conv => arg 8; simp only [List.cons_append, List.nil_append]
    refine each_do (fun v wv => ∃ b o, v = .pointer (some ⟨b, o, none⟩) ∧ wv.cell? ⟨b, o, none⟩ = some (.int .i64 ((q : Nat) : Int)) ∧ b < wv.heap.size) (fun v w w2 _ hR ⟨b, o, h1, h2, h3⟩ => ⟨b, o, h1, (hR.cell h3).trans h2, Nat.lt_of_lt_of_le h3 hR.size⟩) rfl ?_ ?_
    · intro u wv hC hf
      have z0 := (HX.out _ (Below.now HB4.out hC)).1
      have z1 := (HX.out _ (Below.now HB4.out hC)).2
      obtain ⟨d4_0, d5_1, -⟩ := hf
      obtain ⟨b4, o4, c4, e4, r4, l4⟩ := d4_0 rfl
      have e5 : u 5 = _ := d5_1 rfl
      clear d5_1
      refine ⟨.pointer (some ⟨b4, o4 + i, none⟩), wv, ?_, hC, Below.refl _ _, b4, o4 + i, rfl, r4, l4⟩
      go_simp
      try rfl
    conv => arg 8; simp only [List.cons_append, List.nil_append]
    apply each_read (fun _ => Below.refl _ _) rfl
    · intro u wv hC hf
      have z0 := (HX.out _ (Below.now HB4.out hC)).1
      have z1 := (HX.out _ (Below.now HB4.out hC)).2
      obtain ⟨d6_0, -⟩ := hf
      obtain ⟨b6, o6, e6, r6, l6⟩ := d6_0 rfl
      go_simp
      try rfl
    conv => arg 8; simp only [List.cons_append, List.nil_append]
    refine each_call (fun v wv => ∃ g, v = .slice (some ⟨g, 0, none⟩) m m ∧ wv.cell? ⟨g, i, none⟩ = some (.int .i64 ((vv.getD i 0 : Nat) : Int)) ∧ g < wv.heap.size) (fun v w w2 _ hR ⟨g, h1, h2, h3⟩ => ⟨g, h1, (hR.cell h3).trans h2, Nat.lt_of_lt_of_le h3 hR.size⟩) rfl ?_ ?_
    · intro u wv hC hf
      have z0 := (HX.out _ (Below.now HB4.out hC)).1
      have z1 := (HX.out _ (Below.now HB4.out hC)).2
      obtain ⟨d0_0, d1_1, d7_2, d4_3, -⟩ := hf
      have e0 : u 0 = _ := d0_0 rfl
      clear d0_0
      have e1 : u 1 = _ := d1_1 rfl
      clear d1_1
      have e7 : u 7 = _ := d7_2 rfl
      clear d7_2
      obtain ⟨b4, o4, c4, e4, r4, l4⟩ := d4_3 rfl
      apply Exists.intro; apply Exists.intro; apply And.intro
      · go_simp; exact ⟨rfl, rfl⟩
      · refine (HCQ.out _ (HN.out.later (Below.now HB4.out hC)) (HZ.out.later (Below.now HB4.out hC))).mono ?_
        rintro e w5 ⟨g5, rfl, hr5, hb5⟩
        have hcg := hr5.cell hi
        exact ⟨_, rfl, Below.now hC hb5, hb5, g5, rfl, hcg, World.block_lt_of_cell? _ _ hcg⟩
    conv => arg 8; simp only [List.cons_append, List.nil_append]
    apply each_read (fun _ => Below.refl _ _) rfl
    · intro u wv hC hf
      have z0 := (HX.out _ (Below.now HB4.out hC)).1
      have z1 := (HX.out _ (Below.now HB4.out hC)).2
      clear hf
      go_simp
      try rfl
    conv => arg 8; simp only [List.cons_append, List.nil_append]
    refine each_do (fun v wv => ∃ b o, v = .pointer (some ⟨b, o, none⟩) ∧ wv.cell? ⟨b, o, none⟩ = some (.int .i64 ((vv.getD i 0 : Nat) : Int)) ∧ b < wv.heap.size) (fun v w w2 _ hR ⟨b, o, h1, h2, h3⟩ => ⟨b, o, h1, (hR.cell h3).trans h2, Nat.lt_of_lt_of_le h3 hR.size⟩) rfl ?_ ?_
    · intro u wv hC hf
      have z0 := (HX.out _ (Below.now HB4.out hC)).1
      have z1 := (HX.out _ (Below.now HB4.out hC)).2
      obtain ⟨d8_0, d9_1, -⟩ := hf
      obtain ⟨g8, e8, r8, l8⟩ := d8_0 rfl
      have e9 : u 9 = _ := d9_1 rfl
      clear d9_1
      refine ⟨.pointer (some ⟨g8, i, none⟩), wv, ?_, hC, Below.refl _ _, g8, i, rfl, r8, l8⟩
      go_simp
      try rfl
    conv => arg 8; simp only [List.cons_append, List.nil_append]
    apply each_read (fun _ => Below.refl _ _) rfl
    · intro u wv hC hf
      have z0 := (HX.out _ (Below.now HB4.out hC)).1
      have z1 := (HX.out _ (Below.now HB4.out hC)).2
      obtain ⟨d10_0, -⟩ := hf
      obtain ⟨b10, o10, e10, r10, l10⟩ := d10_0 rfl
      go_simp
      try rfl
    conv => arg 8; simp only [List.cons_append, List.nil_append]
    apply each_read (fun _ => Below.refl _ _) rfl
    · intro u wv hC hf
      have z0 := (HX.out _ (Below.now HB4.out hC)).1
      have z1 := (HX.out _ (Below.now HB4.out hC)).2
      obtain ⟨d11_0, d8_1, d0_2, d1_3, d2_4, d3_5, d4_6, d5_7, d6_8, d7_9, d8_10, d9_11, d10_12, d11_13, -⟩ := hf
      have e11 : u 11 = _ := d11_0 rfl
      clear d11_0
      obtain ⟨g8, e8, r8, l8⟩ := d8_1 rfl
      have e0 : u 0 = _ := d0_2 rfl
      clear d0_2
      have e1 : u 1 = _ := d1_3 rfl
      clear d1_3
      have e2 : u 2 = _ := d2_4 rfl
      clear d2_4
      have e3 : u 3 = _ := d3_5 rfl
      clear d3_5
      obtain ⟨b4, o4, c4, e4, r4, l4⟩ := d4_6 rfl
      have e5 : u 5 = _ := d5_7 rfl
      clear d5_7
      obtain ⟨b6, o6, e6, r6, l6⟩ := d6_8 rfl
      have e7 : u 7 = _ := d7_9 rfl
      clear d7_9
      clear d8_10
      have e9 : u 9 = _ := d9_11 rfl
      clear d9_11
      obtain ⟨b10, o10, e10, r10, l10⟩ := d10_12 rfl
      clear d11_13
      go_simp
      try rfl
    intro u wv hC hall
    obtain ⟨a0, a1, a2, a3, a4, a5, a6, a7, a8, a9, a10, a11, a12, -⟩ := hall
    have e0 : u 0 = _ := a0
    clear a0
    have e1 : u 1 = _ := a1
    clear a1
    have e2 : u 2 = _ := a2
    clear a2
    have e3 : u 3 = _ := a3
    clear a3
    obtain ⟨b4, o4, c4, e4, r4, l4⟩ := a4
    replace e4 : u 4 = _ := e4
    have e5 : u 5 = _ := a5
    clear a5
    obtain ⟨b6, o6, e6, r6, l6⟩ := a6
    replace e6 : u 6 = _ := e6
    have e7 : u 7 = _ := a7
    clear a7
    obtain ⟨g8, e8, r8, l8⟩ := a8
    replace e8 : u 8 = _ := e8
    have e9 : u 9 = _ := a9
    clear a9
    obtain ⟨b10, o10, e10, r10, l10⟩ := a10
    replace e10 : u 10 = _ := e10
    have e11 : u 11 = _ := a11
    clear a11
    have e12 : u 12 = _ := a12
    clear a12
    simp only [e0, e1, e2, e3, e4, e5, e6, e7, e8, e9, e10, e11, e12]
    clear e0 e1 e2 e3 e4 e5 e6 e7 e8 e9 e10 e11 e12
    have F : Hid (∃ S, ShortP m ln zn S ∧ Ending.returned (.int .i64 ((vv.getD i 0 : Nat) : Int)) = .returned (.int .i64 ((csF m ln zn S i : Nat) : Int)) ∧ Below w.heap.size w wv) := Lib.hid ⟨S, HSP.out, by rw [HCS2.out], Below.now HB.out (Below.now HB4.out hC)⟩
    clear hC
    go_wp2_with fail
    go_ret
    exact F.out
end Go.Proofs.YtmgdglghjlggnaaGreat
