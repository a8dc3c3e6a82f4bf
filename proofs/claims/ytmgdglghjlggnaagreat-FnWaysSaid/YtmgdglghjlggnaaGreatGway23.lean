/-
  slices.SortFunc of strings by compareWords, of the program.
-/
import Derived.Test.YtmgdglghjlggnaaGreatGway22
import Derived.Test.YtmgdglghjlggnaaGreatGway02
import Derived.Test.YtmgdglghjlggnaaGreatGway03
namespace Go.Proofs.YtmgdglghjlggnaaGreat
open Go.RowKit
set_option linter.unusedVariables false
theorem ShortP.wsize {m : Nat} {ln zn : List Nat} {S : List ByteArray} (h : ShortP m ln zn S) (hm : m ≤ 40) {i : Nat} (hi : i < m) : (nthS S i).size ≤ 40 := by
  by_cases e : nthS S i = hyB
  · rw [e]; exact (by decide : hyB.size ≤ 40)
  · obtain ⟨ys, a1, a2, a3, _⟩ := h.some i hi e
    rw [a3, wdN_size]; omega
theorem dL_succ (j : Nat) (S : List ByteArray) : dL (j + 1) S = dL j S ++ [dF S j] := by unfold dL; rw [List.range_succ, List.map_append]; rfl
theorem dF_hy {S : List ByteArray} {j : Nat} {x : ByteArray} (hx : nthS S j = x) (h : (x.toList == [45]) = true) : dF S j = -1 := by
  unfold dF
  rw [if_pos (by rw [hx]; exact isHy_iff.1 h)]
theorem dF_wd {S : List ByteArray} {j : Nat} {x : ByteArray} (hx : nthS S j = x) (h : (x.toList == [45]) = false) : dF S j = ((x.size : Nat) : Int) := by
  unfold dF
  rw [if_neg (by
    rw [hx]
    intro e
    have h2 : isHy x = true := isHy_iff.2 e
    unfold isHy at h2
    rw [h] at h2
    cases h2), hx]
def RetDi (m : Nat) (ln zn : List Nat) (w : World) (e : Ending) (w' : World) : Prop := ∃ S, ShortP m ln zn S ∧ RetSl 3 1 (dL m S).length (intVals (dL m S)) w e w'
set_option maxHeartbeats 1000000 in
theorem distances_any (m : Nat) (ln zn : List Nat) (a : Option Addr) (len cap : Nat) (az : Option Addr) (cz : Nat) (w : World) (hl : NatsIn w a ln) (hT : Tb m ln) (hlen : len = m * m) (hz : NatsIn w az zn) (hzm : ∀ x ∈ zn, x < m) (hz4 : zn.length ≤ 4) :
    Calls Tryz.prog 25 #[.agg #[.int .i64 m, .slice a len cap], .slice az zn.length cz] w (RetDi m ln zn w) := by
  have hm := hT.hi
  have hm1 := hT.lo
  have HSH := Lib.hid (fun W h1 h2 => shortest_any m ln zn a len cap az cz W h1 hT hlen h2 hzm hz4)
  have HB := Lib.hid (alloc_belowS w (.cells #[.int .i64 (m : Nat), .slice a len cap] 25))
  have z0 : (w.alloc (.cells #[.int .i64 (m : Nat), .slice a len cap] 25)).cell? ⟨w.heap.size, 0, none⟩ = some (.int .i64 (m : Nat)) := by simp
  have z1 : (w.alloc (.cells #[.int .i64 (m : Nat), .slice a len cap] 25)).cell? ⟨w.heap.size, 1, none⟩ = some (.slice a len cap) := by simp
  have HN := Lib.hid (hl.later HB.out)
  have HZ := Lib.hid (hz.later HB.out)
  clear hl hT hlen hz hzm
  go_enter Tryz.func25, Tryz.ntmps25
  go_upto_region 1 with fail
  generalize w.alloc (.cells #[.int .i64 (m : Nat), .slice a len cap] 25) = w1 at *
  go_wp2_with fail
  refine (HSH.out _ HN.out HZ.out).mono ?_
  rintro e w2 ⟨S, hS, aS, cS, rfl, ho, hb2⟩
  have HSP := Lib.hid hS
  have HB2 := Lib.hid hb2
  have hSl := hS.len
  obtain ⟨bS, oS, rfl, _, hcS⟩ := (owns_strs ho).cell (i := 0) (by omega)
  have HCS := Lib.hid hcS
  have HST := Lib.hid (Bld.nil 3 1 (Below.refl w2.heap.size w2))
  clear hS ho hb2 hcS z0 z1
  go_wp2_with fail
  go_loopw [5, 12] (fun v i wr => ∃ j : Nat, j ≤ m ∧ i = .int .i64 j ∧ Bld 3 1 w2 wr v (dL j S).length (intVals (dL j S))) (fun _ i _ => m - (intOf i).toNat)
  case atStart => exact ⟨0, Nat.zero_le _, rfl, HST.out⟩
  case round =>
    clear HST
    obtain ⟨j, hj, rfl, hb⟩ := hrel
    have hbel := hb.2
    have hln : (dL j S).length = j := dL_len j S
    have HO := Lib.hid hb
    clear hb
    by_cases hlt : j < m
    · obtain ⟨x, hx⟩ : ∃ x, nthS S j = x := ⟨_, rfl⟩
      have y0 := HCS.out j (by omega)
      have y1 := (hbel.cell (World.block_lt_of_cell? _ _ y0)).trans y0
      rw [hx] at y1
      have hxs : x.size ≤ 40 := by rw [← hx]; exact HSP.out.wsize hm hlt
      clear y0
      cases hq : (x.toList == [45])
      · have F := Lib.hid (dF_wd hx hq)
        clear hx
        go_wp2_with (at_builtin; refine wpList_app1 rfl _ _ rfl Tryz.underlying23 Tryz.infoInt rfl (by decide) rfl HO.out rfl rfl ?d1 ?d2 ?d3 ?d4)
        case d1 => simp [Value.oneCell']
        case d2 => unfold maxLen; omega
        case d3 => omega
        intro v2 w4 hb2
        have F2 : Hid (Bld 3 1 w2 w4 v2 (dL (j + 1) S).length (intVals (dL (j + 1) S))) := by
          rw [dL_succ, F.out, List.length_append, dL_len]; unfold intVals at *; rw [List.map_append]; exact hb2
        clear hb2
        go_wp2_with fail
        go_roundw
        case rel => exact ⟨j + 1, by omega, by go_num, F2.out⟩
        case measure => simp [intOf]; omega
      · have F := Lib.hid (dF_hy hx hq)
        clear hx
        go_wp2_with (at_builtin; refine wpList_app1 rfl _ _ rfl Tryz.underlying23 Tryz.infoInt rfl (by decide) rfl HO.out rfl rfl ?c1 ?c2 ?c3 ?c4)
        case c1 => simp [Value.oneCell']
        case c2 => unfold maxLen; omega
        case c3 => omega
        intro v2 w4 hb2
        have F2 : Hid (Bld 3 1 w2 w4 v2 (dL (j + 1) S).length (intVals (dL (j + 1) S))) := by
          rw [dL_succ, F.out, List.length_append, dL_len]; unfold intVals at *; rw [List.map_append]; exact hb2
        clear hb2
        go_wp2_with fail
        go_roundw
        case rel => exact ⟨j + 1, by omega, by go_num, F2.out⟩
        case measure => simp [intOf]; omega
    · obtain rfl : j = m := by omega
      go_wp2_with fail
      go_ret
      obtain ⟨a5, c5, he, ho, hb5⟩ := HO.out.ret
      exact ⟨S, HSP.out, a5, c5, he, owns_mono ho (by have := HB.out.size; have := HB2.out.size; omega), Below.now HB.out (Below.now HB2.out hb5)⟩
end Go.Proofs.YtmgdglghjlggnaaGreat
namespace Go.Proofs.YtmgdglghjlggnaaGreat
open Go.RowKit
set_option linter.unusedVariables false
theorem maxOf_fold : ∀ (l : List Int) (a : Int), a ≤ l.foldl max a ∧ (∀ x ∈ l, x ≤ l.foldl max a) ∧ (l.foldl max a = a ∨ l.foldl max a ∈ l)
  | [], a => ⟨Int.le_refl _, fun x hx => (by cases hx), .inl rfl⟩
  | b :: l, a => by
    obtain ⟨h1, h2, h3⟩ := maxOf_fold l (max a b)
    rw [List.foldl_cons]
    refine ⟨by omega, fun x hx => ?_, ?_⟩
    · rcases List.mem_cons.1 hx with rfl | h
      · omega
      · exact h2 x h
    · rcases h3 with h3 | h3
      · rcases Int.le_total a b with h4 | h4
        · right; rw [h3, Int.max_eq_right h4]; exact List.mem_cons_self ..
        · left; rw [h3, Int.max_eq_left h4]
      · exact .inr (List.mem_cons_of_mem _ h3)
theorem maxOf_facts {l : List Int} (h : l ≠ []) : (∀ x ∈ l, x ≤ Lib.maxOf l) ∧ Lib.maxOf l ∈ l := by
  cases l with
  | nil => exact absurd rfl h
  | cons a l =>
    obtain ⟨h1, h2, h3⟩ := maxOf_fold (a :: l) a
    unfold Lib.maxOf
    rw [show (a :: l).headD 0 = a from rfl]
    refine ⟨h2, ?_⟩
    rcases h3 with h3 | h3
    · rw [h3]; exact List.mem_cons_self ..
    · exact h3
theorem dF_top {m : Nat} {ln zn : List Nat} {S : List ByteArray} (h : ShortP m ln zn S) (hm : m ≤ 40) {i : Nat} (hi : i < m) : dF S i ≤ 40 := by
  have := h.wsize hm hi
  unfold dF
  split <;> omega
theorem max_dL {m : Nat} {ln zn : List Nat} {S : List ByteArray} (h : ShortP m ln zn S) (hz4 : zn.length ≤ 4) (hm1 : 1 ≤ m) (hm : m ≤ 40) : ∃ M : Nat, M ≤ 40 ∧ Lib.maxOf (dL m S) = (M : Int) ∧ (∀ x ∈ dL m S, x ≤ (M : Int)) ∧ (M : Int) ∈ dL m S := by
  have hne : dL m S ≠ [] := fun e => by
    have := dL_len m S
    rw [e] at this
    simp at this; omega
  obtain ⟨h1, h2⟩ := maxOf_facts hne
  have h0 : dF S 0 ∈ dL m S := List.mem_map.2 ⟨0, List.mem_range.2 (by omega), rfl⟩
  have h3 := h1 _ h0
  rw [dF_zero h hz4 hm1] at h3
  obtain ⟨i, hi, e⟩ := List.mem_map.1 h2
  have h4 := dF_top h hm (List.mem_range.1 hi)
  rw [e] at h4
  exact ⟨(Lib.maxOf (dL m S)).toNat, by omega, by omega, fun x hx => by have := h1 x hx; omega, by rw [Int.toNat_of_nonneg h3]; exact h2⟩
theorem imagesOk_ok (m : Nat) (ln zn : List Nat) (l z : List Int) (a : Option Addr) (cap : Nat) (az : Option Addr) (cz : Nat) (w : World) (hle : l = ln.map Int.ofNat) (hze : z = zn.map Int.ofNat) (h : ImgsOk m ln zn) (hl : IntsIn w a l) (hz : IntsIn w az z) :
    Calls Tryz.prog 24 #[.agg #[.int .i64 (m : Nat), .slice a l.length cap], .slice az z.length cz] w fun e w' => e = .returned (.bool true) ∧ Below w.heap.size w w' := by
  have hll : l.length = m * m := by rw [hle, List.length_map]; exact h.tab.len
  have hzl : z.length = zn.length := by rw [hze, List.length_map]
  have hsq := sq_le h.tab.hi
  have hz4 := h.few
  have := implImagesOk_any (m : Nat) l a cap z az cz w hl (by omega) hz (by omega)
  rw [show imgB (m : Nat) l z = true by rw [hle, hze]; exact h.img] at this
  exact this
theorem distances_ok (m : Nat) (ln zn : List Nat) (l z : List Int) (a : Option Addr) (cap : Nat) (az : Option Addr) (cz : Nat) (w : World) (hle : l = ln.map Int.ofNat) (hze : z = zn.map Int.ofNat) (h : ImgsOk m ln zn) (hl : IntsIn w a l) (hz : IntsIn w az z) :
    Calls Tryz.prog 25 #[.agg #[.int .i64 (m : Nat), .slice a l.length cap], .slice az z.length cz] w (RetDi m ln zn w) := by
  have hll : l.length = m * m := by rw [hle, List.length_map]; exact h.tab.len
  have hzl : z.length = zn.length := by rw [hze, List.length_map]
  have := distances_any m ln zn a l.length cap az cz w (by unfold NatsIn; rw [← hle]; exact hl) h.tab.toTb hll (by unfold NatsIn; rw [← hze]; exact hz) h.rng h.few
  rw [← hzl] at this
  exact this
set_option maxHeartbeats 1000000 in
theorem implDistancesIn_any (m : Nat) (ln zn : List Nat) (l z : List Int) (a : Option Addr) (cap : Nat) (az : Option Addr) (cz : Nat) (w : World) (hle : l = ln.map Int.ofNat) (hze : z = zn.map Int.ofNat) (h : ImgsOk m ln zn) (hl : IntsIn w a l) (hz : IntsIn w az z) :
    Calls Tryz.prog 6 #[.agg #[.int .i64 (m : Nat), .slice a l.length cap], .slice az z.length cz] w (RetDi m ln zn w) := by
  have HIM := Lib.hid (fun W h1 h2 => imagesOk_ok m ln zn l z a cap az cz W hle hze h h1 h2)
  have HDI := Lib.hid (fun W h1 h2 => distances_ok m ln zn l z a cap az cz W hle hze h h1 h2)
  have HB := Lib.hid (alloc_belowS w (.cells #[.int .i64 (m : Nat), .slice a l.length cap] 25))
  have HX : Hid (∀ W, Below (w.alloc (.cells #[.int .i64 (m : Nat), .slice a l.length cap] 25)).heap.size (w.alloc (.cells #[.int .i64 (m : Nat), .slice a l.length cap] 25)) W → W.cell? ⟨w.heap.size, 0, none⟩ = some (.int .i64 (m : Nat)) ∧ W.cell? ⟨w.heap.size, 1, none⟩ = some (.slice a l.length cap)) := Lib.hid (fun W hW => ⟨by rw [hW.cell (by simp)]; simp, by rw [hW.cell (by simp)]; simp⟩)
  have HN := Lib.hid (hl.later HB.out)
  have HZ := Lib.hid (hz.later HB.out)
  clear hl hz hle hze h
  go_enter Tryz.func6, Tryz.ntmps6
  go_upto_region 1 with fail
  generalize w.alloc (.cells #[.int .i64 (m : Nat), .slice a l.length cap] 25) = w1 at *
  obtain ⟨z0, z1⟩ := HX.out w1 (Below.refl _ _)
  go_wp2_with fail
  refine (HIM.out _ HN.out HZ.out).mono ?_
  rintro e w2 ⟨rfl, hb2⟩
  have HB2 := Lib.hid hb2
  clear z0 z1 hb2
  obtain ⟨z0, z1⟩ := HX.out _ HB2.out
  go_wp2_with fail
  refine (HDI.out _ (HN.out.later HB2.out) (HZ.out.later HB2.out)).mono ?_
  rintro e w3 ⟨S, hsh, a2, c2, rfl, ho, hb3⟩
  have F : Hid (RetDi m ln zn w (.returned (.slice a2 (dL m S).length c2)) w3) := Lib.hid ⟨S, hsh, a2, c2, rfl, owns_mono ho (by have := HB.out.size; have := HB2.out.size; omega), Below.now HB.out (Below.now HB2.out hb3)⟩
  clear z0 z1 hb3 hsh ho
  generalize (dL m S).length = rn at *
  go_wp2_with fail
  go_ret
  exact F.out
set_option maxRecDepth 20000 in
set_option maxHeartbeats 1000000 in
theorem implDiameterOf_any (m : Nat) (ln zn : List Nat) (l z : List Int) (a : Option Addr) (cap : Nat) (az : Option Addr) (cz : Nat) (w : World) (hle : l = ln.map Int.ofNat) (hze : z = zn.map Int.ofNat) (h : ImgsOk m ln zn) (hl : IntsIn w a l) (hz : IntsIn w az z) :
    Calls Tryz.prog 12 #[.agg #[.int .i64 (m : Nat), .slice a l.length cap], .slice az z.length cz] w fun e w' => ∃ S, ShortP m ln zn S ∧ e = .returned (.int .i64 (Lib.maxOf (dL m S))) ∧ Below w.heap.size w w' := by
  have hm1 := h.tab.lo
  have hm2 := h.tab.hi
  have HIM := Lib.hid (fun W h1 h2 => imagesOk_ok m ln zn l z a cap az cz W hle hze h h1 h2)
  have HDI := Lib.hid (fun W h1 h2 => distances_ok m ln zn l z a cap az cz W hle hze h h1 h2)
  have HB := Lib.hid (alloc_belowS w (.cells #[.int .i64 (m : Nat), .slice a l.length cap] 25))
  have HX : Hid (∀ W, Below (w.alloc (.cells #[.int .i64 (m : Nat), .slice a l.length cap] 25)).heap.size (w.alloc (.cells #[.int .i64 (m : Nat), .slice a l.length cap] 25)) W → W.cell? ⟨w.heap.size, 0, none⟩ = some (.int .i64 (m : Nat)) ∧ W.cell? ⟨w.heap.size, 1, none⟩ = some (.slice a l.length cap)) := Lib.hid (fun W hW => ⟨by rw [hW.cell (by simp)]; simp, by rw [hW.cell (by simp)]; simp⟩)
  have HN := Lib.hid (hl.later HB.out)
  have HZ := Lib.hid (hz.later HB.out)
  clear hl hz hle hze h
  go_enter Tryz.func12, Tryz.ntmps12
  go_upto_region 1 with fail
  generalize w.alloc (.cells #[.int .i64 (m : Nat), .slice a l.length cap] 25) = w1 at *
  obtain ⟨z0, z1⟩ := HX.out w1 (Below.refl _ _)
  go_wp2_with fail
  refine (HIM.out _ HN.out HZ.out).mono ?_
  rintro e w2 ⟨rfl, hb2⟩
  have HB2 := Lib.hid hb2
  clear z0 z1 hb2
  obtain ⟨z0, z1⟩ := HX.out _ HB2.out
  go_wp2_with fail
  refine (HDI.out _ (HN.out.later HB2.out) (HZ.out.later HB2.out)).mono ?_
  rintro e w3 ⟨S, hsh, a2, c2, rfl, ho, hb3⟩
  have HSP := Lib.hid hsh
  have hdl := dL_len m S
  obtain ⟨b2, o2, rfl, _, hc2⟩ := (owns_ints ho).cell (i := 0) (by omega)
  have HMX := Lib.hid (Tryz.slices_Max_int b2 o2 (dL m S).length c2 (dL m S) w3 (by omega) (Nat.le_refl _) (by omega) hc2)
  have HB3 := Lib.hid (Below.now HB2.out hb3)
  clear z0 z1 hb3 hsh ho hc2
  rw [List.take_length, hdl] at HMX
  obtain ⟨M, hM⟩ : ∃ M, Lib.maxOf (dL m S) = M := ⟨_, rfl⟩
  rw [hM] at HMX
  have HME := Lib.hid hM
  clear hM
  go_wp2_with fail
  refine HMX.out.mono ?_
  rintro e w4 ⟨rfl, rfl⟩
  go_wp2_with fail
  go_ret
  exact ⟨S, HSP.out, by rw [HME.out]; rfl, Below.now HB.out HB3.out⟩
end Go.Proofs.YtmgdglghjlggnaaGreat
namespace Go.Proofs.YtmgdglghjlggnaaGreat
open Go.RowKit
set_option linter.unusedVariables false
/-- counts as cells -/
def ctV (l : List Nat) : List Value := l.map fun n => Value.int .i64 (n : Nat)
theorem ctV_at {l : List Nat} {v : Nat} (h : v < l.length) : (ctV l)[v]? = some (.int .i64 ((l.getD v 0 : Nat) : Int)) := by
  simp [ctV, List.getD_eq_getElem?_getD, h]
theorem ctV_set (l : List Nat) (p x : Nat) : (ctV l).set p (.int .i64 (x : Nat)) = ctV (l.set p x) := by simp [ctV, List.map_set]
theorem ctV_zero (m : Nat) : (madeCells #[Value.int .i64 0] m).toList = ctV (List.replicate m 0) := by
  rw [toList_madeCells_one]; simp [ctV]
theorem ctV_ints (l : List Nat) : ctV l = intVals (l.map Int.ofNat) := by simp [ctV, intVals]
theorem getD_le_sum : ∀ (l : List Nat) (v : Nat), l.getD v 0 ≤ l.sum
  | [], v => by simp
  | a :: l, 0 => by simp
  | a :: l, v + 1 => by
    rw [List.getD_cons_succ, List.sum_cons]
    have := getD_le_sum l v
    omega
theorem take_sum_le : ∀ (l : List Nat) (i : Nat), (l.take i).sum ≤ l.sum
  | [], i => by simp
  | a :: l, 0 => by simp
  | a :: l, i + 1 => by
    rw [List.take_succ_cons, List.sum_cons, List.sum_cons]
    have := take_sum_le l i
    omega
/-- a row of counts in memory -/
def CtRow (wr : World) (B g m : Nat) (l : List Nat) : Prop := l.length = m ∧ B ≤ g ∧ wr.ownsRow B 3 1 (.slice (some ⟨g, 0, none⟩) m m) m (ctV l)
theorem CtRow.start (w : World) {m : Nat} (hm : m ≤ maxLen) : CtRow (w.alloc (.cells (madeCells #[.int .i64 0] m) 3)) w.heap.size w.heap.size m (List.replicate m 0) := by
  refine ⟨by simp, Nat.le_refl _, ?_⟩
  have := World.ownsRow_lit w (madeCells #[.int .i64 0] m) m (e := 3) (size := 1) (Nat.le_refl _) hm (by rw [size_madeCells]; simp)
  rw [ctV_zero] at this
  exact this
theorem CtRow.cell {wr : World} {B g m : Nat} {l : List Nat} (h : CtRow wr B g m l) {v : Nat} (hv : v < m) : wr.cell? ⟨g, v, none⟩ = some (.int .i64 ((l.getD v 0 : Nat) : Int)) := by
  rw [h.2.2.cellAt v (by omega), ctV_at (by rw [h.1]; exact hv)]
theorem CtRow.frozen {wr : World} {B g m : Nat} {l : List Nat} (h : CtRow wr B g m l) (i : Nat) : wr.frozen? ⟨g, i, none⟩ = false := h.2.2.frozenAt i
theorem CtRow.later {wr w2 : World} {B g m : Nat} {l : List Nat} (h : CtRow wr B g m l) (hb : Below wr.heap.size wr w2) : CtRow w2 B g m l := ⟨h.1, h.2.1, owns_later h.2.2 hb⟩
theorem CtRow.store {wr : World} {B g m : Nat} {l : List Nat} (h : CtRow wr B g m l) (p x : Nat) : CtRow (wr.setCell ⟨g, p, none⟩ (.int .i64 (x : Nat))) B g m (l.set p x) := by
  refine ⟨by rw [List.length_set]; exact h.1, h.2.1, ?_⟩
  have := (h.2.2.stored p (.int .i64 (x : Nat))).1
  rw [ctV_set] at this
  exact this
theorem CtRow.mono {wr : World} {B B' g m : Nat} {l : List Nat} (h : CtRow wr B g m l) (hb : B' ≤ B) : CtRow wr B' g m l := ⟨h.1, by have := h.2.1; omega, owns_mono h.2.2 hb⟩
def RetCt (m : Nat) (l : List Nat) (w : World) (e : Ending) (w' : World) : Prop := ∃ g, e = .returned (.slice (some ⟨g, 0, none⟩) m m) ∧ CtRow w' w.heap.size g m l ∧ Below w.heap.size w w'
section
variable {m : Nat} {ln zn : List Nat}
/-- no number of a round is above the number of all words -/
theorem row_top (hN : ∀ i y, i < m → y < zn.length → nxT m ln zn i y < m) {now : List Nat} (hl : now.length = m) {i y : Nat} (hi : i < m) (hy : y < zn.length) (v : Nat) : (rowV m ln zn (now.getD i 0) i (stepV m ln zn now i) y).getD v 0 + now.getD i 0 ≤ zn.length * now.sum := by
  have h1 := rowV_sum hN hi (stepV_len (ln := ln) (zn := zn) now i) y (by omega) (c := now.getD i 0)
  have h2 := getD_le_sum (rowV m ln zn (now.getD i 0) i (stepV m ln zn now i) y) v
  have h3 := stepV_sum hN hl i (by omega)
  have h4 : (now.take (i + 1)).sum = (now.take i).sum + now.getD i 0 := by
    rw [List.take_succ_eq_append_getElem (by omega : i < now.length), List.sum_append, List.getD_eq_getElem?_getD, List.getElem?_eq_getElem (by omega : i < now.length)]
    simp
  have h5 := take_sum_le now (i + 1)
  have h6 : y * now.getD i 0 + now.getD i 0 ≤ zn.length * now.getD i 0 := by
    have : (y + 1) * now.getD i 0 ≤ zn.length * now.getD i 0 := Nat.mul_le_mul_right _ (by omega)
    rw [Nat.add_mul] at this; omega
  have h7 : zn.length * (now.take (i + 1)).sum ≤ zn.length * now.sum := Nat.mul_le_mul_left _ h5
  rw [h4, Nat.mul_add] at h7
  omega
end
set_option maxRecDepth 20000 in
set_option maxHeartbeats 2000000 in
theorem countValues_any (m : Nat) (ln zn : List Nat) (a : Option Addr) (len cap : Nat) (az : Option Addr) (cz n : Nat) (w : World) (hl : NatsIn w a ln) (hT : Tb m ln) (hlen : len = m * m) (hz : NatsIn w az zn) (hzm : ∀ x ∈ zn, x < m) (hz4 : zn.length ≤ 4) (hP : ∀ j, j ≤ n → zn.length ^ j ≤ 2 ^ 60) (hn : n ≤ 1000) :
    Calls Tryz.prog 29 #[.agg #[.int .i64 m, .slice a len cap], .slice az zn.length cz, .int .i64 n] w (RetCt m (valsN m ln zn n) w) := by
  have hm := hT.hi
  have hm1 := hT.lo
  have HT := Lib.hid hT
  have HL := Lib.hid hlen
  have HM := Lib.hid hzm
  have HPW := Lib.hid hP
  have HNX : Hid (∀ i y, i < m → y < zn.length → nxT m ln zn i y < m) := Lib.hid (fun i y hi hy => hT.tm_lt hi (by
    have := hzm _ (List.getElem_mem hy)
    rw [List.getD_eq_getElem?_getD, List.getElem?_eq_getElem hy]
    exact this))
  have HB := Lib.hid (alloc_belowS w (.cells #[.int .i64 (m : Nat), .slice a len cap] 25))
  have HX : Hid (∀ W, Below (w.alloc (.cells #[.int .i64 (m : Nat), .slice a len cap] 25)).heap.size (w.alloc (.cells #[.int .i64 (m : Nat), .slice a len cap] 25)) W → W.cell? ⟨w.heap.size, 0, none⟩ = some (.int .i64 (m : Nat)) ∧ W.cell? ⟨w.heap.size, 1, none⟩ = some (.slice a len cap)) := Lib.hid (fun W hW => ⟨by rw [hW.cell (by simp)]; simp, by rw [hW.cell (by simp)]; simp⟩)
  have HN := Lib.hid (hl.later HB.out)
  have HZ := Lib.hid (hz.later HB.out)
  have HMK := Lib.hid (run_make_row' (P := Tryz.prog) 23 3 (.int .i64 0) 8 Tryz.underlying23 Tryz.infoInt rfl .i64 .i64 m (by omega) (by omega))
  clear hl hT hlen hz hzm hP
  go_enter Tryz.func29, Tryz.ntmps29
  go_upto_region 1 with fail
  generalize w.alloc (.cells #[.int .i64 (m : Nat), .slice a len cap] 25) = w1 at *
  obtain ⟨z0, z1⟩ := HX.out w1 (Below.refl _ _)
  have hmk := HMK.out
  go_upto_region 2 with fail
  clear hmk z0 z1
  have HR1 := Lib.hid (CtRow.start w1 (m := m) (by unfold maxLen; omega))
  have HB1 := Lib.hid (alloc_belowS w1 (.cells (madeCells #[.int .i64 0] m) 3))
  obtain ⟨g0, hg0⟩ : ∃ g, w1.heap.size = g := ⟨_, rfl⟩
  have HG0 := Lib.hid hg0
  generalize w1.alloc (.cells (madeCells #[.int .i64 0] m) 3) = w2 at *
  rw [hg0] at HR1
  rw [hg0]
  clear hg0
  have c0 := HR1.out.cell (v := 0) (by omega)
  have f0 := HR1.out.frozen 0
  have HR2 := Lib.hid (HR1.out.store 0 1)
  have HB2 := Lib.hid (HB1.out.setCell (p := ⟨g0, 0, none⟩) (by rw [HG0.out]; exact Nat.le_refl _) (.int .i64 (1 : Nat)))
  have hmpos : (0 : Int) < (m : Int) := by omega
  go_upto_region 3 with fail
  clear c0 f0
  generalize w2.setCell ⟨g0, 0, none⟩ (.int .i64 1) = w3 at *
  go_wp2_with fail
  go_loopw [7, 19] (fun v i wr => ∃ (j g : Nat), j ≤ n ∧ i = .int .i64 (j : Nat) ∧ v = .slice (some ⟨g, 0, none⟩) m m ∧ Hid (CtRow wr g0 g m (valsN m ln zn j)) ∧ Hid (Below w1.heap.size w1 wr)) (fun _ i _ => n - (intOf i).toNat)
  case atStart => exact ⟨0, g0, Nat.zero_le _, rfl, rfl, HR2, HB2⟩
  case round =>
    clear HR2 HB2 HR1 HB1
    obtain ⟨j, g, hj, rfl, rfl, HR, HW⟩ := hrel
    by_cases hlt : j < n
    · have hmk := HMK.out
      obtain ⟨z0, z1⟩ := HX.out wr HW.out
      have HS := Lib.hid (valsN_sum hm1 HNX.out j)
      have HQ : Hid (zn.length * (valsN m ln zn j).sum ≤ 2 ^ 60) := Lib.hid (by rw [HS.out, Nat.mul_comm, ← Nat.pow_succ]; exact HPW.out _ hlt)
      have HVS : Hid (valsN m ln zn (j + 1) = stepV m ln zn (valsN m ln zn j) m) := Lib.hid rfl
      have HVL := Lib.hid (valsN_len (m := m) (ln := ln) (zn := zn) j)
      generalize valsN m ln zn j = now at *
      generalize hW : wr = wr0 at *
      have HWE := Lib.hid hW
      clear hW HS
      go_upto_region 6 with fail
      clear hmk z0 z1
      have HRN := Lib.hid (CtRow.start wr0 (m := m) (by unfold maxLen; omega))
      have HBN := Lib.hid (alloc_belowS wr0 (.cells (madeCells #[.int .i64 0] m) 3))
      obtain ⟨g2, hg2⟩ : ∃ g, wr0.heap.size = g := ⟨_, rfl⟩
      have HG2 := Lib.hid hg2
      generalize wr0.alloc (.cells (madeCells #[.int .i64 0] m) 3) = w5 at *
      rw [hg2] at HRN
      rw [hg2]
      clear hg2
      have HRN0 : Hid (CtRow w5 g2 g2 m (stepV m ln zn now 0)) := HRN
      go_wp2_with fail
      go_loopw [26] (fun i wr => ∃ (p : Nat), p ≤ m ∧ i = .int .i64 (p : Nat) ∧ Hid (CtRow wr g2 g2 m (stepV m ln zn now p)) ∧ Hid (Below wr0.heap.size wr0 wr)) (fun i _ => m - (intOf i).toNat)
      case atStart => exact ⟨0, Nat.zero_le _, rfl, HRN0, HBN⟩
      case round =>
        clear HRN HBN HRN0
        obtain ⟨p, hp, rfl, HP, HB5⟩ := hrel
        by_cases hpl : p < m
        · have cp := (HR.out.later HB5.out).cell hpl
          obtain ⟨c, hc⟩ : ∃ c, now.getD p 0 = c := ⟨_, rfl⟩
          have HC := Lib.hid hc
          have HTOP : Hid (∀ y, y < zn.length → ∀ v, (rowV m ln zn c p (stepV m ln zn now p) y).getD v 0 + c ≤ 2 ^ 60) := Lib.hid (fun y hy v => by
            have := row_top HNX.out HVL.out hpl hy v
            rw [hc] at this
            exact Nat.le_trans this HQ.out)
          have HSV : Hid (stepV m ln zn now (p + 1) = rowV m ln zn c p (stepV m ln zn now p) zn.length) := Lib.hid (by rw [stepV, hc])
          rw [hc] at cp
          clear hc
          have HP0 : Hid (CtRow wr g2 g2 m (rowV m ln zn c p (stepV m ln zn now p) 0)) := HP
          generalize stepV m ln zn now p = sv at *
          generalize hW : wr = wr1 at *
          have HWE1 := Lib.hid hW
          clear hW
          go_wp2_with fail
          clear cp
          go_loopw [33] (fun i wr => ∃ (y : Nat), y ≤ zn.length ∧ i = .int .i64 (y : Nat) ∧ Hid (CtRow wr g2 g2 m (rowV m ln zn c p sv y)) ∧ Hid (Below wr0.heap.size wr0 wr)) (fun i _ => zn.length - (intOf i).toNat)
          case atStart => exact ⟨0, Nat.zero_le _, rfl, HP0, HB5⟩
          case round =>
            clear HP0 HP HB5
            obtain ⟨y, hy, rfl, HY, HB6⟩ := hrel
            by_cases hyl : y < zn.length
            · have HW6 := Lib.hid (Below.now HW.out HB6.out)
              obtain ⟨bz, oz, rfl, hcz⟩ := img_cell (HZ.out.later HW6.out) hyl
              obtain ⟨z0, z1⟩ := HX.out wr HW6.out
              have hym : zn.getD y 0 < m := by
                have := HM.out _ (List.getElem_mem hyl)
                rw [List.getD_eq_getElem?_getD, List.getElem?_eq_getElem hyl]
                exact this
              have HTI := Lib.hid (implTimes_any m ln a len cap p (zn.getD y 0) wr (HN.out.later HW6.out) HT.out HL.out hpl hym)
              have hq := HNX.out p y hpl hyl
              have HQE : Hid (nxT m ln zn p y = tm m ln p (zn.getD y 0)) := Lib.hid rfl
              have HRV : Hid (rowV m ln zn c p sv (y + 1) = addAt (rowV m ln zn c p sv y) (nxT m ln zn p y) c) := Lib.hid rfl
              have ht := HTOP.out y hyl (nxT m ln zn p y)
              unfold addAt at HRV
              generalize zn.getD y 0 = zy at *
              rw [← HQE.out] at HTI
              clear HQE
              generalize nxT m ln zn p y = q at *
              generalize rowV m ln zn c p sv y = rv at *
              obtain ⟨d, hd⟩ : ∃ d, rv.getD q 0 = d := ⟨_, rfl⟩
              have HD := Lib.hid hd
              rw [hd] at ht HRV
              clear hd
              go_wp2_with fail
              refine HTI.out.mono ?_
              rintro e w7 ⟨rfl, hb7⟩
              have HY7 := Lib.hid (HY.out.later hb7)
              have HB7 := Lib.hid (Below.now HB6.out hb7)
              clear hb7 z0 z1 hcz HTI
              have cq := HY7.out.cell hq
              have fq := HY7.out.frozen q
              rw [HD.out] at cq
              have HY8 := Lib.hid (HY7.out.store q (d + c))
              have HB8 := Lib.hid (HB7.out.setCell (p := ⟨g2, q, none⟩) (by rw [HG2.out]; exact Nat.le_refl _) (.int .i64 ((d + c : Nat) : Int)))
              rw [← HRV.out] at HY8
              obtain ⟨k, hk⟩ : ∃ k, d + c = k := ⟨_, rfl⟩
              have hsum : ((d : Nat) : Int) + ((c : Nat) : Int) = (k : Int) := by omega
              rw [hk] at HY8 HB8 ht
              have hwr : IntKind.i64.wrap (k : Int) = (k : Int) := IntWalk.i64_in _ ⟨by omega, by omega⟩
              clear hk
              have hq2 : (q : Int) < (m : Int) := by omega
              go_wp2_with fail
              go_roundw
              case rel => exact ⟨y + 1, by omega, by go_num, HY8, HB8⟩
              case measure => simp [intOf]; omega
            · obtain rfl : y = zn.length := by omega
              rw [← HSV.out] at HY
              go_wp2_with fail
              go_roundw
              case rel => exact ⟨p + 1, by omega, by go_num, HY, HB6⟩
              case measure => simp [intOf]; omega
        · obtain rfl : p = m := by omega
          rw [← HVS.out] at HP
          go_wp2_with fail
          go_roundw
          case rel => exact ⟨j + 1, g2, by omega, by go_num, rfl, Lib.hid (HP.out.mono (by have := HW.out.size; rw [← HG0.out, ← HG2.out]; exact this)), Lib.hid (Below.now HW.out HB5.out)⟩
          case measure => simp [intOf]; omega
    · obtain rfl : j = n := by omega
      have F : Hid (RetCt m (valsN m ln zn j) w (.returned (.slice (some ⟨g, 0, none⟩) m m)) wr) := Lib.hid ⟨g, rfl, HR.out.mono (by rw [← HG0.out]; exact HB.out.size), Below.now HB.out HW.out⟩
      go_wp2_with fail
      go_ret
      exact F.out
end Go.Proofs.YtmgdglghjlggnaaGreat
namespace Go.Proofs.YtmgdglghjlggnaaGreat
open Go.RowKit
set_option linter.unusedVariables false
def sphN (d : List Int) (n : Nat) : List Nat := (List.range n).map (cntK d)
theorem sphN_len (d : List Int) (n : Nat) : (sphN d n).length = n := by simp [sphN]
theorem sphN_int (d : List Int) (n : Nat) : (sphN d n).map Int.ofNat = sphL d n := by simp [sphN, sphL]
theorem sphN_nil (n : Nat) : sphN [] n = List.replicate n 0 :=
  List.eq_replicate_iff.2 ⟨sphN_len _ _, fun b hb => by obtain ⟨k, _, rfl⟩ := List.mem_map.1 hb; rfl⟩
theorem map_ofNat_inj : ∀ {l l' : List Nat}, l.map Int.ofNat = l'.map Int.ofNat → l = l'
  | [], [], _ => rfl
  | [], b :: l', h => by cases h
  | a :: l, [], h => by cases h
  | a :: l, b :: l', h => by
    rw [List.map_cons, List.map_cons] at h
    have h1 := (List.cons.inj h).1
    rw [map_ofNat_inj (List.cons.inj h).2, Int.ofNat.inj h1]
theorem nthZ_map (l : List Nat) (i : Nat) (h : i < l.length) : nthZ (l.map Int.ofNat) i = ((l.getD i 0 : Nat) : Int) := by
  rw [nthZ_lt (by rw [List.length_map]; exact h)]
  simp [List.getD_eq_getElem?_getD, h]
theorem sphN_step {d : List Int} {n i : Nat} (hi : i < d.length) (h0 : 0 ≤ nthZ d i) (hn : nthZ d i < (n : Int)) : sphN (d.take (i + 1)) n = (sphN (d.take i) n).set (nthZ d i).toNat ((sphN (d.take i) n).getD (nthZ d i).toNat 0 + 1) := by
  refine map_ofNat_inj ?_
  rw [sphN_int, sph_step hi h0 hn, List.map_set, sphN_int, ← sphN_int, nthZ_map _ _ (by rw [sphN_len]; omega)]
  rfl
theorem sphN_skip {d : List Int} {n i : Nat} (hi : i < d.length) (h0 : nthZ d i < 0) : sphN (d.take (i + 1)) n = sphN (d.take i) n := by
  refine map_ofNat_inj ?_
  rw [sphN_int, sph_skip hi h0, sphN_int]
theorem sphN_le (d : List Int) (n q : Nat) : (sphN d n).getD q 0 ≤ d.length := by
  rw [List.getD_eq_getElem?_getD]
  cases h : (sphN d n)[q]? with
  | none => exact Nat.zero_le _
  | some v =>
    obtain ⟨k, _, rfl⟩ := List.mem_map.1 (List.mem_of_getElem? h)
    exact List.countP_le_length
def RetSp (m : Nat) (ln zn : List Nat) (w : World) (e : Ending) (w' : World) : Prop := ∃ S M, ShortP m ln zn S ∧ Lib.maxOf (dL m S) = ((M : Nat) : Int) ∧ RetCt (M + 1) (sphN (dL m S) (M + 1)) w e w'
set_option maxRecDepth 20000 in
set_option maxHeartbeats 2000000 in
theorem implSpheresOf_any (m : Nat) (ln zn : List Nat) (l z : List Int) (a : Option Addr) (cap : Nat) (az : Option Addr) (cz : Nat) (w : World) (hle : l = ln.map Int.ofNat) (hze : z = zn.map Int.ofNat) (h : ImgsOk m ln zn) (hl : IntsIn w a l) (hz : IntsIn w az z) :
    Calls Tryz.prog 7 #[.agg #[.int .i64 (m : Nat), .slice a l.length cap], .slice az z.length cz] w (RetSp m ln zn w) := by
  have hm1 := h.tab.lo
  have hm2 := h.tab.hi
  have hz4 := h.few
  have HIM := Lib.hid (fun W h1 h2 => imagesOk_ok m ln zn l z a cap az cz W hle hze h h1 h2)
  have HDI := Lib.hid (fun W h1 h2 => distances_ok m ln zn l z a cap az cz W hle hze h h1 h2)
  have HB := Lib.hid (alloc_belowS w (.cells #[.int .i64 (m : Nat), .slice a l.length cap] 25))
  have HX : Hid (∀ W, Below (w.alloc (.cells #[.int .i64 (m : Nat), .slice a l.length cap] 25)).heap.size (w.alloc (.cells #[.int .i64 (m : Nat), .slice a l.length cap] 25)) W → W.cell? ⟨w.heap.size, 0, none⟩ = some (.int .i64 (m : Nat)) ∧ W.cell? ⟨w.heap.size, 1, none⟩ = some (.slice a l.length cap)) := Lib.hid (fun W hW => ⟨by rw [hW.cell (by simp)]; simp, by rw [hW.cell (by simp)]; simp⟩)
  have HN := Lib.hid (hl.later HB.out)
  have HZ := Lib.hid (hz.later HB.out)
  have HMKA := Lib.hid (fun k h => run_make_row' (P := Tryz.prog) 23 3 (.int .i64 0) 8 Tryz.underlying23 Tryz.infoInt rfl .i64 .i64 k h (by omega))
  clear hl hz hle hze h
  go_enter Tryz.func7, Tryz.ntmps7
  go_upto_region 1 with fail
  generalize w.alloc (.cells #[.int .i64 (m : Nat), .slice a l.length cap] 25) = w1 at *
  obtain ⟨z0, z1⟩ := HX.out w1 (Below.refl _ _)
  go_wp2_with fail
  refine (HIM.out _ HN.out HZ.out).mono ?_
  rintro e w2 ⟨rfl, hb2⟩
  have HB2 := Lib.hid hb2
  clear z0 z1 hb2
  obtain ⟨z0, z1⟩ := HX.out _ HB2.out
  go_wp2_with fail
  refine (HDI.out _ (HN.out.later HB2.out) (HZ.out.later HB2.out)).mono ?_
  rintro e w3 ⟨S, hsh, a2, c2, rfl, ho, hb3⟩
  have HSP := Lib.hid hsh
  have hdl := dL_len m S
  obtain ⟨M, hM40, hME, hall, hmem⟩ := max_dL hsh hz4 hm1 hm2
  have HIN := Lib.hid (owns_ints ho)
  obtain ⟨b2, o2, rfl, _, hc2⟩ := (owns_ints ho).cell (i := 0) (by omega)
  have HMX := Lib.hid (Tryz.slices_Max_int b2 o2 (dL m S).length c2 (dL m S) w3 (by omega) (Nat.le_refl _) (by omega) hc2)
  have HB3 := Lib.hid (Below.now HB2.out hb3)
  rw [List.take_length, hdl, hME] at HMX
  have HAL := Lib.hid hall
  have HDL := Lib.hid hdl
  have HME := Lib.hid hME
  rw [hdl]
  clear z0 z1 hb3 hsh ho hc2 hME hall hmem hdl HIM HDI HX HN HZ
  generalize hD : dL m S = d at *
  have HDE := Lib.hid hD
  clear hD
  go_wp2_with fail
  refine HMX.out.mono ?_
  rintro e w4 ⟨rfl, hw4⟩
  replace hw4 := hw4.symm
  subst hw4
  obtain ⟨n, hn⟩ : ∃ n, M + 1 = n := ⟨_, rfl⟩
  have HNM := Lib.hid hn
  have hmk := HMKA.out n (by omega)
  have hM1 : ((M : Nat) : Int) + 1 = (n : Int) := by omega
  have hwr : IntKind.i64.wrap (n : Int) = (n : Int) := IntWalk.i64_in _ ⟨by omega, by omega⟩
  have hn40 : n ≤ 41 := by omega
  clear hn
  go_upto_region 5 with fail
  clear hmk HMX HMKA
  have HR4 := Lib.hid (CtRow.start w3 (m := n) (by unfold maxLen; omega))
  have HB4 := Lib.hid (alloc_belowS w3 (.cells (madeCells #[.int .i64 0] n) 3))
  have HR5 : Hid (CtRow (w3.alloc (.cells (madeCells #[.int .i64 0] n) 3)) w3.heap.size w3.heap.size n (sphN (d.take 0) n)) := Lib.hid (by
    rw [List.take_zero, sphN_nil]; exact HR4.out)
  obtain ⟨g, hg⟩ : ∃ g, w3.heap.size = g := ⟨_, rfl⟩
  have HG := Lib.hid hg
  generalize w3.alloc (.cells (madeCells #[.int .i64 0] n) 3) = w4 at *
  rw [hg] at HR5
  rw [hg]
  clear HR4 hg hM1 hwr
  go_wp2_with fail
  go_loopw [22] (fun i wr => ∃ (j : Nat), j ≤ m ∧ i = .int .i64 (j : Nat) ∧ Hid (CtRow wr g g n (sphN (d.take j) n)) ∧ Hid (Below w3.heap.size w3 wr)) (fun i _ => m - (intOf i).toNat)
  case atStart => exact ⟨0, Nat.zero_le _, rfl, HR5, HB4⟩
  case round =>
    clear HR5 HB4
    obtain ⟨j, hj, rfl, HR, HW⟩ := hrel
    by_cases hlt : j < m
    · have hjd : j < d.length := by rw [HDL.out]; exact hlt
      obtain ⟨_, _, hbo, hbl, hcj0⟩ := (HIN.out.later HW.out).cell (i := j) (by rw [HDL.out]; exact hlt)
      simp only [Option.some.injEq, Addr.mk.injEq, and_true] at hbo
      obtain ⟨rfl, rfl⟩ := hbo
      have hcj := hcj0 j (by rw [HDL.out]; exact hlt)
      obtain ⟨x, hx⟩ : ∃ x, nthZ d j = x := ⟨_, rfl⟩
      have hxM : x ≤ (M : Int) := by
        rw [← hx, nthZ_lt hjd]
        exact HAL.out _ (List.getElem_mem hjd)
      have HXE := Lib.hid hx
      have HNME := HNM.out
      have HST := Lib.hid (fun h => sphN_step (d := d) (n := n) hjd h (by rw [hx]; omega))
      have HSK := Lib.hid (fun h => sphN_skip (d := d) (n := n) hjd h)
      rw [hx] at hcj HST HSK
      clear hcj0 hbl hx hjd HNME
      by_cases hx0 : 0 ≤ x
      · obtain ⟨q, rfl⟩ : ∃ q : Nat, x = (q : Int) := ⟨x.toNat, by omega⟩
        have HNME := HNM.out
        have hqn : q < n := by omega
        clear HNME
        have HST2 := Lib.hid (HST.out hx0)
        rw [Int.toNat_natCast] at HST2
        clear HST HSK
        have hcb := sphN_le (d.take j) n q
        rw [List.length_take] at hcb
        generalize sphN (d.take j) n = sv at *
        obtain ⟨c, hc⟩ : ∃ c, sv.getD q 0 = c := ⟨_, rfl⟩
        have cq := HR.out.cell hqn
        have fq := HR.out.frozen q
        rw [hc] at HST2 cq
        have HC := Lib.hid hc
        clear hc
        obtain ⟨c1, hc1⟩ : ∃ c1, c + 1 = c1 := ⟨_, rfl⟩
        have hsum : ((c : Nat) : Int) + 1 = (c1 : Int) := by omega
        rw [hc1] at HST2
        have hc40 : c ≤ 40 := by rw [← HC.out]; omega
        clear hcb
        have hwr : IntKind.i64.wrap (c1 : Int) = (c1 : Int) := IntWalk.i64_in _ ⟨by omega, by omega⟩
        have HR2 := Lib.hid (HR.out.store q c1)
        have HW2 := Lib.hid (HW.out.setCell (p := ⟨g, q, none⟩) (by rw [HG.out]; exact Nat.le_refl _) (.int .i64 (c1 : Int)))
        rw [← HST2.out] at HR2
        clear hc1
        go_wp2_with fail
        go_roundw
        case rel => exact ⟨j + 1, by omega, by go_num, HR2, HW2⟩
        case measure => simp [intOf]; omega
      · have hx1 : ¬ (x ≥ 0) := by omega
        have HSK2 := Lib.hid (HSK.out (by omega))
        clear HST HSK
        rw [← HSK2.out] at HR
        go_wp2_with fail
        go_roundw
        case rel => exact ⟨j + 1, by omega, by go_num, HR, HW⟩
        case measure => simp [intOf]; omega
    · obtain rfl : j = m := by omega
      have F : Hid (RetSp j ln zn w (.returned (.slice (some ⟨g, 0, none⟩) n n)) wr) := Lib.hid ⟨S, M, HSP.out, by rw [HDE.out]; exact HME.out, g, by rw [HNM.out], by
        rw [HNM.out, HDE.out]
        have := HR.out
        rw [List.take_of_length_le (by rw [HDL.out]; exact Nat.le_refl _)] at this
        exact this.mono (by rw [← HG.out]; have := HB.out.size; have := HB3.out.size; omega), Below.now HB.out (Below.now HB3.out HW.out)⟩
      go_wp2_with fail
      go_ret
      exact F.out
end Go.Proofs.YtmgdglghjlggnaaGreat
namespace Go.Proofs.YtmgdglghjlggnaaGreat
open Go.RowKit Go.Sort Go.Lib
set_option linter.unusedVariables false
theorem owns_blockSF {w : World} {base g cap n : Nat} {T : TypeId} {xs : List Value} (h : w.ownsRow base T 1 (.slice (some ⟨g, 0, none⟩) n cap) n xs) : ∃ cur, base ≤ g ∧ w.heap[g]? = some (.cells cur T (0, 0)) ∧ n ≤ cap ∧ cap ≤ maxLen ∧ cur.size = cap * 1 ∧ cur.toList.take n = xs := by
  rcases h.2 with ⟨hv, _⟩ | ⟨g', cap', cur, hv, hb, hg, hn, hc, hs, ht⟩
  · cases hv
  · simp only [Value.slice.injEq, Option.some.injEq, Addr.mk.injEq, and_true, true_and] at hv
    obtain ⟨rfl, rfl⟩ := hv
    exact ⟨cur, hb, hg, hn, hc, hs, by simpa using ht⟩
/-- compareWords over the bytes -/
def cfLF (x y : List UInt8) : Int := cfW ⟨x.toArray⟩ ⟨y.toArray⟩
theorem ltOf_cfLF (x y : List UInt8) : ltOf cfLF x y = ltW x y := by
  have h1 : (ByteArray.mk x.toArray).size = x.length := by show x.toArray.size = _; simp
  have h2 : (ByteArray.mk y.toArray).size = y.length := by show y.toArray.size = _; simp
  unfold ltOf cfLF cfW orF cmpS Lib.compareInt ltW
  rw [h1, h2, bytesLess_eq, Lib.toList_data, Lib.toList_data]
  by_cases a1 : x.length < y.length
  · simp [a1]
  · by_cases a2 : y.length < x.length
    · have a3 : ¬ x.length = y.length := by omega
      simp [a1, a2, a3]
    · have a3 : x.length = y.length := by omega
      by_cases a4 : x < y
      · simp [a3, a4]
      · by_cases a5 : x = y
        · subst a5
          simp [List.lt_irrefl]
        · simp [a3, a4, a5]
theorem ltOf_cfLF' : ltOf cfLF = ltW := by funext x y; exact ltOf_cfLF x y
theorem cmpLaysWF (blk off size : Nat) (w : World) : CmpLays1 Tryz.prog 36 #[] encStr cfLF blk off size w := fun m os dk hs x y =>
  (compareWords_any ⟨x.toArray⟩ ⟨y.toArray⟩ _).mono fun e w' ⟨he, o, hw⟩ => ⟨he, 0, #[o], by rw [hw, alloc_eq_grow, World.drewN_zero]⟩
theorem strVals_encF (l : List ByteArray) : strVals l = (blsW l).map encStr := by
  unfold strVals blsW
  rw [List.map_map]; rfl
theorem enc_strValsF (z : List (List UInt8)) : z.map encStr = strVals (z.map fun x => ⟨x.toArray⟩) := by
  unfold strVals
  rw [List.map_map]; rfl
theorem sortW_anyF (z : List (List UInt8)) (base g cap : Nat) (w : World) (h : w.ownsRow base 9 1 (.slice (some ⟨g, 0, none⟩) z.length cap) z.length (z.map encStr)) (hlen : z.length ≤ 2 ^ 40) :
    Calls Tryz.prog 35 #[.slice (some ⟨g, 0, none⟩) z.length cap, .func (.func 36) #[] #[]] w fun e w' => e = .returned (.tuple #[]) ∧ w'.ownsRow base 9 1 (.slice (some ⟨g, 0, none⟩) z.length cap) z.length ((z.mergeSort fun x y => !ltW y x).map encStr) ∧ w.grownBy w' (some g) := by
  obtain ⟨cur, h1, h2, h3, h4, h5, h6⟩ := owns_blockSF h
  have hc := Tryz.slices_SortFunc_total encStr (fun x => rfl) cfLF (by rw [ltOf_cfLF']; exact ltW_swo) 36 #[] g 0 cap z.toArray w (enters_of Tryz.func36 (by kernel_rfl) rfl) (cmpLaysWF _ _ _ _) (holds_of_block h2 h6) (Array.getElem?_eq_some_iff.1 h2).1 (by simp; omega) (by rw [ltOf_cfLF']; exact fun x y => ltW_total)
  rw [ltOf_cfLF', List.size_toArray] at hc
  refine hc.mono ?_
  rintro e w' ⟨rfl, n, os, rfl⟩
  exact ⟨rfl, ownsRow_sorted (by simp) h1 h2 h3 h4 h5, grownBy_sorted _⟩
end Go.Proofs.YtmgdglghjlggnaaGreat
