/-
  ClassSizes.
-/
import Derived.Test.YtngbimgabcacpaaGreatGro29
import Derived.Test.YtngbimgabcacpaaGreatGro01
import Derived.Deep.RegionHeld3
namespace Go.Proofs.YtngbimgabcacpaaGreat
open Go.RowKit
set_option linter.unusedVariables false
def cmV (m : Nat) (ln : List Nat) (x y : Nat) : Nat := tm m ln (cj m ln x y) (invN m ln y)
def cmRow (m : Nat) (ln : List Nat) (x k : Nat) : List Nat := (List.range k).map (cmV m ln x)
def cmL (m : Nat) (ln : List Nat) (x : Nat) : List Nat := (List.range x).flatMap fun x => cmRow m ln x m
theorem cmRow_succ (m : Nat) (ln : List Nat) (x k : Nat) : cmRow m ln x (k + 1) = cmRow m ln x k ++ [cmV m ln x k] := by simp [cmRow, List.range_succ]
theorem cmRow_zero (m : Nat) (ln : List Nat) (x : Nat) : cmRow m ln x 0 = [] := rfl
theorem cmL_succ (m : Nat) (ln : List Nat) (x : Nat) : cmL m ln (x + 1) = cmL m ln x ++ cmRow m ln x m := by simp [cmL, List.range_succ, List.flatMap_append]
theorem cmL_zero (m : Nat) (ln : List Nat) : cmL m ln 0 = [] := rfl
theorem cmRow_len (m : Nat) (ln : List Nat) (x k : Nat) : (cmRow m ln x k).length = k := by simp [cmRow]
theorem cmL_len (m : Nat) (ln : List Nat) : ∀ x, (cmL m ln x).length = x * m
  | 0 => by simp [cmL_zero]
  | x + 1 => by rw [cmL_succ, List.length_append, cmL_len m ln x, cmRow_len, Nat.add_mul]; omega
theorem Grp.cmV_lt {m : Nat} {ln : List Nat} (h : Grp m ln) {x y : Nat} (hx : x < m) (hy : y < m) : cmV m ln x y < m := h.tm_lt (h.cj_lt hx hy) (h.invN_spec hy).1
theorem cmL_lt {m : Nat} {ln : List Nat} (h : Grp m ln) : ∀ v ∈ cmL m ln m, v < m := by
  intro v hv
  unfold cmL at hv
  obtain ⟨x, hx, hv⟩ := List.mem_flatMap.1 hv
  unfold cmRow at hv
  obtain ⟨y, hy, rfl⟩ := List.mem_map.1 hv
  exact h.cmV_lt (List.mem_range.1 hx) (List.mem_range.1 hy)
/-- the commutators, in ascending order -/
def cmN (m : Nat) (ln : List Nat) : List Nat := (List.range m).filter fun j => (cmL m ln m).contains j
theorem cmN_mem {m : Nat} {ln : List Nat} (h : Grp m ln) (v : Nat) : v ∈ cmN m ln ↔ v ∈ cmL m ln m := by
  unfold cmN
  rw [List.mem_filter, List.contains_iff_mem, List.mem_range]
  exact ⟨fun h => h.2, fun hv => ⟨cmL_lt h v hv, hv⟩⟩
theorem cm_coll {m : Nat} {ln : List Nat} (h : Grp m ln) : collL ((cmL m ln m).map Int.ofNat) = (cmN m ln).map Int.ofNat := by
  refine collL_eq (m := m) (f := fun j => (cmL m ln m).contains j) (fun x hx => ?_) (fun j hj => by rw [List.contains_iff_mem]; exact (mem_ofNat _ _).symm)
  obtain ⟨y, hy, rfl⟩ := List.mem_map.1 hx
  exact ⟨y, rfl, cmL_lt h y hy⟩
theorem inSub_same {m : Nat} {ln z z' : List Nat} (hT : Tb m ln) (hz : ∀ x ∈ z, x < m) (hz' : ∀ x ∈ z', x < m) (h : ∀ x, x ∈ z ↔ x ∈ z') : inSub m ln z = inSub m ln z' := by
  funext j
  unfold inSub
  rw [Bool.eq_iff_iff, List.contains_iff_mem, List.contains_iff_mem, subQ_mem hT hz, subQ_mem hT hz']
  exact ⟨Reach.mono fun x hx => (h x).1 hx, Reach.mono fun x hx => (h x).2 hx⟩
theorem comm_same {m : Nat} {ln : List Nat} (h : Grp m ln) : subL m ln (cmN m ln) = subL m ln (cmL m ln m) := by
  unfold subL
  rw [inSub_same h.toTb (fun x hx => cmL_lt h x ((cmN_mem h x).1 hx)) (cmL_lt h) (cmN_mem h)]
/-- CommutatorsOf as a function of plain data -/
def commF (n : Int) (l : List Int) : List Int := if groupB n l = true then subL n.toNat (l.map Int.toNat) (cmL n.toNat (l.map Int.toNat) n.toNat) else []
theorem commF_not {n : Int} {l : List Int} (h : groupB n l = false) : commF n l = [] := by simp [commF, h]
theorem commF_yes {m : Nat} {ln : List Nat} (h : groupB (m : Nat) (ln.map Int.ofNat) = true) : commF (m : Nat) (ln.map Int.ofNat) = subL m ln (cmL m ln m) := by
  unfold commF; rw [if_pos h, map_toNat']; rfl
theorem commF_len (n : Int) (l : List Int) : (commF n l).length ≤ 1000 := by
  cases h : groupB n l
  · rw [commF_not h]; simp
  · obtain ⟨m, ln, rfl, rfl, hG⟩ := groupB_out h
    rw [commF_yes h, ← subN_len]
    have := subN_le m ln (cmL m ln m)
    have := hG.hi
    omega
set_option maxRecDepth 100000 in
set_option maxHeartbeats 4000000 in
theorem implCommutatorsOf_any (n : Int) (l : List Int) (a : Option Addr) (cap : Nat) (w : World) (hl : IntsIn w a l) (hlen : l.length ≤ 2 ^ 47) (hcap : l.length ≤ cap ∧ cap ≤ maxLen) :
    Calls Tryz.prog 16 #[.agg #[.int .i64 n, .slice a l.length cap]] w (RetSl 3 1 (commF n l).length (intVals (commF n l)) w) := by
  have HI := Lib.hid hl
  clear hl
  cases hg : groupB n l
  · have F : Hid (∀ w', Below w.heap.size w w' → RetSl 3 1 (commF n l).length (intVals (commF n l)) w (.returned (.slice none 0 0)) w') := fun w' hb => by
      rw [commF_not hg]; exact retSl_nil _ _ _ hb
    go_enter Tryz.func16, Tryz.ntmps16
    go_wp2_with fail
    refine (implIsGroup_any n l a cap _ (HI.out.later ((Below.refl _ _).alloc (Nat.le_refl _) _)) hlen).mono ?_
    rintro e w1 ⟨h2, hb1⟩
    rw [hg] at h2
    subst h2
    have hbel := Below.now ((Below.refl w.heap.size w).alloc (Nat.le_refl _) _) hb1
    clear hb1
    go_wp2_with fail
    go_ret
    exact F.out _ hbel
  obtain ⟨m, ln, rfl, hlm, hG⟩ := groupB_out hg
  have FF : Hid (commF (m : Nat) l = subL m ln (cmL m ln m)) := by rw [hlm] at hg ⊢; exact commF_yes hg
  have HG := Lib.hid hG
  have hm0 := hG.lo
  have hm1 := hG.hi
  have HLM := Lib.hid hlm
  have HLL : Hid (l.length = m * m) := Lib.hid (by rw [hlm, List.length_map]; exact hG.len)
  have HGB : Hid (groupB (m : Nat) l = true) := hg
  clear hG hlm hg
  have HCP := Lib.hid hcap
  clear hcap
  go_enter Tryz.func16, Tryz.ntmps16
  go_wp2_with fail
  refine (implIsGroup_any _ l a cap _ (HI.out.later ((Below.refl _ _).alloc (Nat.le_refl _) _)) hlen).mono ?_
  rintro e w1 ⟨h2, hb1⟩
  rw [HGB.out] at h2
  subst h2
  have x0 := box_later hb1 (i := 0) (v := .int .i64 (m : Nat)) rfl
  have x1 := box_later hb1 (i := 1) (v := .slice a l.length cap) rfl
  have v0 := x0 _ (Below.refl _ _)
  have v1 := x1 _ (Below.refl _ _)
  have hbel := Lib.hid (Below.now ((Below.refl w.heap.size w).alloc (Nat.le_refl _) _) hb1)
  have HN1 : Hid (∀ W, Below w1.heap.size w1 W → NatsIn W a ln) := fun W hW => by unfold NatsIn; rw [← HLM.out]; exact HI.out.later (Below.now hbel.out hW)
  have hb0 := Below.refl w1.heap.size w1
  clear hb1
  go_wp2_with fail
  have HS := Lib.hid (Bld.nil 3 1 hb0)
  have hwlt : w.heap.size < w1.heap.size := by have := World.block_lt_of_cell? _ _ v0; exact this
  clear v0 v1 hb0
  have X0 := Lib.hid x0
  have X1 := Lib.hid x1
  clear x0 x1
  go_loopw [3, 11] (fun v i wr => ∃ x : Nat, x ≤ m ∧ i = .int .i64 x ∧ Bld 3 1 w1 wr v (cmL m ln x).length (ivs (cmL m ln x))) (fun _ i _ => m - (intOf i).toNat)
  case atStart => exact ⟨0, Nat.zero_le _, rfl, HS.out⟩
  case round =>
    clear HS
    obtain ⟨x, hxm, rfl, hb⟩ := hrel
    have HB := Lib.hid hb
    have r0 := X0.out _ hb.2
    have r1 := X1.out _ hb.2
    clear hb
    by_cases hx : x < m
    · go_wp2_with fail
      have hB0 := HB.out
      rw [show cmL m ln x = cmL m ln x ++ cmRow m ln x 0 by rw [cmRow_zero, List.append_nil]] at hB0
      have HB0 := Lib.hid hB0
      clear HB r0 r1 hB0
      go_loopw [3, 16] (fun v i wr => ∃ y : Nat, y ≤ m ∧ i = .int .i64 y ∧ Bld 3 1 w1 wr v (cmL m ln x ++ cmRow m ln x y).length (ivs (cmL m ln x ++ cmRow m ln x y))) (fun _ i _ => m - (intOf i).toNat)
      case atStart => exact ⟨0, Nat.zero_le _, rfl, HB0.out⟩
      case round =>
        clear HB0
        obtain ⟨y, hym, rfl, hb⟩ := hrel
        have hqn : (cmL m ln x ++ cmRow m ln x y).length ≤ 1640 := by
          rw [List.length_append, cmL_len, cmRow_len]
          have := mul_le hm1 hx
          omega
        have HB := Lib.hid hb
        have hbw := Lib.hid hb.2
        have r0 := X0.out _ hb.2
        have r1 := X1.out _ hb.2
        have HS2 : Hid (cmL m ln x ++ cmRow m ln x (y + 1) = (cmL m ln x ++ cmRow m ln x y) ++ [cmV m ln x y]) := Lib.hid (by rw [cmRow_succ, List.append_assoc])
        have HS3 : Hid (y = m → cmL m ln (x + 1) = cmL m ln x ++ cmRow m ln x y) := Lib.hid (fun h => by rw [cmL_succ, h])
        clear hb
        generalize cmL m ln x ++ cmRow m ln x y = q at *
        by_cases hy : y < m
        · obtain ⟨i1, _, _, i4⟩ := HG.out.invN_spec hy
          have HE : Hid (invF m ln y = ((invN m ln y : Nat) : Int)) := Lib.hid i4
          have hcv := HG.out.cj_lt hx hy
          obtain ⟨oa, oc, rfl⟩ := owns_form HB.out.1
          have hne : (Value.slice oa q.length oc).ownBlock ≠ some w.heap.size := fun e => by have := (HB.out.1.lt _ e).1; omega
          have HC1 : Hid (q.length + 1 ≤ maxLen) := Lib.hid (by unfold maxLen; omega)
          have HC2 : Hid ((q.length + 1) * 8 ≤ 140737488355328) := Lib.hid (by omega)
          have hone : ∀ s : Int, ∀ u ∈ [Value.int .i64 s], u.oneCell' = true := fun s u hu => by rw [List.mem_singleton.1 hu]; rfl
          have kr := Below.refl wr.heap.size wr
          clear i4
          go_wp2_with fail
          go_region_held3 (fun w' => w'.cell? ⟨w.heap.size, 0, none⟩ = some (.int .i64 (m : Nat)) ∧ w'.cell? ⟨w.heap.size, 1, none⟩ = some (.slice a l.length cap)) (go_keep) (first
            | (go_at_call 46; refine (conjugate_any m ln a _ _ x y _ (HN1.out _ (Below.now hbw.out (by repeat (first | exact kr | refine Below.drew ?_ | refine below_drewN ?_ _)))) HG.out HLL.out HCP.out hx hy).mono ?_; rintro e w2 ⟨rfl, hb2⟩; replace kr : Below wr.heap.size wr w2 := Below.now (by repeat (first | exact kr | refine Below.drew ?_ | refine below_drewN ?_ _)) hb2; have s0 : w2.cell? ⟨w.heap.size, 0, none⟩ = some (.int .i64 (m : Nat)) := X0.out _ (Below.now hbw.out kr); have s1 : w2.cell? ⟨w.heap.size, 1, none⟩ = some (.slice a l.length cap) := X1.out _ (Below.now hbw.out kr); clear hb2)
            | (go_at_call 43; refine (inverse_any m ln a _ _ y _ (HN1.out _ (Below.now hbw.out (by repeat (first | exact kr | refine Below.drew ?_ | refine below_drewN ?_ _)))) HG.out HLL.out HCP.out.1 HCP.out.2 hy).mono ?_; rintro e w2 ⟨h2, hb2⟩; rw [HE.out] at h2; subst h2; replace kr : Below wr.heap.size wr w2 := Below.now (by repeat (first | exact kr | refine Below.drew ?_ | refine below_drewN ?_ _)) hb2; have s0 : w2.cell? ⟨w.heap.size, 0, none⟩ = some (.int .i64 (m : Nat)) := X0.out _ (Below.now hbw.out kr); have s1 : w2.cell? ⟨w.heap.size, 1, none⟩ = some (.slice a l.length cap) := X1.out _ (Below.now hbw.out kr); clear hb2)
            | (go_at_call 42; refine (implTimes_any m ln a _ _ _ _ _ (HN1.out _ (Below.now hbw.out (by repeat (first | exact kr | refine Below.drew ?_ | refine below_drewN ?_ _)))) HG.out.toTb HLL.out (by assumption) (by assumption)).mono ?_; rintro e w2 ⟨rfl, hb2⟩; replace kr : Below wr.heap.size wr w2 := Below.now (by repeat (first | exact kr | refine Below.drew ?_ | refine below_drewN ?_ _)) hb2; have s0 : w2.cell? ⟨w.heap.size, 0, none⟩ = some (.int .i64 (m : Nat)) := X0.out _ (Below.now hbw.out kr); have s1 : w2.cell? ⟨w.heap.size, 1, none⟩ = some (.slice a l.length cap) := X1.out _ (Below.now hbw.out kr); clear hb2)
            | (refine step_app1g rfl _ _ (by rfl) Tryz.underlying23 Tryz.infoInt rfl (by decide) (by rfl) (HB.out.later kr) (by rfl) rfl (hone _) HC1.out HC2.out ?_; intro v2 w4 hb4 hgr; have t0 : w4.cell? ⟨w.heap.size, 0, none⟩ = some (.int .i64 (m : Nat)) := far_cell hgr (X0.out _ (Below.now hbw.out kr)) hne; have t1 : w4.cell? ⟨w.heap.size, 1, none⟩ = some (.slice a l.length cap) := far_cell hgr (X1.out _ (Below.now hbw.out kr)) hne; clear hgr))
          all_goals
            have F4 : Hid (Bld 3 1 w1 w4 v2 (cmL m ln x ++ cmRow m ln x (y + 1)).length (ivs (cmL m ln x ++ cmRow m ln x (y + 1)))) := by
              rw [HS2.out, ivs_app, List.length_append]; exact hb4
            clear hb4 hne hone kr
            go_wp2_with fail
            go_roundw
            case rel => exact ⟨y + 1, by omega, by go_num, F4.out⟩
            case measure => simp [intOf]; omega
        · have F5 := Lib.hid (HS3.out (by omega))
          go_wp2_with fail
          go_roundw
          case rel => exact ⟨x + 1, by omega, by go_num, by rw [F5.out]; exact HB.out⟩
          case measure => simp [intOf]; omega
    · obtain rfl : x = m := by omega
      have hq1 := cmL_len x ln x
      have hq2 : x * x ≤ 1600 := sq_le hm1
      have hq3 : 1 ≤ x * x := Nat.mul_le_mul hm0 hm0
      obtain ⟨oa, oc, rfl⟩ := owns_form HB.out.1
      have HC : Hid (∀ W, Below w1.heap.size w1 W → IntsIn W oa ((cmL x ln x).map Int.ofNat) → Calls Tryz.prog 47 #[.slice oa (cmL x ln x).length oc] W (RetSl 3 1 (cmN x ln).length (ivs (cmN x ln)) W)) := fun W hW hI => by
        have := collected_any ((cmL x ln x).map Int.ofNat) oa oc W hI (by rw [List.length_map]; omega) (by rw [List.length_map]; omega)
        rw [cm_coll HG.out, List.length_map, List.length_map] at this
        exact this
      have HIn := Lib.hid (owns_ints (l := (cmL x ln x).map Int.ofNat) HB.out.1)
      have hbw := Lib.hid HB.out.2
      have HNl : Hid ((cmN x ln).length ≤ 2 ^ 47) := Lib.hid (by unfold cmN; exact Nat.le_trans (List.length_filter_le _ _) (by simp; omega))
      have HNm : Hid (∀ v ∈ cmN x ln, v < x) := Lib.hid (fun v hv => cmL_lt HG.out v ((cmN_mem HG.out v).1 hv))
      have FS := Lib.hid (comm_same HG.out)
      have kr := Below.refl wr.heap.size wr
      clear hq1 hq2 hq3 HB
      go_wp2_with fail
      go_region_held3 (fun w' => w'.cell? ⟨w.heap.size, 0, none⟩ = some (.int .i64 (x : Nat)) ∧ w'.cell? ⟨w.heap.size, 1, none⟩ = some (.slice a l.length cap)) (go_keep) (first
        | (go_at_call 47; refine (HC.out _ (Below.now hbw.out (by repeat (first | exact kr | refine Below.drew ?_ | refine below_drewN ?_ _))) (HIn.out.later (by repeat (first | exact kr | refine Below.drew ?_ | refine below_drewN ?_ _)))).mono ?_; rintro e w2 ⟨a2, c2, rfl, ho2, hb2⟩; replace kr : Below wr.heap.size wr w2 := Below.now (by repeat (first | exact kr | refine Below.drew ?_ | refine below_drewN ?_ _)) hb2; have HN2 : Hid (NatsIn w2 a2 (cmN x ln)) := Lib.hid (owns_ints (l := (cmN x ln).map Int.ofNat) ho2); have s0 : w2.cell? ⟨w.heap.size, 0, none⟩ = some (.int .i64 (x : Nat)) := X0.out _ (Below.now hbw.out kr); have s1 : w2.cell? ⟨w.heap.size, 1, none⟩ = some (.slice a l.length cap) := X1.out _ (Below.now hbw.out kr); clear hb2 ho2)
        | (go_at_call 38; refine (subgroup_any x ln a _ _ (cmN x ln) a2 c2 _ (HN1.out _ (Below.now hbw.out (by repeat (first | exact kr | refine Below.drew ?_ | refine below_drewN ?_ _)))) HG.out.toTb HLL.out (HN2.out.later (by repeat (first | exact Below.refl _ _ | refine Below.drew ?_ | refine below_drewN ?_ _))) HNm.out HNl.out).mono ?_; rintro e w3 ⟨a3, c3, rfl, ho3, hb3⟩; have F3 : Hid (RetSl 3 1 (commF (x : Nat) l).length (intVals (commF (x : Nat) l)) w (.returned (.slice a3 (subL x ln (cmN x ln)).length c3)) w3) := Lib.hid (by rw [FF.out, ← FS.out]; exact ⟨_, _, rfl, owns_mono ho3 (by have h1 := hbel.out.size; have h2 := hbw.out.size; have h3 := kr.size; simp; omega), Below.now hbel.out (Below.now hbw.out (Below.now (by repeat (first | exact kr | refine Below.drew ?_ | refine below_drewN ?_ _)) hb3))⟩); have s0 : w3.cell? ⟨w.heap.size, 0, none⟩ = some (.int .i64 (x : Nat)) := X0.out _ (Below.now hbw.out (Below.now (by repeat (first | exact kr | refine Below.drew ?_ | refine below_drewN ?_ _)) hb3)); have s1 : w3.cell? ⟨w.heap.size, 1, none⟩ = some (.slice a l.length cap) := X1.out _ (Below.now hbw.out (Below.now (by repeat (first | exact kr | refine Below.drew ?_ | refine below_drewN ?_ _)) hb3)); clear hb3 ho3))
      go_wp2_with fail
      go_ret
      exact F3.out
end Go.Proofs.YtngbimgabcacpaaGreat
namespace Go.Proofs.YtngbimgabcacpaaGreat
open Go.RowKit
set_option linter.unusedVariables false
/-- the place where a number is put in -/
def insKz (v : Int) (l : List Int) : Nat := (l.takeWhile fun x => decide (x ≤ v)).length
def insL (v : Int) (l : List Int) : List Int := l.take (insKz v l) ++ [v] ++ l.drop (insKz v l)
theorem take_insK (v : Int) (l : List Int) : l.take (insKz v l) = l.takeWhile fun x => decide (x ≤ v) := by
  have h := List.takeWhile_append_dropWhile (p := fun x => decide (x ≤ v)) (l := l)
  unfold insKz
  conv => lhs; arg 2; rw [← h]
  rw [List.take_left']; rfl
theorem drop_insK (v : Int) (l : List Int) : l.drop (insKz v l) = l.dropWhile fun x => decide (x ≤ v) := by
  have h := List.takeWhile_append_dropWhile (p := fun x => decide (x ≤ v)) (l := l)
  unfold insKz
  conv => lhs; arg 2; rw [← h]
  rw [List.drop_left']; rfl
theorem dropWhile_gt (v : Int) : ∀ l : List Int, l.Pairwise (· ≤ ·) → ∀ x ∈ l.dropWhile (fun x => decide (x ≤ v)), v < x
  | [], _, x, hx => by simp at hx
  | a :: l, h, x, hx => by
    rw [List.pairwise_cons] at h
    rw [List.dropWhile_cons] at hx
    by_cases ha : a ≤ v
    · rw [if_pos (by simpa using ha)] at hx
      exact dropWhile_gt v l h.2 x hx
    · rw [if_neg (by simpa using ha)] at hx
      rcases List.mem_cons.1 hx with rfl | hx
      · omega
      · have := h.1 x hx; omega
theorem takeWhile_le (v : Int) : ∀ l : List Int, ∀ x ∈ l.takeWhile (fun x => decide (x ≤ v)), x ≤ v
  | [], x, hx => by simp at hx
  | a :: l, x, hx => by
    rw [List.takeWhile_cons] at hx
    by_cases ha : a ≤ v
    · rw [if_pos (by simpa using ha)] at hx
      rcases List.mem_cons.1 hx with rfl | hx
      · exact ha
      · exact takeWhile_le v l x hx
    · rw [if_neg (by simpa using ha)] at hx; simp at hx
theorem insL_sorted {v : Int} {l : List Int} (h : l.Pairwise (· ≤ ·)) : (insL v l).Pairwise (· ≤ ·) := by
  unfold insL
  have h1 := take_insK v l
  have h2 := drop_insK v l
  rw [List.append_assoc, List.pairwise_append]
  refine ⟨h.sublist (List.take_sublist _ _), ?_, fun x hx y hy => ?_⟩
  · rw [List.singleton_append, List.pairwise_cons]
    refine ⟨fun y hy => ?_, h.sublist (List.drop_sublist _ _)⟩
    rw [h2] at hy
    have := dropWhile_gt v l h y hy
    omega
  · rw [h1] at hx
    have hx' := takeWhile_le v l x hx
    rcases List.mem_append.1 hy with hy | hy
    · rw [List.mem_singleton.1 hy]; exact hx'
    · rw [h2] at hy
      have := dropWhile_gt v l h y hy
      omega
theorem insL_sort (v : Int) (l : List Int) : insL v (sortL l) = sortL (l ++ [v]) := by
  refine List.Perm.eq_of_pairwise (le := (· ≤ ·)) (fun a b _ _ h1 h2 => Int.le_antisymm h1 h2) (insL_sorted (sortL_le l)) (sortL_le _) ?_
  have p1 : (insL v (sortL l)).Perm (v :: sortL l) := by
    unfold insL
    rw [List.append_assoc, List.singleton_append]
    refine List.perm_middle.trans ?_
    rw [List.take_append_drop]
  have p2 : (sortL l).Perm l := List.mergeSort_perm _ _
  have p3 : (sortL (l ++ [v])).Perm (l ++ [v]) := List.mergeSort_perm _ _
  refine p1.trans (((p2.cons v).trans ?_).trans p3.symm)
  exact (List.perm_append_singleton v l).symm
theorem insK_le (v : Int) (l : List Int) : insKz v l ≤ l.length := by unfold insKz; exact (List.takeWhile_sublist _).length_le
/-- the first k are at most v -/
def leTo (v : Int) (l : List Int) (k : Nat) : Prop := ∀ i, i < k → nthZ l i ≤ v
theorem insK_at {v : Int} : ∀ {l : List Int} {k : Nat}, k ≤ l.length → leTo v l k → (¬ k < l.length ∨ v < nthZ l k) → k = insKz v l
  | [], k, hk, _, _ => by simp at hk; subst hk; rfl
  | a :: l, 0, _, _, h => by
    rcases h with h | h
    · simp at h
    · simp [nthZ] at h
      unfold insKz
      rw [List.takeWhile_cons, if_neg (by simp; omega)]; rfl
  | a :: l, k + 1, hk, hl, h => by
    have ha : a ≤ v := by have := hl 0 (by omega); simpa [nthZ] using this
    have ih := insK_at (v := v) (l := l) (k := k) (by simpa using hk) (fun i hi => by have := hl (i + 1) (by omega); simpa [nthZ] using this) (by simpa [nthZ] using h)
    unfold insKz at ih ⊢
    rw [List.takeWhile_cons, if_pos (by simpa using ha), List.length_cons, ← ih]
theorem listTo_first {f : Nat → Bool} {m : Nat} (hm : 1 ≤ m) (h : f 0 = true) : nthZ (listTo f m) 0 = 0 ∧ 0 < (listTo f m).length := by
  obtain ⟨k, rfl⟩ : ∃ k, m = k + 1 := ⟨m - 1, by omega⟩
  unfold listTo nthZ
  rw [List.range_succ_eq_map, List.filter_cons, if_pos h]
  simp
theorem Grp.cj_zero {m : Nat} {ln : List Nat} (h : Grp m ln) {i : Nat} (hi : i < m) : cj m ln 0 i = i := by
  obtain ⟨k1, k2, _, _⟩ := h.invN_spec h.lo
  rw [h.left _ k1] at k2
  unfold cj
  rw [k2, h.left _ hi, h.right _ hi]
theorem Grp.zero_cj {m : Nat} {ln : List Nat} (h : Grp m ln) {x : Nat} (hx : x < m) : cj m ln x 0 = 0 := by
  unfold cj
  rw [h.right _ hx]
  exact (h.invN_spec hx).2.1
theorem isCj_self {m : Nat} {ln : List Nat} (h : Grp m ln) {i : Nat} (hi : i < m) : isCj m ln i m i = true := by
  unfold isCj
  rw [List.contains_iff_mem]
  unfold cjs
  exact List.mem_map.2 ⟨0, List.mem_range.2 h.lo, by rw [h.cj_zero hi]⟩
theorem conjL_pos {m : Nat} {ln : List Nat} (h : Grp m ln) {i : Nat} (hi : i < m) : 0 < (conjL m ln i).length := by
  refine List.length_pos_of_mem (a := ((i : Nat) : Int)) ?_
  unfold conjL
  exact (listTo_mem _ _ _).2 ⟨i, rfl, hi, isCj_self h hi⟩
theorem conjL_le (m : Nat) (ln : List Nat) (i : Nat) : (conjL m ln i).length ≤ m := listTo_len _ _
/-- an element is the first of its class -/
def isFst (m : Nat) (ln : List Nat) (i : Nat) : Bool := nthZ (conjL m ln i) 0 == ((i : Nat) : Int)
/-- the sizes of the classes whose first elements are below i -/
def szL (m : Nat) (ln : List Nat) (i : Nat) : List Int := ((List.range i).filter (isFst m ln)).map fun i => (((conjL m ln i).length : Nat) : Int)
theorem szL_yes {m : Nat} {ln : List Nat} {i : Nat} (h : isFst m ln i = true) : szL m ln (i + 1) = szL m ln i ++ [(((conjL m ln i).length : Nat) : Int)] := by
  simp [szL, List.range_succ, h]
theorem szL_no {m : Nat} {ln : List Nat} {i : Nat} (h : isFst m ln i = false) : szL m ln (i + 1) = szL m ln i := by
  simp [szL, List.range_succ, h]
theorem sortL_nil : sortL [] = [] := by simp [sortL]
theorem szL_zero (m : Nat) (ln : List Nat) : szL m ln 0 = [] := rfl
theorem szL_len (m : Nat) (ln : List Nat) (i : Nat) : (szL m ln i).length ≤ i := by
  unfold szL
  rw [List.length_map]
  exact Nat.le_trans (List.length_filter_le _ _) (by simp)
theorem szL_pos {m : Nat} {ln : List Nat} (h : Grp m ln) : 0 < (szL m ln m).length := by
  have h0 : isFst m ln 0 = true := by
    unfold isFst conjL
    rw [(listTo_first h.lo (isCj_self h h.lo)).1]; rfl
  unfold szL
  rw [List.length_map]
  exact List.length_pos_of_mem (List.mem_filter.2 ⟨List.mem_range.2 h.lo, h0⟩)
/-- ClassSizes as a function of plain data -/
def clsF (n : Int) (l : List Int) : List Int := if groupB n l = true then sortL (szL n.toNat (l.map Int.toNat) n.toNat) else []
theorem clsF_not {n : Int} {l : List Int} (h : groupB n l = false) : clsF n l = [] := by simp [clsF, h]
theorem clsF_yes {m : Nat} {ln : List Nat} (h : groupB (m : Nat) (ln.map Int.ofNat) = true) : clsF (m : Nat) (ln.map Int.ofNat) = sortL (szL m ln m) := by
  unfold clsF; rw [if_pos h, map_toNat']; rfl
theorem clsF_len (n : Int) (l : List Int) : (clsF n l).length ≤ 1000 := by
  cases h : groupB n l
  · rw [clsF_not h]; simp
  · obtain ⟨m, ln, rfl, rfl, hG⟩ := groupB_out h
    rw [clsF_yes h, sortL_len]
    have := szL_len m ln m
    have := hG.hi
    omega
set_option maxRecDepth 100000 in
set_option maxHeartbeats 4000000 in
theorem implClassSizes_any (n : Int) (l : List Int) (a : Option Addr) (cap : Nat) (w : World) (hl : IntsIn w a l) (hlen : l.length ≤ 2 ^ 47) (hcap : l.length ≤ cap ∧ cap ≤ maxLen) :
    Calls Tryz.prog 28 #[.agg #[.int .i64 n, .slice a l.length cap]] w (RetSl 3 1 (clsF n l).length (intVals (clsF n l)) w) := by
  have HI := Lib.hid hl
  clear hl
  cases hg : groupB n l
  · have F : Hid (∀ w', Below w.heap.size w w' → RetSl 3 1 (clsF n l).length (intVals (clsF n l)) w (.returned (.slice none 0 0)) w') := fun w' hb => by
      rw [clsF_not hg]; exact retSl_nil _ _ _ hb
    go_enter Tryz.func28, Tryz.ntmps28
    go_wp2_with fail
    refine (implIsGroup_any n l a cap _ (HI.out.later ((Below.refl _ _).alloc (Nat.le_refl _) _)) hlen).mono ?_
    rintro e w1 ⟨h2, hb1⟩
    rw [hg] at h2
    subst h2
    have hbel := Below.now ((Below.refl w.heap.size w).alloc (Nat.le_refl _) _) hb1
    clear hb1
    go_wp2_with fail
    go_ret
    exact F.out _ hbel
  obtain ⟨m, ln, rfl, hlm, hG⟩ := groupB_out hg
  have FF : Hid (clsF (m : Nat) l = sortL (szL m ln m)) := by rw [hlm] at hg ⊢; exact clsF_yes hg
  have HG := Lib.hid hG
  have hm0 := hG.lo
  have hm1 := hG.hi
  have HLM := Lib.hid hlm
  have HLL : Hid (l.length = m * m) := Lib.hid (by rw [hlm, List.length_map]; exact hG.len)
  have HGB : Hid (groupB (m : Nat) l = true) := hg
  have HCF : Hid (∀ c : Nat, c < m → conjF (m : Nat) l (c : Nat) = conjL m ln c) := Lib.hid (fun c hc => by
    have h1 := invOk_yes hg (show inB ((c : Nat) : Int) 0 (((m : Nat) : Int) - 1) = true by simp [inB]; omega)
    rw [hlm] at h1 ⊢
    exact conjF_yes h1)
  clear hG hlm hg
  have HCP := Lib.hid hcap
  clear hcap
  go_enter Tryz.func28, Tryz.ntmps28
  go_wp2_with fail
  refine (implIsGroup_any _ l a cap _ (HI.out.later ((Below.refl _ _).alloc (Nat.le_refl _) _)) hlen).mono ?_
  rintro e w1 ⟨h2, hb1⟩
  rw [HGB.out] at h2
  subst h2
  have x0 := box_later hb1 (i := 0) (v := .int .i64 (m : Nat)) rfl
  have x1 := box_later hb1 (i := 1) (v := .slice a l.length cap) rfl
  have v0 := x0 _ (Below.refl _ _)
  have hbel := Lib.hid (Below.now ((Below.refl w.heap.size w).alloc (Nat.le_refl _) _) hb1)
  have HN1 : Hid (∀ W, Below w1.heap.size w1 W → NatsIn W a ln) := fun W hW => by unfold NatsIn; rw [← HLM.out]; exact HI.out.later (Below.now hbel.out hW)
  have hb0 := Below.refl w1.heap.size w1
  clear hb1
  go_wp2_with fail
  have HS := Lib.hid (Bld.nil 3 1 hb0)
  clear v0 hb0
  have X0 := Lib.hid x0
  have X1 := Lib.hid x1
  clear x0 x1
  go_loopw [3, 11] (fun v i wr => ∃ c : Nat, c ≤ m ∧ i = .int .i64 c ∧ Bld 3 1 w1 wr v (szL m ln c).length (intVals (szL m ln c))) (fun _ i _ => m - (intOf i).toNat)
  case atStart => exact ⟨0, Nat.zero_le _, rfl, HS.out⟩
  case round =>
    clear HS
    obtain ⟨c, hcm, rfl, hb⟩ := hrel
    have hsl := szL_len m ln c
    have HB := Lib.hid hb
    have r0 := X0.out _ hb.2
    have r1 := X1.out _ hb.2
    clear hb
    by_cases hlt : c < m
    · have HC := Lib.hid (conjugates_any m ln a l.length cap c wr (HN1.out _ HB.out.2) HG.out HLL.out HCP.out hlt)
      have hcp := conjL_pos HG.out hlt
      have hcl := conjL_le m ln c
      have HY := Lib.hid (@szL_yes m ln c)
      have HNo := Lib.hid (@szL_no m ln c)
      have HF : Hid (isFst m ln c = (nthZ (conjL m ln c) 0 == ((c : Nat) : Int))) := Lib.hid rfl
      generalize conjL m ln c = k at *
      go_wp2_with fail
      refine HC.out.mono ?_
      rintro e w2 ⟨a2, c2, rfl, ho2, hb2⟩
      obtain ⟨g2, c2', hv⟩ := owns_some ho2 hcp
      simp only [Value.slice.injEq] at hv
      obtain ⟨rfl, _, rfl⟩ := hv
      have hc0 : w2.cell? ⟨g2, 0, none⟩ = some (.int .i64 (nthZ k 0)) := by
        rw [World.ownsRow.cellAt ho2 0 (by omega), nthZ_lt hcp]
        simp [intVals, hcp]
      have HB2 := Lib.hid (HB.out.later hb2)
      clear ho2 hb2 HC HB r0 r1
      cases hf : (nthZ k 0 == ((c : Nat) : Int))
      · have F := Lib.hid (HNo.out (HF.out.trans hf))
        go_wp2_with fail
        go_roundw
        case rel => exact ⟨c + 1, by omega, by go_num, by rw [F.out]; exact HB2.out⟩
        case measure => simp [intOf]; omega
      · have F := Lib.hid (HY.out (HF.out.trans hf))
        go_wp2_with (at_builtin; refine wpList_app1 rfl _ _ rfl Tryz.underlying23 Tryz.infoInt rfl (by decide) rfl HB2.out rfl rfl ?c1 ?c2 ?c3 ?c4)
        case c1 => simp [Value.oneCell']
        case c2 => unfold maxLen; omega
        case c3 => omega
        intro v3 w3 hb3
        have F3 : Hid (Bld 3 1 w1 w3 v3 (szL m ln (c + 1)).length (intVals (szL m ln (c + 1)))) := by
          rw [F.out, List.length_append]; unfold intVals at *; rw [List.map_append]; exact hb3
        clear hb3
        go_wp2_with fail
        go_roundw
        case rel => exact ⟨c + 1, by omega, by go_num, F3.out⟩
        case measure => simp [intOf]; omega
    · obtain rfl : c = m := by omega
      have hps := szL_pos HG.out
      obtain ⟨g, oc, rfl⟩ := owns_some HB.out.1 hps
      have HS := Lib.hid (sortOwn_any (szL c ln c) _ g oc wr HB.out.1 (by omega))
      go_wp2_with fail
      refine HS.out.mono ?_
      rintro e w2 ⟨rfl, ho2, hg2⟩
      have F2 : Hid (RetSl 3 1 (clsF (c : Nat) l).length (intVals (clsF (c : Nat) l)) w (.returned (.slice (some ⟨g, 0, none⟩) (szL c ln c).length oc)) w2) := by
        rw [FF.out, sortL_len]
        have hb2 : Below w1.heap.size w1 w2 := below_of_grown HB.out.2 hg2 (fun k hk => by obtain rfl := Option.some.inj hk; exact (HB.out.1.lt g rfl).1)
        exact ⟨_, _, rfl, owns_mono ho2 hbel.out.size, Below.now hbel.out hb2⟩
      clear ho2 hg2 r0 r1 HS HB
      go_wp2_with fail
      go_ret
      exact F2.out
end Go.Proofs.YtngbimgabcacpaaGreat
