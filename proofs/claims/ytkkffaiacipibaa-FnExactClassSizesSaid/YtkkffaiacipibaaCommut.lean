/-
  CommutatorsOf.
-/
import Derived.Test.YtkkffaiacipibaaNormal
import Derived.Test.YtkkffaiacipibaaStructs
import Derived.Deep.RegionHeld3
namespace Go.Proofs.Ytkkffaiacipibaa
open Go.RowKit
set_option linter.unusedVariables false
def cmV (m : Nat) (ln : List Nat) (x y : Nat) : Nat := tm m ln (cj m ln x y) (invN m ln y)
def cmRow (m : Nat) (ln : List Nat) (x k : Nat) : List Nat := (List.range k).map (cmV m ln x)
def cmL (m : Nat) (ln : List Nat) (x : Nat) : List Nat := (List.range x).flatMap fun x => cmRow m ln x m
theorem cmRow_succ (m : Nat) (ln : List Nat) (x k : Nat) : cmRow m ln x (k + 1) = cmRow m ln x k ++ [cmV m ln x k] := by simp [cmRow, List.range_succ]
theorem cmRow_zero (m : Nat) (ln : List Nat) (x : Nat) : cmRow m ln x 0 = [] := rfl
theorem cmL_succ (m : Nat) (ln : List Nat) (x : Nat) : cmL m ln (x + 1) = cmL m ln x ++ cmRow m ln x m := by simp [cmL, List.range_succ, List.flatMap_append]
theorem cmL_zero (m : Nat) (ln : List Nat) : cmL m ln 0 = [] := rfl
theorem cmRow_len (m : Nat) (ln : List Nat) (x k : Nat) : (cmRow m ln x k).length = k := by simp [cmRow]
theorem cmL_len (m : Nat) (ln : List Nat) : ∀ x, (cmL m ln x).length = x * m
  | 0 => by simp [cmL_zero]
  | x + 1 => by rw [cmL_succ, List.length_append, cmL_len m ln x, cmRow_len, Nat.add_mul]; omega
theorem Grp.cmV_lt {m : Nat} {ln : List Nat} (h : Grp m ln) {x y : Nat} (hx : x < m) (hy : y < m) : cmV m ln x y < m := h.tm_lt (h.cj_lt hx hy) (h.invN_spec hy).1
theorem cmL_lt {m : Nat} {ln : List Nat} (h : Grp m ln) : ∀ v ∈ cmL m ln m, v < m := by
  intro v hv
  unfold cmL at hv
  obtain ⟨x, hx, hv⟩ := List.mem_flatMap.1 hv
  unfold cmRow at hv
  obtain ⟨y, hy, rfl⟩ := List.mem_map.1 hv
  exact h.cmV_lt (List.mem_range.1 hx) (List.mem_range.1 hy)
/-- the commutators, in ascending order -/
def cmN (m : Nat) (ln : List Nat) : List Nat := (List.range m).filter fun j => (cmL m ln m).contains j
theorem cmN_mem {m : Nat} {ln : List Nat} (h : Grp m ln) (v : Nat) : v ∈ cmN m ln ↔ v ∈ cmL m ln m := by
  unfold cmN
  rw [List.mem_filter, List.contains_iff_mem, List.mem_range]
  exact ⟨fun h => h.2, fun hv => ⟨cmL_lt h v hv, hv⟩⟩
theorem cm_coll {m : Nat} {ln : List Nat} (h : Grp m ln) : collL ((cmL m ln m).map Int.ofNat) = (cmN m ln).map Int.ofNat := by
  refine collL_eq (m := m) (f := fun j => (cmL m ln m).contains j) (fun x hx => ?_) (fun j hj => by rw [List.contains_iff_mem]; exact (mem_ofNat _ _).symm)
  obtain ⟨y, hy, rfl⟩ := List.mem_map.1 hx
  exact ⟨y, rfl, cmL_lt h y hy⟩
theorem inSub_same {m : Nat} {ln z z' : List Nat} (hT : Tb m ln) (hz : ∀ x ∈ z, x < m) (hz' : ∀ x ∈ z', x < m) (h : ∀ x, x ∈ z ↔ x ∈ z') : inSub m ln z = inSub m ln z' := by
  funext j
  unfold inSub
  rw [Bool.eq_iff_iff, List.contains_iff_mem, List.contains_iff_mem, subQ_mem hT hz, subQ_mem hT hz']
  exact ⟨Reach.mono fun x hx => (h x).1 hx, Reach.mono fun x hx => (h x).2 hx⟩
theorem comm_same {m : Nat} {ln : List Nat} (h : Grp m ln) : subL m ln (cmN m ln) = subL m ln (cmL m ln m) := by
  unfold subL
  rw [inSub_same h.toTb (fun x hx => cmL_lt h x ((cmN_mem h x).1 hx)) (cmL_lt h) (cmN_mem h)]
/-- CommutatorsOf as a function of plain data -/
def commF (n : Int) (l : List Int) : List Int := if groupB n l = true then subL n.toNat (l.map Int.toNat) (cmL n.toNat (l.map Int.toNat) n.toNat) else []
theorem commF_not {n : Int} {l : List Int} (h : groupB n l = false) : commF n l = [] := by simp [commF, h]
theorem commF_yes {m : Nat} {ln : List Nat} (h : groupB (m : Nat) (ln.map Int.ofNat) = true) : commF (m : Nat) (ln.map Int.ofNat) = subL m ln (cmL m ln m) := by
  unfold commF; rw [if_pos h, map_toNat']; rfl
theorem commF_len (n : Int) (l : List Int) : (commF n l).length ≤ 1000 := by
  cases h : groupB n l
  · rw [commF_not h]; simp
  · obtain ⟨m, ln, rfl, rfl, hG⟩ := groupB_out h
    rw [commF_yes h, ← subN_len]
    have := subN_le m ln (cmL m ln m)
    have := hG.hi
    omega
set_option maxRecDepth 100000 in
set_option maxHeartbeats 4000000 in
theorem implCommutatorsOf_any (n : Int) (l : List Int) (a : Option Addr) (cap : Nat) (w : World) (hl : IntsIn w a l) (hlen : l.length ≤ 2 ^ 47) (hcap : l.length ≤ cap ∧ cap ≤ maxLen) :
    Calls Try.prog 50 #[.agg #[.int .i64 n, .slice a l.length cap]] w (RetSl 3 1 (commF n l).length (intVals (commF n l)) w) := by
  have HI := Lib.hid hl
  clear hl
  cases hg : groupB n l
  · have F : Hid (∀ w', Below w.heap.size w w' → RetSl 3 1 (commF n l).length (intVals (commF n l)) w (.returned (.slice none 0 0)) w') := fun w' hb => by
      rw [commF_not hg]; exact retSl_nil _ _ _ hb
    go_enter Try.func50, Try.ntmps50
    go_wp2_with fail
    refine (implIsGroup_any n l a cap _ (HI.out.later ((Below.refl _ _).alloc (Nat.le_refl _) _)) hlen).mono ?_
    rintro e w1 ⟨h2, hb1⟩
    rw [hg] at h2
    subst h2
    have hbel := Below.now ((Below.refl w.heap.size w).alloc (Nat.le_refl _) _) hb1
    clear hb1
    go_wp2_with fail
    go_ret
    exact F.out _ hbel
  obtain ⟨m, ln, rfl, hlm, hG⟩ := groupB_out hg
  have FF : Hid (commF (m : Nat) l = subL m ln (cmL m ln m)) := by rw [hlm] at hg ⊢; exact commF_yes hg
  have HG := Lib.hid hG
  have hm0 := hG.lo
  have hm1 := hG.hi
  have HLM := Lib.hid hlm
  have HLL : Hid (l.length = m * m) := Lib.hid (by rw [hlm, List.length_map]; exact hG.len)
  have HGB : Hid (groupB (m : Nat) l = true) := hg
  clear hG hlm hg
  have HCP := Lib.hid hcap
  clear hcap
  go_enter Try.func50, Try.ntmps50
  go_wp2_with fail
  refine (implIsGroup_any _ l a cap _ (HI.out.later ((Below.refl _ _).alloc (Nat.le_refl _) _)) hlen).mono ?_
  rintro e w1 ⟨h2, hb1⟩
  rw [HGB.out] at h2
  subst h2
  have x0 := box_later hb1 (i := 0) (v := .int .i64 (m : Nat)) rfl
  have x1 := box_later hb1 (i := 1) (v := .slice a l.length cap) rfl
  have v0 := x0 _ (Below.refl _ _)
  have v1 := x1 _ (Below.refl _ _)
  have hbel := Lib.hid (Below.now ((Below.refl w.heap.size w).alloc (Nat.le_refl _) _) hb1)
  have HN1 : Hid (∀ W, Below w1.heap.size w1 W → NatsIn W a ln) := fun W hW => by unfold NatsIn; rw [← HLM.out]; exact HI.out.later (Below.now hbel.out hW)
  have hb0 := Below.refl w1.heap.size w1
  clear hb1
  go_wp2_with fail
  have HS := Lib.hid (Bld.nil 3 1 hb0)
  have hwlt : w.heap.size < w1.heap.size := by have := World.block_lt_of_cell? _ _ v0; exact this
  clear v0 v1 hb0
  have X0 := Lib.hid x0
  have X1 := Lib.hid x1
  clear x0 x1
  go_loopw [3, 11] (fun v i wr => ∃ x : Nat, x ≤ m ∧ i = .int .i64 x ∧ Bld 3 1 w1 wr v (cmL m ln x).length (ivs (cmL m ln x))) (fun _ i _ => m - (intOf i).toNat)
  case atStart => exact ⟨0, Nat.zero_le _, rfl, HS.out⟩
  case round =>
    clear HS
    obtain ⟨x, hxm, rfl, hb⟩ := hrel
    have HB := Lib.hid hb
    have r0 := X0.out _ hb.2
    have r1 := X1.out _ hb.2
    clear hb
    by_cases hx : x < m
    · go_wp2_with fail
      have hB0 := HB.out
      rw [show cmL m ln x = cmL m ln x ++ cmRow m ln x 0 by rw [cmRow_zero, List.append_nil]] at hB0
      have HB0 := Lib.hid hB0
      clear HB r0 r1 hB0
      go_loopw [3, 16] (fun v i wr => ∃ y : Nat, y ≤ m ∧ i = .int .i64 y ∧ Bld 3 1 w1 wr v (cmL m ln x ++ cmRow m ln x y).length (ivs (cmL m ln x ++ cmRow m ln x y))) (fun _ i _ => m - (intOf i).toNat)
      case atStart => exact ⟨0, Nat.zero_le _, rfl, HB0.out⟩
      case round =>
        clear HB0
        obtain ⟨y, hym, rfl, hb⟩ := hrel
        have hqn : (cmL m ln x ++ cmRow m ln x y).length ≤ 1640 := by
          rw [List.length_append, cmL_len, cmRow_len]
          have := mul_le hm1 hx
          omega
        have HB := Lib.hid hb
        have hbw := Lib.hid hb.2
        have r0 := X0.out _ hb.2
        have r1 := X1.out _ hb.2
        have HS2 : Hid (cmL m ln x ++ cmRow m ln x (y + 1) = (cmL m ln x ++ cmRow m ln x y) ++ [cmV m ln x y]) := Lib.hid (by rw [cmRow_succ, List.append_assoc])
        have HS3 : Hid (y = m → cmL m ln (x + 1) = cmL m ln x ++ cmRow m ln x y) := Lib.hid (fun h => by rw [cmL_succ, h])
        clear hb
        generalize cmL m ln x ++ cmRow m ln x y = q at *
        by_cases hy : y < m
        · obtain ⟨i1, _, _, i4⟩ := HG.out.invN_spec hy
          have HE : Hid (invF m ln y = ((invN m ln y : Nat) : Int)) := Lib.hid i4
          have hcv := HG.out.cj_lt hx hy
          obtain ⟨oa, oc, rfl⟩ := owns_form HB.out.1
          have hne : (Value.slice oa q.length oc).ownBlock ≠ some w.heap.size := fun e => by have := (HB.out.1.lt _ e).1; omega
          have HC1 : Hid (q.length + 1 ≤ maxLen) := Lib.hid (by unfold maxLen; omega)
          have HC2 : Hid ((q.length + 1) * 8 ≤ 140737488355328) := Lib.hid (by omega)
          have hone : ∀ s : Int, ∀ u ∈ [Value.int .i64 s], u.oneCell' = true := fun s u hu => by rw [List.mem_singleton.1 hu]; rfl
          have kr := Below.refl wr.heap.size wr
          clear i4
          go_wp2_with fail
          go_region_held3 (fun w' => w'.cell? ⟨w.heap.size, 0, none⟩ = some (.int .i64 (m : Nat)) ∧ w'.cell? ⟨w.heap.size, 1, none⟩ = some (.slice a l.length cap)) (go_keep) (first
            | (go_at_call 85; refine (conjugate_any m ln a _ _ x y _ (HN1.out _ (Below.now hbw.out (by repeat (first | exact kr | refine Below.drew ?_ | refine below_drewN ?_ _)))) HG.out HLL.out HCP.out hx hy).mono ?_; rintro e w2 ⟨rfl, hb2⟩; replace kr : Below wr.heap.size wr w2 := Below.now (by repeat (first | exact kr | refine Below.drew ?_ | refine below_drewN ?_ _)) hb2; have s0 : w2.cell? ⟨w.heap.size, 0, none⟩ = some (.int .i64 (m : Nat)) := X0.out _ (Below.now hbw.out kr); have s1 : w2.cell? ⟨w.heap.size, 1, none⟩ = some (.slice a l.length cap) := X1.out _ (Below.now hbw.out kr); clear hb2)
            | (go_at_call 72; refine (inverse_any m ln a _ _ y _ (HN1.out _ (Below.now hbw.out (by repeat (first | exact kr | refine Below.drew ?_ | refine below_drewN ?_ _)))) HG.out HLL.out HCP.out.1 HCP.out.2 hy).mono ?_; rintro e w2 ⟨h2, hb2⟩; rw [HE.out] at h2; subst h2; replace kr : Below wr.heap.size wr w2 := Below.now (by repeat (first | exact kr | refine Below.drew ?_ | refine below_drewN ?_ _)) hb2; have s0 : w2.cell? ⟨w.heap.size, 0, none⟩ = some (.int .i64 (m : Nat)) := X0.out _ (Below.now hbw.out kr); have s1 : w2.cell? ⟨w.heap.size, 1, none⟩ = some (.slice a l.length cap) := X1.out _ (Below.now hbw.out kr); clear hb2)
            | (go_at_call 60; refine (implTimes_any m ln a _ _ _ _ _ (HN1.out _ (Below.now hbw.out (by repeat (first | exact kr | refine Below.drew ?_ | refine below_drewN ?_ _)))) HG.out.toTb HLL.out (by assumption) (by assumption)).mono ?_; rintro e w2 ⟨rfl, hb2⟩; replace kr : Below wr.heap.size wr w2 := Below.now (by repeat (first | exact kr | refine Below.drew ?_ | refine below_drewN ?_ _)) hb2; have s0 : w2.cell? ⟨w.heap.size, 0, none⟩ = some (.int .i64 (m : Nat)) := X0.out _ (Below.now hbw.out kr); have s1 : w2.cell? ⟨w.heap.size, 1, none⟩ = some (.slice a l.length cap) := X1.out _ (Below.now hbw.out kr); clear hb2)
            | (refine step_app1g rfl _ _ (by rfl) Try.underlying22 Try.infoInt rfl (by decide) (by rfl) (HB.out.later kr) (by rfl) rfl (hone _) HC1.out HC2.out ?_; intro v2 w4 hb4 hgr; have t0 : w4.cell? ⟨w.heap.size, 0, none⟩ = some (.int .i64 (m : Nat)) := far_cell hgr (X0.out _ (Below.now hbw.out kr)) hne; have t1 : w4.cell? ⟨w.heap.size, 1, none⟩ = some (.slice a l.length cap) := far_cell hgr (X1.out _ (Below.now hbw.out kr)) hne; clear hgr))
          all_goals
            have F4 : Hid (Bld 3 1 w1 w4 v2 (cmL m ln x ++ cmRow m ln x (y + 1)).length (ivs (cmL m ln x ++ cmRow m ln x (y + 1)))) := by
              rw [HS2.out, ivs_app, List.length_append]; exact hb4
            clear hb4 hne hone kr
            go_wp2_with fail
            go_roundw
            case rel => exact ⟨y + 1, by omega, by go_num, F4.out⟩
            case measure => simp [intOf]; omega
        · have F5 := Lib.hid (HS3.out (by omega))
          go_wp2_with fail
          go_roundw
          case rel => exact ⟨x + 1, by omega, by go_num, by rw [F5.out]; exact HB.out⟩
          case measure => simp [intOf]; omega
    · obtain rfl : x = m := by omega
      have hq1 := cmL_len x ln x
      have hq2 : x * x ≤ 1600 := sq_le hm1
      have hq3 : 1 ≤ x * x := Nat.mul_le_mul hm0 hm0
      obtain ⟨oa, oc, rfl⟩ := owns_form HB.out.1
      have HC : Hid (∀ W, Below w1.heap.size w1 W → IntsIn W oa ((cmL x ln x).map Int.ofNat) → Calls Try.prog 87 #[.slice oa (cmL x ln x).length oc] W (RetSl 3 1 (cmN x ln).length (ivs (cmN x ln)) W)) := fun W hW hI => by
        have := collected_any ((cmL x ln x).map Int.ofNat) oa oc W hI (by rw [List.length_map]; omega) (by rw [List.length_map]; omega)
        rw [cm_coll HG.out, List.length_map, List.length_map] at this
        exact this
      have HIn := Lib.hid (owns_ints (l := (cmL x ln x).map Int.ofNat) HB.out.1)
      have hbw := Lib.hid HB.out.2
      have HNl : Hid ((cmN x ln).length ≤ 2 ^ 47) := Lib.hid (by unfold cmN; exact Nat.le_trans (List.length_filter_le _ _) (by simp; omega))
      have HNm : Hid (∀ v ∈ cmN x ln, v < x) := Lib.hid (fun v hv => cmL_lt HG.out v ((cmN_mem HG.out v).1 hv))
      have FS := Lib.hid (comm_same HG.out)
      have kr := Below.refl wr.heap.size wr
      clear hq1 hq2 hq3 HB
      go_wp2_with fail
      go_region_held3 (fun w' => w'.cell? ⟨w.heap.size, 0, none⟩ = some (.int .i64 (x : Nat)) ∧ w'.cell? ⟨w.heap.size, 1, none⟩ = some (.slice a l.length cap)) (go_keep) (first
        | (go_at_call 87; refine (HC.out _ (Below.now hbw.out (by repeat (first | exact kr | refine Below.drew ?_ | refine below_drewN ?_ _))) (HIn.out.later (by repeat (first | exact kr | refine Below.drew ?_ | refine below_drewN ?_ _)))).mono ?_; rintro e w2 ⟨a2, c2, rfl, ho2, hb2⟩; replace kr : Below wr.heap.size wr w2 := Below.now (by repeat (first | exact kr | refine Below.drew ?_ | refine below_drewN ?_ _)) hb2; have HN2 : Hid (NatsIn w2 a2 (cmN x ln)) := Lib.hid (owns_ints (l := (cmN x ln).map Int.ofNat) ho2); have s0 : w2.cell? ⟨w.heap.size, 0, none⟩ = some (.int .i64 (x : Nat)) := X0.out _ (Below.now hbw.out kr); have s1 : w2.cell? ⟨w.heap.size, 1, none⟩ = some (.slice a l.length cap) := X1.out _ (Below.now hbw.out kr); clear hb2 ho2)
        | (go_at_call 82; refine (subgroup_any x ln a _ _ (cmN x ln) a2 c2 _ (HN1.out _ (Below.now hbw.out (by repeat (first | exact kr | refine Below.drew ?_ | refine below_drewN ?_ _)))) HG.out.toTb HLL.out (HN2.out.later (by repeat (first | exact Below.refl _ _ | refine Below.drew ?_ | refine below_drewN ?_ _))) HNm.out HNl.out).mono ?_; rintro e w3 ⟨a3, c3, rfl, ho3, hb3⟩; have F3 : Hid (RetSl 3 1 (commF (x : Nat) l).length (intVals (commF (x : Nat) l)) w (.returned (.slice a3 (subL x ln (cmN x ln)).length c3)) w3) := Lib.hid (by rw [FF.out, ← FS.out]; exact ⟨_, _, rfl, owns_mono ho3 (by have h1 := hbel.out.size; have h2 := hbw.out.size; have h3 := kr.size; simp; omega), Below.now hbel.out (Below.now hbw.out (Below.now (by repeat (first | exact kr | refine Below.drew ?_ | refine below_drewN ?_ _)) hb3))⟩); have s0 : w3.cell? ⟨w.heap.size, 0, none⟩ = some (.int .i64 (x : Nat)) := X0.out _ (Below.now hbw.out (Below.now (by repeat (first | exact kr | refine Below.drew ?_ | refine below_drewN ?_ _)) hb3)); have s1 : w3.cell? ⟨w.heap.size, 1, none⟩ = some (.slice a l.length cap) := X1.out _ (Below.now hbw.out (Below.now (by repeat (first | exact kr | refine Below.drew ?_ | refine below_drewN ?_ _)) hb3)); clear hb3 ho3))
      go_wp2_with fail
      go_ret
      exact F3.out
set_option maxRecDepth 100000 in
set_option maxHeartbeats 4000000 in
theorem specCommutatorsOf_any (n : Int) (l : List Int) (a : Option Addr) (cap : Nat) (w : World) (hl : IntsIn w a l) (hlen : l.length ≤ 2 ^ 47) :
    Calls Try.prog 49 #[.agg #[.int .i64 n, .slice a l.length cap]] w (RetSl 3 1 (commF n l).length (intVals (commF n l)) w) := by
  have HI := Lib.hid hl
  clear hl
  cases hg : groupB n l
  · have F : Hid (∀ w', Below w.heap.size w w' → RetSl 3 1 (commF n l).length (intVals (commF n l)) w (.returned (.slice none 0 0)) w') := fun w' hb => by
      rw [commF_not hg]; exact retSl_nil _ _ _ hb
    go_enter Try.func49, Try.ntmps49
    go_wp2_with fail
    refine (specIsGroup_any n l a cap _ (HI.out.later ((Below.refl _ _).alloc (Nat.le_refl _) _)) hlen).mono ?_
    rintro e w1 ⟨h2, hb1⟩
    rw [hg] at h2
    subst h2
    have hbel := Below.now ((Below.refl w.heap.size w).alloc (Nat.le_refl _) _) hb1
    clear hb1
    go_wp2_with fail
    go_ret
    exact F.out _ hbel
  obtain ⟨m, ln, rfl, hlm, hG⟩ := groupB_out hg
  have FF : Hid (commF (m : Nat) l = subL m ln (cmL m ln m)) := by rw [hlm] at hg ⊢; exact commF_yes hg
  have HG := Lib.hid hG
  have hm0 := hG.lo
  have hm1 := hG.hi
  have HLM := Lib.hid hlm
  have HLL : Hid (l.length = m * m) := Lib.hid (by rw [hlm, List.length_map]; exact hG.len)
  have HGB : Hid (groupB (m : Nat) l = true) := hg
  clear hG hlm hg
  go_enter Try.func49, Try.ntmps49
  go_wp2_with fail
  refine (specIsGroup_any _ l a cap _ (HI.out.later ((Below.refl _ _).alloc (Nat.le_refl _) _)) hlen).mono ?_
  rintro e w1 ⟨h2, hb1⟩
  rw [HGB.out] at h2
  subst h2
  have x0 := box_later hb1 (i := 0) (v := .int .i64 (m : Nat)) rfl
  have x1 := box_later hb1 (i := 1) (v := .slice a l.length cap) rfl
  have v0 := x0 _ (Below.refl _ _)
  have v1 := x1 _ (Below.refl _ _)
  have hbel := Lib.hid (Below.now ((Below.refl w.heap.size w).alloc (Nat.le_refl _) _) hb1)
  have HN1 : Hid (∀ W, Below w1.heap.size w1 W → NatsIn W a ln) := fun W hW => by unfold NatsIn; rw [← HLM.out]; exact HI.out.later (Below.now hbel.out hW)
  have hb0 := Below.refl w1.heap.size w1
  clear hb1
  go_wp2_with fail
  have HS := Lib.hid (Bld.empty 3 1 w1)
  have hwlt : w.heap.size < w1.heap.size := by have := World.block_lt_of_cell? _ _ v0; exact this
  clear v0 v1 hb0
  have X0 := Lib.hid x0
  have X1 := Lib.hid x1
  clear x0 x1
  go_loopw [3, 4] (fun v i wr => ∃ x : Nat, x ≤ m ∧ i = .int .i64 x ∧ Bld 3 1 w1 wr v (cmL m ln x).length (ivs (cmL m ln x))) (fun _ i _ => m - (intOf i).toNat)
  case atStart => exact ⟨0, Nat.zero_le _, rfl, HS.out⟩
  case round =>
    clear HS
    obtain ⟨x, hxm, rfl, hb⟩ := hrel
    have HB := Lib.hid hb
    have r0 := X0.out _ hb.2
    have r1 := X1.out _ hb.2
    clear hb
    by_cases hx : x < m
    · go_wp2_with fail
      have hB0 := HB.out
      rw [show cmL m ln x = cmL m ln x ++ cmRow m ln x 0 by rw [cmRow_zero, List.append_nil]] at hB0
      have HB0 := Lib.hid hB0
      clear HB r0 r1 hB0
      go_loopw [3, 5] (fun v i wr => ∃ y : Nat, y ≤ m ∧ i = .int .i64 y ∧ Bld 3 1 w1 wr v (cmL m ln x ++ cmRow m ln x y).length (ivs (cmL m ln x ++ cmRow m ln x y))) (fun _ i _ => m - (intOf i).toNat)
      case atStart => exact ⟨0, Nat.zero_le _, rfl, HB0.out⟩
      case round =>
        clear HB0
        obtain ⟨y, hym, rfl, hb⟩ := hrel
        have hqn : (cmL m ln x ++ cmRow m ln x y).length ≤ 1640 := by
          rw [List.length_append, cmL_len, cmRow_len]
          have := mul_le hm1 hx
          omega
        have HB := Lib.hid hb
        have hbw := Lib.hid hb.2
        have r0 := X0.out _ hb.2
        have r1 := X1.out _ hb.2
        have HS2 : Hid (cmL m ln x ++ cmRow m ln x (y + 1) = (cmL m ln x ++ cmRow m ln x y) ++ [cmV m ln x y]) := Lib.hid (by rw [cmRow_succ, List.append_assoc])
        have HS3 : Hid (y = m → cmL m ln (x + 1) = cmL m ln x ++ cmRow m ln x y) := Lib.hid (fun h => by rw [cmL_succ, h])
        clear hb
        generalize cmL m ln x ++ cmRow m ln x y = q at *
        by_cases hy : y < m
        · obtain ⟨i1, _, _, i4⟩ := HG.out.invN_spec hy
          have HE : Hid (invF m ln y = ((invN m ln y : Nat) : Int)) := Lib.hid i4
          have hcv := HG.out.cj_lt hx hy
          obtain ⟨oa, oc, rfl⟩ := owns_form HB.out.1
          have hne : (Value.slice oa q.length oc).ownBlock ≠ some w.heap.size := fun e => by have := (HB.out.1.lt _ e).1; omega
          have HC1 : Hid (q.length + 1 ≤ maxLen) := Lib.hid (by unfold maxLen; omega)
          have HC2 : Hid ((q.length + 1) * 8 ≤ 140737488355328) := Lib.hid (by omega)
          have hone : ∀ s : Int, ∀ u ∈ [Value.int .i64 s], u.oneCell' = true := fun s u hu => by rw [List.mem_singleton.1 hu]; rfl
          have kr := Below.refl wr.heap.size wr
          clear i4
          go_wp2_with fail
          go_region_held3 (fun w' => w'.cell? ⟨w.heap.size, 0, none⟩ = some (.int .i64 (m : Nat)) ∧ w'.cell? ⟨w.heap.size, 1, none⟩ = some (.slice a l.length cap)) (go_keep) (first
            | (go_at_call 77; refine (l10Turn_any m ln a _ _ x y _ (HN1.out _ (Below.now hbw.out (by repeat (first | exact kr | refine Below.drew ?_ | refine below_drewN ?_ _)))) HG.out HLL.out hx hy).mono ?_; rintro e w2 ⟨rfl, hb2⟩; replace kr : Below wr.heap.size wr w2 := Below.now (by repeat (first | exact kr | refine Below.drew ?_ | refine below_drewN ?_ _)) hb2; have s0 : w2.cell? ⟨w.heap.size, 0, none⟩ = some (.int .i64 (m : Nat)) := X0.out _ (Below.now hbw.out kr); have s1 : w2.cell? ⟨w.heap.size, 1, none⟩ = some (.slice a l.length cap) := X1.out _ (Below.now hbw.out kr); clear hb2)
            | (go_at_call 62; refine (l08Inverse_any m ln a _ _ y _ (HN1.out _ (Below.now hbw.out (by repeat (first | exact kr | refine Below.drew ?_ | refine below_drewN ?_ _)))) HG.out.toTb HLL.out hy).mono ?_; rintro e w2 ⟨h2, hb2⟩; rw [HE.out] at h2; subst h2; replace kr : Below wr.heap.size wr w2 := Below.now (by repeat (first | exact kr | refine Below.drew ?_ | refine below_drewN ?_ _)) hb2; have s0 : w2.cell? ⟨w.heap.size, 0, none⟩ = some (.int .i64 (m : Nat)) := X0.out _ (Below.now hbw.out kr); have s1 : w2.cell? ⟨w.heap.size, 1, none⟩ = some (.slice a l.length cap) := X1.out _ (Below.now hbw.out kr); clear hb2)
            | (go_at_call 55; refine (specTimes_any m ln a _ _ _ _ _ (HN1.out _ (Below.now hbw.out (by repeat (first | exact kr | refine Below.drew ?_ | refine below_drewN ?_ _)))) HG.out.toTb HLL.out (by assumption) (by assumption)).mono ?_; rintro e w2 ⟨rfl, hb2⟩; replace kr : Below wr.heap.size wr w2 := Below.now (by repeat (first | exact kr | refine Below.drew ?_ | refine below_drewN ?_ _)) hb2; have s0 : w2.cell? ⟨w.heap.size, 0, none⟩ = some (.int .i64 (m : Nat)) := X0.out _ (Below.now hbw.out kr); have s1 : w2.cell? ⟨w.heap.size, 1, none⟩ = some (.slice a l.length cap) := X1.out _ (Below.now hbw.out kr); clear hb2)
            | (refine step_app1g rfl _ _ (by rfl) Try.underlying22 Try.infoInt rfl (by decide) (by rfl) (HB.out.later kr) (by rfl) rfl (hone _) HC1.out HC2.out ?_; intro v2 w4 hb4 hgr; have t0 : w4.cell? ⟨w.heap.size, 0, none⟩ = some (.int .i64 (m : Nat)) := far_cell hgr (X0.out _ (Below.now hbw.out kr)) hne; have t1 : w4.cell? ⟨w.heap.size, 1, none⟩ = some (.slice a l.length cap) := far_cell hgr (X1.out _ (Below.now hbw.out kr)) hne; clear hgr))
          all_goals
            have F4 : Hid (Bld 3 1 w1 w4 v2 (cmL m ln x ++ cmRow m ln x (y + 1)).length (ivs (cmL m ln x ++ cmRow m ln x (y + 1)))) := by
              rw [HS2.out, ivs_app, List.length_append]; exact hb4
            clear hb4 hne hone kr
            go_wp2_with fail
            go_roundw
            case rel => exact ⟨y + 1, by omega, by go_num, F4.out⟩
            case measure => simp [intOf]; omega
        · have F5 := Lib.hid (HS3.out (by omega))
          go_wp2_with fail
          go_roundw
          case rel => exact ⟨x + 1, by omega, by go_num, by rw [F5.out]; exact HB.out⟩
          case measure => simp [intOf]; omega
    · obtain rfl : x = m := by omega
      have hq1 := cmL_len x ln x
      have hq2 : x * x ≤ 1600 := sq_le hm1
      obtain ⟨oa, oc, rfl⟩ := owns_form HB.out.1
      have HIn : Hid (NatsIn wr oa (cmL x ln x)) := Lib.hid (owns_ints (l := (cmL x ln x).map Int.ofNat) HB.out.1)
      have hbw := Lib.hid HB.out.2
      have HCm := Lib.hid (cmL_lt HG.out)
      have HLn : Hid ((cmL x ln x).length ≤ 2 ^ 47) := Lib.hid (by omega)
      have HC := Lib.hid (l10Sub_any x ln a l.length cap (cmL x ln x) oa oc wr (HN1.out _ hbw.out) HG.out.toTb HLL.out HIn.out HCm.out HLn.out)
      clear hq1 hq2 HB
      go_wp2_with fail
      refine HC.out.mono ?_
      rintro e w2 ⟨g, rfl, hr2, hb2⟩
      have HR2 := Lib.hid hr2
      have HB2 := Lib.hid (Below.now hbel.out (Below.now hbw.out hb2))
      clear hr2 hb2 r0 r1
      go_wp2_with fail
      refine (l09List_any x g _ _ _ HR2.out (by omega)).mono ?_
      rintro e w9 ⟨a9, c9, rfl, ho, hb9⟩
      have F9 : Hid (RetSl 3 1 (commF (x : Nat) l).length (intVals (commF (x : Nat) l)) w (.returned (.slice a9 (listTo (inSub x ln (cmL x ln x)) x).length c9)) w9) := by
        rw [FF.out]; exact ⟨_, _, rfl, owns_mono ho HB2.out.size, Below.now HB2.out hb9⟩
      clear ho hb9
      go_wp2_with fail
      go_ret
      exact F9.out
end Go.Proofs.Ytkkffaiacipibaa
