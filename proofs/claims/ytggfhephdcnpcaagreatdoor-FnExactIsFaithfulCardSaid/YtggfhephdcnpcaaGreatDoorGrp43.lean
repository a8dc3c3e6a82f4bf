/-
  IsFaithful, of the reference and of the program.
-/
import Derived.Test.YtggfhephdcnpcaaGreatDoorGrp03
import Derived.Test.YtggfhephdcnpcaaGreatDoorGrp08
import Derived.Test.YtggfhephdcnpcaaGreatDoorGrp07
import Derived.Test.YtggfhephdcnpcaaGreatDoorGrp02
import Derived.Sort.OwnSortedInts
import Derived.Test.YtggfhephdcnpcaaGreatDoorGrp12
import Derived.Test.YtggfhephdcnpcaaGreatDoorGrp38
import Derived.Test.YtggfhephdcnpcaaGreatDoorGrp42
import Derived.Deep.RegionHeld3
namespace Go.Proofs.YtggfhephdcnpcaaGreatDoor
open Go.RowKit Go.Sort
set_option linter.unusedVariables false
theorem owns_block_of {w : World} {base g cap n : Nat} {T : TypeId} {xs : List Value} (h : w.ownsRow base T 1 (.slice (some ⟨g, 0, none⟩) n cap) n xs) : ∃ cur, base ≤ g ∧ w.heap[g]? = some (.cells cur T (0, 0)) ∧ n ≤ cap ∧ cap ≤ maxLen ∧ cur.size = cap * 1 ∧ cur.toList.take n = xs := by
  rcases h.2 with ⟨hv, _⟩ | ⟨g', cap', cur, hv, hb, hg, hn, hc, hs, ht⟩
  · cases hv
  · simp only [Value.slice.injEq, Option.some.injEq, Addr.mk.injEq, and_true, true_and] at hv
    obtain ⟨rfl, rfl⟩ := hv
    exact ⟨cur, hb, hg, hn, hc, hs, by simpa using ht⟩
theorem owns_shrink {w : World} {base g cap n k : Nat} {T : TypeId} {xs : List Value} (h : w.ownsRow base T 1 (.slice (some ⟨g, 0, none⟩) n cap) n xs) (hk : k ≤ n) : w.ownsRow base T 1 (.slice (some ⟨g, 0, none⟩) k cap) k (xs.take k) := by
  have hl := h.1
  obtain ⟨cur, h1, h2, h3, h4, h5, h6⟩ := owns_block_of h
  refine ⟨by rw [List.length_take]; omega, .inr ⟨g, cap, cur, rfl, h1, h2, by omega, h4, h5, ?_⟩⟩
  rw [← h6, List.take_take]
  congr 1; omega
theorem grow_none (w : World) : grow w #[] = w := by simp [grow]
theorem sortOwn_any (l : List Int) (base g cap : Nat) (w : World) (h : w.ownsRow base 3 1 (.slice (some ⟨g, 0, none⟩) l.length cap) l.length (intVals l)) (hlen : l.length ≤ 2 ^ 47) :
    Calls Tryz.prog 122 #[.slice (some ⟨g, 0, none⟩) l.length cap] w fun e w' => e = .returned (.tuple #[]) ∧ w'.ownsRow base 3 1 (.slice (some ⟨g, 0, none⟩) l.length cap) l.length (intVals (sortL l)) ∧ w.grownBy w' (some g) := by
  obtain ⟨cur, h1, h2, h3, h4, h5, h6⟩ := owns_block_of h
  refine (Tryz.slices_Sort_int g 0 cap l w (holds_of_blockI h2 h6) (Array.getElem?_eq_some_iff.1 h2).1 (by omega)).mono ?_
  rintro e w' ⟨rfl, n, os, rfl⟩
  exact ⟨rfl, ownsRow_sortedI (by simp) h1 h2 h3 h4 h5, grownBy_sortedI _⟩
theorem compactOwn_any (l : List Int) (base g cap : Nat) (w : World) (h : w.ownsRow base 3 1 (.slice (some ⟨g, 0, none⟩) l.length cap) l.length (intVals l)) (hlen : l.length ≤ 2 ^ 47) :
    Calls Tryz.prog 123 #[.slice (some ⟨g, 0, none⟩) l.length cap] w fun e w' => e = .returned (.slice (some ⟨g, 0, none⟩) (Lib.compact l).length cap) ∧ w'.ownsRow base 3 1 (.slice (some ⟨g, 0, none⟩) (Lib.compact l).length cap) (Lib.compact l).length (intVals (Lib.compact l)) ∧ w.grownBy w' (some g) := by
  obtain ⟨cur, h1, h2, h3, h4, h5, h6⟩ := owns_block_of h
  have hle : (Lib.compact l).length ≤ l.length := by
    unfold Lib.compact Lib.compactUpTo
    rw [List.length_map]
    exact Nat.le_trans (List.length_filter_le _ _) (by simp)
  refine (Tryz.slices_Compact_int g 0 cap l w (holds_of_blockI h2 h6) (by omega) h3).mono ?_
  rintro e w' ⟨rfl, q, rfl⟩
  have k1 := ownsRow_sortedI (n := q) (os := #[]) (ss := l) (ts := Lib.compact l ++ List.replicate (l.length - (Lib.compact l).length) 0) (by simp; omega) h1 h2 h3 h4 h5
  have k2 := grownBy_sortedI (w := w) (g := g) (n := q) (os := #[]) (Lib.compact l ++ List.replicate (l.length - (Lib.compact l).length) 0).toArray
  rw [grow_none] at k1 k2
  refine ⟨rfl, ?_, k2⟩
  have k3 := owns_shrink k1 hle
  rw [List.map_append, List.take_left' (by simp)] at k3
  exact k3
set_option maxHeartbeats 800000 in
theorem collected_any (l : List Int) (a : Option Addr) (cap : Nat) (w : World) (hl : IntsIn w a l) (h0 : 0 < l.length) (hlen : l.length ≤ 1000000) :
    Calls Tryz.prog 65 #[.slice a l.length cap] w (RetSl 3 1 (collL l).length (intVals (collL l)) w) := by
  have HC : Hid (∀ W, Below w.heap.size w W → Calls Tryz.prog 121 #[.slice a l.length cap] W fun e W' => ∃ v', e = .returned v' ∧ W'.ownsRow W.heap.size 3 1 v' l.length (intVals l) ∧ v' ≠ .slice none 0 0 ∧ Below W.heap.size W W') := fun W hW => by
    obtain ⟨b, off, rfl, _, hc⟩ := (hl.later hW).cell h0
    have := Tryz.slices_Clone_int b off l.length cap l W (Nat.le_refl _) (by omega) (fun j hj => by have := hc j hj; unfold nthZ at this; exact this)
    rw [List.take_length] at this
    exact this
  clear hl
  go_enter Tryz.func65, Tryz.ntmps65
  go_wp2_with fail
  refine (HC.out _ (Below.refl _ _)).mono ?_
  rintro e w1 ⟨v1, rfl, ho1, hne, hb1⟩
  obtain ⟨g, cap1, rfl⟩ : ∃ g cap1, v1 = .slice (some ⟨g, 0, none⟩) l.length cap1 := by
    rcases ho1.2 with ⟨hv, _⟩ | ⟨g, cap', cur, hv, _⟩
    · exact absurd hv hne
    · exact ⟨g, cap', hv⟩
  have HO := Lib.hid ho1
  have HB := Lib.hid hb1
  clear ho1 hb1 hne HC
  go_wp2_with fail
  refine (sortOwn_any l _ g cap1 _ HO.out (by omega)).mono ?_
  rintro e w2 ⟨rfl, ho2, hg2⟩
  have HO2 : Hid (w2.ownsRow w.heap.size 3 1 (.slice (some ⟨g, 0, none⟩) (sortL l).length cap1) (sortL l).length (intVals (sortL l))) := by rw [sortL_len]; exact ho2
  have HB2 : Hid (Below w.heap.size w w2) := HB.out.grown hg2 HB.out.size (fun k hk => (HO.out.lt k hk).1)
  clear ho2 hg2
  go_wp2_with fail
  have hC := compactOwn_any (sortL l) _ g cap1 w2 HO2.out (by rw [sortL_len]; omega)
  rw [sortL_len] at hC
  refine hC.mono ?_
  rintro e w3 ⟨rfl, ho3, hg3⟩
  have HB3 : Hid (Below w.heap.size w w3) := HB2.out.grown hg3 HB2.out.size (fun k hk => (HO2.out.lt k hk).1)
  have HO3 := Lib.hid ho3
  clear ho3 hg3 hC
  go_wp2_with fail
  go_ret
  exact ⟨_, _, rfl, HO3.out, HB3.out⟩
end Go.Proofs.YtggfhephdcnpcaaGreatDoor
namespace Go.Proofs.YtggfhephdcnpcaaGreatDoor
open Go.RowKit
set_option linter.unusedVariables false
/-- the values of words -/
def valsF (m : Nat) (ln zn : List Nat) (L : List ByteArray) : List Int := L.map fun u => ((valF m ln zn u : Nat) : Int)
/-- IsFaithful -/
def faiP (k : Int) (R : List RulD) (n : Int) (l z : List Int) : Prop := ∃ L P, MonIs k R L P true ∧ satP k R n l z ∧ (valsF n.toNat (l.map Int.toNat) (z.map Int.toNat) L).Nodup
/-- a value is among those of the first j words -/
def seenB (m : Nat) (ln zn : List Nat) (L : List ByteArray) (j x : Nat) : Bool := (L.take j).any fun u => decide (valF m ln zn u = x)
section
variable {m : Nat} {ln zn : List Nat} {L : List ByteArray}
theorem seenB_zero (x : Nat) : seenB m ln zn L 0 x = false := by simp [seenB]
theorem seenB_succ {j : Nat} (h : j < L.length) (x : Nat) : (if x = valF m ln zn (nthS L j) then true else seenB m ln zn L j x) = seenB m ln zn L (j + 1) x := by
  unfold seenB
  rw [List.take_succ_eq_append_getElem h, List.any_append, nthS_lt h]
  by_cases hx : x = valF m ln zn L[j]
  · subst hx; simp
  · have : ¬ valF m ln zn L[j] = x := fun e => hx e.symm
    simp [hx, this]
theorem valsF_take {j : Nat} (h : j < L.length) : valsF m ln zn (L.take (j + 1)) = valsF m ln zn (L.take j) ++ [((valF m ln zn (nthS L j) : Nat) : Int)] := by
  unfold valsF
  rw [List.take_succ_eq_append_getElem h, List.map_append, nthS_lt h]
  rfl
theorem vals_new {j : Nat} (h : j < L.length) (hn : (valsF m ln zn (L.take j)).Nodup) (hs : seenB m ln zn L j (valF m ln zn (nthS L j)) = false) : (valsF m ln zn (L.take (j + 1))).Nodup := by
  rw [valsF_take h, List.nodup_append]
  refine ⟨hn, by simp, fun x hx y hy e => ?_⟩
  rw [List.mem_singleton.1 hy] at e
  unfold valsF at hx
  obtain ⟨u, hu, rfl⟩ := List.mem_map.1 hx
  unfold seenB at hs
  rw [List.any_eq_false] at hs
  exact hs u hu (decide_eq_true (by omega))
theorem vals_old {j : Nat} (h : j < L.length) (hs : seenB m ln zn L j (valF m ln zn (nthS L j)) = true) : ¬ (valsF m ln zn L).Nodup := fun hn => by
  have e : valsF m ln zn L = valsF m ln zn (L.take (j + 1)) ++ valsF m ln zn (L.drop (j + 1)) := by unfold valsF; rw [← List.map_append, List.take_append_drop]
  rw [e, valsF_take h, List.append_assoc, List.nodup_append] at hn
  unfold seenB at hs
  obtain ⟨u, hu, hv⟩ := List.any_eq_true.1 hs
  have hv := of_decide_eq_true hv
  refine hn.2.2 _ (List.mem_map.2 ⟨u, hu, rfl⟩) _ (List.mem_append_left _ (List.mem_singleton.2 rfl)) ?_
  rw [hv]
end
theorem MonIs.pos {k : Int} {R : List RulD} {L : List ByteArray} {P : List Int} (h : MonIs k R L P true) : 0 < L.length := by
  rcases h with ⟨_, _, _, h⟩ | ⟨hg, hal, _, _⟩
  · cases h
  · rcases hal with ⟨_, _, h3⟩ | ⟨kn, h, rfl, h2, _, rfl, _, _⟩
    · cases h3
    · rw [outTo_len (sysG_of hg.1.1).ne]
      have := pSum_ge h2 (h + 1) (Nat.le_refl _)
      omega
theorem MonIs.goM {k : Int} {R : List RulD} {L : List ByteArray} {P : List Int} (h : MonIs k R L P true) : GoM k R ∧ MonW k L := by
  rcases h with ⟨_, _, _, h⟩ | ⟨hg, hal, _, _⟩
  · cases h
  · exact ⟨hg, hg.words hal⟩
theorem MonIs.noGo {k : Int} {R : List RulD} {L L' : List ByteArray} {P P' : List Int} (h : MonIs k R L P false) (h' : MonIs k R L' P' true) : False := by
  obtain ⟨_, _, e⟩ := h.uniq h'
  cases e
theorem retP_iff {P P' : Prop} {w w' : World} {e : Ending} (h : P' ↔ P) (r : RetP P w e w') : RetP P' w e w' := by
  obtain ⟨b, hb, he, hw⟩ := r
  exact ⟨b, hb.trans h.symm, he, hw⟩
set_option maxRecDepth 20000 in
set_option maxHeartbeats 4000000 in
theorem specIsFaithful_any (k : Int) (R : List RulD) (aR : Option Addr) (cR : Nat) (n : Int) (l : List Int) (a : Option Addr) (cap : Nat) (z : List Int) (az : Option Addr) (cz : Nat) (w : World) (hR : RulesIn w aR R) (hRl : R.length ≤ 2 ^ 40) (hS : SzR R)
    (hl : IntsIn w a l) (hlen : l.length ≤ 2 ^ 47) (hz : IntsIn w az z) (hzl : z.length ≤ 2 ^ 47) :
    Calls Tryz.prog 15 #[.agg #[.int .i64 k, .slice aR R.length cR], .agg #[.int .i64 n, .slice a l.length cap], .slice az z.length cz] w (RetP (faiP k R n l z) w) := by
  have HMO := Lib.hid (fun W h => specMonoidOf_any k R aR cR W h hRl hS)
  have HSR := Lib.hid (fun W h1 h2 h3 => specSatisfiesRules_any k R aR cR n l a cap z az cz W h1 hRl hS h2 hlen h3 hzl)
  have hb1 : Below w.heap.size w ((w.alloc (.cells #[.int .i64 k, .slice aR R.length cR] 29)).alloc (.cells #[.int .i64 n, .slice a l.length cap] 38)) := Below.now (alloc_belowS w _) (alloc_belowS _ _)
  have HX : Hid (∀ W, Below ((w.alloc (.cells #[.int .i64 k, .slice aR R.length cR] 29)).alloc (.cells #[.int .i64 n, .slice a l.length cap] 38)).heap.size ((w.alloc (.cells #[.int .i64 k, .slice aR R.length cR] 29)).alloc (.cells #[.int .i64 n, .slice a l.length cap] 38)) W → W.cell? ⟨w.heap.size, 0, none⟩ = some (.int .i64 k) ∧ W.cell? ⟨w.heap.size, 1, none⟩ = some (.slice aR R.length cR) ∧ W.cell? ⟨w.heap.size + 1, 0, none⟩ = some (.int .i64 n) ∧ W.cell? ⟨w.heap.size + 1, 1, none⟩ = some (.slice a l.length cap)) := Lib.hid (fun W hW => by
    refine ⟨?_, ?_, ?_, ?_⟩ <;> rw [hW.cell (by simp; try omega)] <;> simp [go_sem])
  have HB := Lib.hid hb1
  have HL := Lib.hid (hl.later hb1)
  have HZ := Lib.hid (hz.later hb1)
  have HRR := Lib.hid (hR.later hb1)
  have HN2 : Hid (((w.alloc (.cells #[.int .i64 k, .slice aR R.length cR] 29)).alloc (.cells #[.int .i64 n, .slice a l.length cap] 38)).heap.size = w.heap.size + 2) := Lib.hid (by simp)
  clear hl hz hR hS hb1
  go_enter Tryz.func15, Tryz.ntmps15
  go_wp2_with fail
  generalize ((w.alloc (.cells #[.int .i64 k, .slice aR R.length cR] 29)).alloc (.cells #[.int .i64 n, .slice a l.length cap] 38)) = w1 at *
  refine (HMO.out _ HRR.out).mono ?_
  rintro e w2 ⟨L, P, f, aP, aL, cP, cL, hmon, rfl, hoP, hoL, hb2⟩
  have HM := Lib.hid hmon
  have HB2 := Lib.hid hb2
  have HSL : Hid (StrsIn w2 aL L) := Lib.hid (owns_cells hoL)
  have hb3 := alloc_belowS w2 (.cells #[.int .i64 (L.length : Nat), .slice aP P.length cP] 38)
  have HB3 := Lib.hid (Below.now hb2 hb3)
  have HSL3 := Lib.hid (HSL.out.later hb3)
  obtain ⟨hf1, hf2⟩ := hmon.few
  obtain ⟨s0, s1, s2, s3⟩ := HX.out _ HB3.out
  clear hmon hoP hoL hb2 hb3
  cases f
  · have F : Hid (∀ W, Below w1.heap.size w1 W → RetP (faiP k R n l z) w (.returned (.bool false)) W) := Lib.hid (fun W hW => RetP.no (fun ⟨_, _, h, _⟩ => HM.out.noGo h) (Below.now HB.out hW))
    go_wp2_with fail
    go_ret
    exact F.out _ HB3.out
  obtain ⟨hgo, hmw⟩ := HM.out.goM
  have HGO := Lib.hid hgo
  have HMW := Lib.hid hmw
  have HPO := Lib.hid HM.out.pos
  clear hgo hmw
  go_wp2_with fail
  generalize w2.alloc (.cells #[.int .i64 (L.length : Nat), .slice aP P.length cP] 38) = w3 at *
  refine (HSR.out _ (HRR.out.later HB3.out) (HL.out.later HB3.out) (HZ.out.later HB3.out)).mono ?_
  rintro e w4 ⟨bb, hbb, rfl, hb4⟩
  have HBB := Lib.hid hbb
  have HB4 := Lib.hid (Below.now HB3.out hb4)
  have HSL4 := Lib.hid (HSL3.out.later hb4)
  obtain ⟨t0, t1, t2, t3⟩ := HX.out _ HB4.out
  clear hbb hb4 s0 s1 s2 s3
  cases bb
  · have F : Hid (RetP (faiP k R n l z) w (.returned (.bool false)) w4) := Lib.hid (RetP.no (fun ⟨_, _, _, h, _⟩ => by have := HBB.out.2 h; cases this) (Below.now HB.out HB4.out))
    go_wp2_with fail
    go_ret
    exact F.out
  have HSA := Lib.hid (HBB.out.1 rfl)
  obtain ⟨m, ln, zn, rfl, hlm, hT, hzn, hzm, hz1, hz4⟩ := imgB_out HSA.out.1.1.2
  have hm0 := hT.lo
  have hm1 := hT.hi
  have HT := Lib.hid hT.toTb
  have HLL : Hid (l.length = m * m) := Lib.hid (by rw [hlm, List.length_map]; exact hT.len)
  have HZM := Lib.hid hzm
  have HZL : Hid (z.length = zn.length) := Lib.hid (by rw [hzn, List.length_map])
  have HFP : Hid (faiP k R (m : Nat) l z ↔ (valsF m ln zn L).Nodup) := Lib.hid (by
    unfold faiP
    rw [hlm, hzn, map_toNat', map_toNat', Int.toNat_natCast]
    constructor
    · rintro ⟨L', P', h1, _, h3⟩
      obtain ⟨rfl, _, _⟩ := HM.out.uniq h1
      exact h3
    · intro h
      refine ⟨L, P, HM.out, ?_, h⟩
      rw [← hlm, ← hzn]
      exact HSA.out)
  have HLE : Hid (∀ u ∈ L, letIn zn u ∧ u.size ≤ 8) := Lib.hid (fun u hu => ⟨letIn_of (HMW.out.word u hu).1 (by rw [← HZL.out]; exact HSA.out.1.2.symm), (HMW.out.word u hu).2⟩)
  have HN4 : Hid (∀ W, Below w4.heap.size w4 W → NatsIn W a ln ∧ NatsIn W az zn) := Lib.hid (fun W hW => by
    unfold NatsIn
    rw [← hlm, ← hzn]
    exact ⟨HL.out.later (Below.now HB4.out hW), HZ.out.later (Below.now HB4.out hW)⟩)
  have HVA : Hid (∀ u W, letIn zn u → u.size ≤ 8 → NatsIn W a ln → NatsIn W az zn → Calls Tryz.prog 62 #[.agg #[.int .i64 (m : Nat), .slice a l.length cap], .slice az z.length cz, .string u] W fun e w' => e = .returned (.int .i64 (valF m ln zn u : Nat)) ∧ Below W.heap.size W w') := Lib.hid (fun u W h1 h2 h3 h4 => by
    have h := l11Value_any m ln zn a l.length cap az cz u W h3 hT.toTb HLL.out h4 hzm h1 (by omega)
    rw [← HZL.out] at h
    exact h)
  clear hlm hT hzn hzm hz1 hz4
  have hmk := run_make_row' (P := Tryz.prog) 92 4 (.bool false) 1 Tryz.underlying92 Tryz.infoBool rfl .i64 .i64 m (by omega) (by omega)
  go_wp2_with fail
  clear hmk t0 t1 t2 t3
  have hrow := BoolRow.start w4 4 (madeCells #[.bool false] m) m (made_bools m) (by unfold maxLen; omega)
  have hb5 := alloc_belowS w4 (.cells (madeCells #[.bool false] m) 4)
  generalize (w4.alloc (.cells (madeCells #[.bool false] m) 4)) = w5 at *
  obtain ⟨g, hg3⟩ : ∃ g, w4.heap.size = g := ⟨_, rfl⟩
  have hgB : w4.heap.size ≤ g := by omega
  rw [hg3]
  have hr2 : BoolRow 4 w5 w4.heap.size g m (seenB m ln zn L 0) := (show BoolRow 4 w5 w4.heap.size g m (fun _ => false) by rw [hg3] at hrow ⊢; exact hrow).congr (fun x _ => (seenB_zero x).symm)
  have HR5 := Lib.hid hr2
  have HB5 := Lib.hid hb5
  clear hrow hr2 hb5 hg3
  go_loopw [34] (fun i wr => ∃ j : Nat, j ≤ L.length ∧ i = .int .i64 j ∧ Hid (Below w4.heap.size w4 wr) ∧ Hid ((valsF m ln zn (L.take j)).Nodup) ∧ Hid (BoolRow 4 wr w4.heap.size g m (seenB m ln zn L j))) (fun i _ => L.length - (intOf i).toNat)
  case atStart => exact ⟨0, Nat.zero_le _, rfl, HB5, Lib.hid (by simp [valsF]), HR5⟩
  case round =>
    clear HR5 HB5
    obtain ⟨j, hj, rfl, HW, HND, HRW⟩ := hrel
    obtain ⟨t0, t1, t2, t3⟩ := HX.out _ (Below.now HB4.out HW.out)
    by_cases hlt : j < L.length
    · obtain ⟨b, off, rfl, _, hc⟩ := (HSL4.out.later HW.out).cell hlt
      have hcj := hc j hlt
      have hmem : nthS L j ∈ L := by rw [nthS_lt hlt]; exact List.getElem_mem hlt
      obtain ⟨hle, hsz⟩ := HLE.out _ hmem
      have HLI := Lib.hid hle
      have hvl := valF_lt HT.out HZM.out hle
      have HSC := Lib.hid (fun x => seenB_succ (m := m) (ln := ln) (zn := zn) hlt x)
      have HNW := Lib.hid (fun h => vals_new hlt HND.out h)
      have HOL := Lib.hid (fun h => vals_old (m := m) (ln := ln) (zn := zn) hlt h)
      clear hc hmem hle
      generalize nthS L j = u at *
      go_wp2_with fail
      refine (HVA.out u _ HLI.out hsz (HN4.out _ HW.out).1 (HN4.out _ HW.out).2).mono ?_
      rintro e w6 ⟨rfl, hb6⟩
      have HW6 := Lib.hid (Below.now HW.out hb6)
      have HR6 := Lib.hid (HRW.out.later hb6)
      clear hb6 t0 t1 t2 t3 hcj HVA
      generalize valF m ln zn u = v at *
      have hcell := HR6.out.cell hvl
      have hfr := HR6.out.frozen v
      have HW9 := Lib.hid (HW6.out.setCell hgB (p := ⟨g, v, none⟩) (.bool true))
      have HR9 := Lib.hid ((HR6.out.store v true).congr (fun x _ => HSC.out x))
      cases hsn : seenB m ln zn L j v
      · have F := Lib.hid (HNW.out hsn)
        rw [hsn] at hcell
        clear hsn
        go_wp2_with fail
        go_roundw
        case rel => exact ⟨j + 1, by omega, by go_num, HW9, F, HR9⟩
        case measure => simp [intOf]; omega
      · have F : Hid (RetP ((valsF m ln zn L).Nodup) w (.returned (.bool false)) w6) := Lib.hid (RetP.no (HOL.out hsn) (Below.now HB.out (Below.now HB4.out HW6.out)))
        rw [hsn] at hcell
        clear hsn
        go_wp2_with fail
        go_ret
        exact retP_iff HFP.out F.out
    · have F : Hid (RetP ((valsF m ln zn L).Nodup) w (.returned (.bool true)) wr) := Lib.hid (RetP.yes (by have := HND.out; rwa [List.take_of_length_le (by omega)] at this) (Below.now HB.out (Below.now HB4.out HW.out)))
      go_wp2_with fail
      go_ret
      exact retP_iff HFP.out F.out
set_option maxRecDepth 20000 in
set_option maxHeartbeats 4000000 in
theorem implIsFaithful_any (k : Int) (R : List RulD) (aR : Option Addr) (cR : Nat) (n : Int) (l : List Int) (a : Option Addr) (cap : Nat) (z : List Int) (az : Option Addr) (cz : Nat) (w : World) (hR : RulesIn w aR R) (hRl : R.length ≤ 2 ^ 40) (hS : SzR R)
    (hl : IntsIn w a l) (hlen : l.length ≤ 2 ^ 47) (hz : IntsIn w az z) (hzl : z.length ≤ 2 ^ 47) (htb : Tab10 w) :
    Calls Tryz.prog 18 #[.agg #[.int .i64 k, .slice aR R.length cR], .agg #[.int .i64 n, .slice a l.length cap], .slice az z.length cz] w (RetP (faiP k R n l z) w) := by
  have HMO := Lib.hid (fun W h hT => implMonoidOf_any k R aR cR W h hRl hS hT)
  have HSR := Lib.hid (fun W h1 h2 h3 => implSatisfiesRules_any k R aR cR n l a cap z az cz W h1 hRl hS h2 hlen h3 hzl)
  have hb1 : Below w.heap.size w ((w.alloc (.cells #[.int .i64 k, .slice aR R.length cR] 29)).alloc (.cells #[.int .i64 n, .slice a l.length cap] 38)) := Below.now (alloc_belowS w _) (alloc_belowS _ _)
  have HX : Hid (∀ W, Below ((w.alloc (.cells #[.int .i64 k, .slice aR R.length cR] 29)).alloc (.cells #[.int .i64 n, .slice a l.length cap] 38)).heap.size ((w.alloc (.cells #[.int .i64 k, .slice aR R.length cR] 29)).alloc (.cells #[.int .i64 n, .slice a l.length cap] 38)) W → W.cell? ⟨w.heap.size, 0, none⟩ = some (.int .i64 k) ∧ W.cell? ⟨w.heap.size, 1, none⟩ = some (.slice aR R.length cR) ∧ W.cell? ⟨w.heap.size + 1, 0, none⟩ = some (.int .i64 n) ∧ W.cell? ⟨w.heap.size + 1, 1, none⟩ = some (.slice a l.length cap)) := Lib.hid (fun W hW => by
    refine ⟨?_, ?_, ?_, ?_⟩ <;> rw [hW.cell (by simp; try omega)] <;> simp [go_sem])
  have HB := Lib.hid hb1
  have HL := Lib.hid (hl.later hb1)
  have HZ := Lib.hid (hz.later hb1)
  have HRR := Lib.hid (hR.later hb1)
  have HTB := Lib.hid (htb.later hb1)
  have HN2 : Hid (((w.alloc (.cells #[.int .i64 k, .slice aR R.length cR] 29)).alloc (.cells #[.int .i64 n, .slice a l.length cap] 38)).heap.size = w.heap.size + 2) := Lib.hid (by simp)
  clear hl hz hR hS hb1 htb
  go_enter Tryz.func18, Tryz.ntmps18
  go_wp2_with fail
  generalize ((w.alloc (.cells #[.int .i64 k, .slice aR R.length cR] 29)).alloc (.cells #[.int .i64 n, .slice a l.length cap] 38)) = w1 at *
  refine (HMO.out _ HRR.out HTB.out).mono ?_
  rintro e w2 ⟨L, P, f, aP, aL, cP, cL, hmon, rfl, hoP, hoL, hb2⟩
  have HM := Lib.hid hmon
  have HB2 := Lib.hid hb2
  have HSL : Hid (StrsIn w2 aL L) := Lib.hid (owns_cells hoL)
  have hb3 := alloc_belowS w2 (.cells #[.int .i64 (L.length : Nat), .slice aP P.length cP] 38)
  have HB3 := Lib.hid (Below.now hb2 hb3)
  have HSL3 := Lib.hid (HSL.out.later hb3)
  obtain ⟨hf1, hf2⟩ := hmon.few
  obtain ⟨s0, s1, s2, s3⟩ := HX.out _ HB3.out
  clear hmon hoP hoL hb2 hb3
  cases f
  · have F : Hid (∀ W, Below w1.heap.size w1 W → RetP (faiP k R n l z) w (.returned (.bool false)) W) := Lib.hid (fun W hW => RetP.no (fun ⟨_, _, h, _⟩ => HM.out.noGo h) (Below.now HB.out hW))
    go_wp2_with fail
    go_ret
    exact F.out _ HB3.out
  obtain ⟨hgo, hmw⟩ := HM.out.goM
  have HGO := Lib.hid hgo
  have HMW := Lib.hid hmw
  have HPO := Lib.hid HM.out.pos
  clear hgo hmw
  go_wp2_with fail
  generalize w2.alloc (.cells #[.int .i64 (L.length : Nat), .slice aP P.length cP] 38) = w3 at *
  refine (HSR.out _ (HRR.out.later HB3.out) (HL.out.later HB3.out) (HZ.out.later HB3.out)).mono ?_
  rintro e w4 ⟨bb, hbb, rfl, hb4⟩
  have HBB := Lib.hid hbb
  have HB4 := Lib.hid (Below.now HB3.out hb4)
  have HSL4 := Lib.hid (HSL3.out.later hb4)
  obtain ⟨t0, t1, t2, t3⟩ := HX.out _ HB4.out
  clear hbb hb4 s0 s1 s2 s3
  cases bb
  · have F : Hid (RetP (faiP k R n l z) w (.returned (.bool false)) w4) := Lib.hid (RetP.no (fun ⟨_, _, _, h, _⟩ => by have := HBB.out.2 h; cases this) (Below.now HB.out HB4.out))
    go_wp2_with fail
    go_ret
    exact F.out
  have HSA := Lib.hid (HBB.out.1 rfl)
  obtain ⟨m, ln, zn, rfl, hlm, hT, hzn, hzm, hz1, hz4⟩ := imgB_out HSA.out.1.1.2
  have hm0 := hT.lo
  have hm1 := hT.hi
  have HT := Lib.hid hT.toTb
  have HLL : Hid (l.length = m * m) := Lib.hid (by rw [hlm, List.length_map]; exact hT.len)
  have HZM := Lib.hid hzm
  have HZL : Hid (z.length = zn.length) := Lib.hid (by rw [hzn, List.length_map])
  have HFP : Hid (faiP k R (m : Nat) l z ↔ (valsF m ln zn L).Nodup) := Lib.hid (by
    unfold faiP
    rw [hlm, hzn, map_toNat', map_toNat', Int.toNat_natCast]
    constructor
    · rintro ⟨L', P', h1, _, h3⟩
      obtain ⟨rfl, _, _⟩ := HM.out.uniq h1
      exact h3
    · intro h
      refine ⟨L, P, HM.out, ?_, h⟩
      rw [← hlm, ← hzn]
      exact HSA.out)
  have HLE : Hid (∀ u ∈ L, letIn zn u ∧ u.size ≤ 8) := Lib.hid (fun u hu => ⟨letIn_of (HMW.out.word u hu).1 (by rw [← HZL.out]; exact HSA.out.1.2.symm), (HMW.out.word u hu).2⟩)
  have HN4 : Hid (∀ W, Below w4.heap.size w4 W → NatsIn W a ln ∧ NatsIn W az zn) := Lib.hid (fun W hW => by
    unfold NatsIn
    rw [← hlm, ← hzn]
    exact ⟨HL.out.later (Below.now HB4.out hW), HZ.out.later (Below.now HB4.out hW)⟩)
  have HVA : Hid (∀ u W, letIn zn u → u.size ≤ 8 → NatsIn W a ln → NatsIn W az zn → Calls Tryz.prog 64 #[.agg #[.int .i64 (m : Nat), .slice a l.length cap], .slice az z.length cz, .string u] W fun e w' => e = .returned (.int .i64 (valF m ln zn u : Nat)) ∧ Below W.heap.size W w') := Lib.hid (fun u W h1 h2 h3 h4 => by
    have h := implValue_any m ln zn a l.length cap az cz u W h3 hT.toTb HLL.out h4 hzm h1 (by omega)
    rw [← HZL.out] at h
    exact h)
  clear hlm hT hzn hzm hz1 hz4
  go_wp2_with fail
  clear t0 t1 t2 t3
  go_loopw [10, 30] (fun q i wr => ∃ j : Nat, j ≤ L.length ∧ i = .int .i64 j ∧ Hid (Bld 3 1 w4 wr q (valsF m ln zn (L.take j)).length (intVals (valsF m ln zn (L.take j))))) (fun _ i _ => L.length - (intOf i).toNat)
  case atStart => exact ⟨0, Nat.zero_le _, rfl, Lib.hid (Bld.nil _ _ (Below.refl _ _))⟩
  case round =>
    obtain ⟨j, hj, rfl, HO⟩ := hrel
    obtain ⟨t0, t1, t2, t3⟩ := HX.out _ (Below.now HB4.out HO.out.2)
    have hql : (valsF m ln zn (L.take j)).length ≤ 40 := by unfold valsF; rw [List.length_map, List.length_take]; omega
    by_cases hlt : j < L.length
    · obtain ⟨b, off, rfl, _, hc⟩ := (HSL4.out.later HO.out.2).cell hlt
      have hcj := hc j hlt
      have hmem : nthS L j ∈ L := by rw [nthS_lt hlt]; exact List.getElem_mem hlt
      obtain ⟨hle, hsz⟩ := HLE.out _ hmem
      have HLI := Lib.hid hle
      have HTK := Lib.hid (valsF_take (m := m) (ln := ln) (zn := zn) hlt)
      clear hc hmem hle
      generalize nthS L j = u at *
      go_wp2_with fail
      refine (HVA.out u _ HLI.out hsz (HN4.out _ HO.out.2).1 (HN4.out _ HO.out.2).2).mono ?_
      rintro e w6 ⟨rfl, hb6⟩
      have HO6 := Lib.hid (HO.out.later hb6)
      have hone : ∀ s : Int, ∀ u ∈ [Value.int .i64 s], u.oneCell' = true := fun s u hu => by rw [List.mem_singleton.1 hu]; rfl
      clear hb6 t0 t1 t2 t3 hcj HVA
      generalize valF m ln zn u = v at *
      go_wp2_with (at_builtin; refine wpList_app1 rfl _ _ rfl Tryz.underlying33 Tryz.infoInt rfl (by decide) rfl HO6.out rfl rfl (hone _) ?c2 ?c3 ?c4)
      case c2 => unfold maxLen; omega
      case c3 => omega
      intro v2 w7 hb7
      have F : Hid (Bld 3 1 w4 w7 v2 (valsF m ln zn (L.take (j + 1))).length (intVals (valsF m ln zn (L.take (j + 1))))) := Lib.hid (by rw [HTK.out, List.length_append]; unfold intVals at *; rw [List.map_append]; exact hb7)
      clear hb7
      go_wp2_with fail
      go_roundw
      case rel => exact ⟨j + 1, by omega, by go_num, F⟩
      case measure => simp [intOf]; omega
    · have e : L.take j = L := List.take_of_length_le (by omega)
      rw [e] at hql
      have HO2 := HO
      rw [e] at HO2
      obtain ⟨oa, oc, rfl⟩ := owns_form HO.out.1
      rw [e]
      have hp : 0 < (valsF m ln zn L).length := by unfold valsF; rw [List.length_map]; exact HPO.out
      have HC := Lib.hid (collected_any _ oa oc wr (owns_ints (l := valsF m ln zn L) HO2.out.1) hp (by omega))
      have HCN := Lib.hid (coll_nodup (q := valsF m ln zn L))
      have hcl := collL_len (valsF m ln zn L)
      have HBE := Lib.hid (Below.now HB.out (Below.now HB4.out HO.out.2))
      clear t0 t1 t2 t3 e hp HO HO2
      generalize collL (valsF m ln zn L) = q1 at *
      generalize valsF m ln zn L = q2 at *
      go_wp2_with fail
      refine HC.out.mono ?_
      rintro e w6 ⟨a6, c6, rfl, _, hb6⟩
      have HB6 := Lib.hid (Below.now HBE.out hb6)
      clear hb6
      cases e1 : (((q1.length : Nat) : Int) == ((q2.length : Nat) : Int))
      · have F : Hid (RetP q2.Nodup w (.returned (.bool false)) w6) := Lib.hid (RetP.no (fun h => by have := HCN.out.2 h; simp at e1; omega) HB6.out)
        go_wp2_with fail
        go_ret
        exact retP_iff HFP.out F.out
      · have F : Hid (RetP q2.Nodup w (.returned (.bool true)) w6) := Lib.hid (RetP.yes (HCN.out.1 (by simp at e1; omega)) HB6.out)
        go_wp2_with fail
        go_ret
        exact retP_iff HFP.out F.out
open Classical in
noncomputable def faiB (k : Int) (R : List RulD) (n : Int) (l z : List Int) : Bool := decide (faiP k R n l z)
theorem RetP.fai {k : Int} {R : List RulD} {n : Int} {l z : List Int} {w w' : World} {e : Ending} (h : RetP (faiP k R n l z) w e w') : e = .returned (.bool (faiB k R n l z)) ∧ Below w.heap.size w w' := by
  obtain ⟨b, hb, rfl, hw⟩ := h
  refine ⟨ret_bool ?_, hw⟩
  unfold faiB
  rw [Bool.eq_iff_iff, hb]
  simp
theorem specIsFaithful_fn (k : Int) (R : List RulD) (aR : Option Addr) (cR : Nat) (n : Int) (l : List Int) (a : Option Addr) (cap : Nat) (z : List Int) (az : Option Addr) (cz : Nat) (w : World) (hR : RulesIn w aR R) (hRl : R.length ≤ 2 ^ 40) (hS : SzR R) (hl : IntsIn w a l) (hlen : l.length ≤ 2 ^ 47) (hz : IntsIn w az z) (hzl : z.length ≤ 2 ^ 47) :
    Calls Tryz.prog 15 #[.agg #[.int .i64 k, .slice aR R.length cR], .agg #[.int .i64 n, .slice a l.length cap], .slice az z.length cz] w fun e w' => e = .returned (.bool (faiB k R n l z)) ∧ Below w.heap.size w w' :=
  (specIsFaithful_any k R aR cR n l a cap z az cz w hR hRl hS hl hlen hz hzl).mono fun _ _ h => h.fai
theorem implIsFaithful_fn (k : Int) (R : List RulD) (aR : Option Addr) (cR : Nat) (n : Int) (l : List Int) (a : Option Addr) (cap : Nat) (z : List Int) (az : Option Addr) (cz : Nat) (w : World) (hR : RulesIn w aR R) (hRl : R.length ≤ 2 ^ 40) (hS : SzR R) (hl : IntsIn w a l) (hlen : l.length ≤ 2 ^ 47) (hz : IntsIn w az z) (hzl : z.length ≤ 2 ^ 47) (htb : Tab10 w) :
    Calls Tryz.prog 18 #[.agg #[.int .i64 k, .slice aR R.length cR], .agg #[.int .i64 n, .slice a l.length cap], .slice az z.length cz] w fun e w' => e = .returned (.bool (faiB k R n l z)) ∧ Below w.heap.size w w' :=
  (implIsFaithful_any k R aR cR n l a cap z az cz w hR hRl hS hl hlen hz hzl htb).mono fun _ _ h => h.fai
end Go.Proofs.YtggfhephdcnpcaaGreatDoor
