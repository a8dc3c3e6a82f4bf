/-
  All reduced words of a length, in order, as plain data.
-/
import Derived.Test.YtggfhephdcnpcaaGreatGrp24
import Derived.Test.YtggfhephdcnpcaaGreatGrp25
import Derived.Test.YtggfhephdcnpcaaGreatGrp15
import Derived.Test.YtggfhephdcnpcaaGreatGrp22
import Derived.Test.YtggfhephdcnpcaaGreatGrp23
import Derived.Sort.Walk0
namespace Go.Proofs.YtggfhephdcnpcaaGreat
open Go.RowKit
set_option linter.unusedVariables false
set_option maxRecDepth 20000 in
set_option maxHeartbeats 1000000 in
theorem specLongestReduced_any (k : Int) (R : List RulD) (a : Option Addr) (cap : Nat) (w : World) (hl : RulesIn w a R) (hlen : R.length ≤ 2 ^ 40) (hz : SzR R) :
    Calls Tryz.prog 106 #[.agg #[.int .i64 k, .slice a R.length cap]] w (RetLg k R w) := by
  have HL := Lib.hid hl
  have HS := Lib.hid (fun W h => specSystemOk_any k R a cap W h hlen hz)
  have HA := Lib.hid (fun o => alloc_belowS w o)
  have hbx := alloc_at w (.cells #[.int .i64 k, .slice a R.length cap] 67)
  have HBX : Hid (∀ W2, Below (w.alloc (.cells #[.int .i64 k, .slice a R.length cap] 67)).heap.size (w.alloc (.cells #[.int .i64 k, .slice a R.length cap] 67)) W2 → W2.cell? ⟨w.heap.size, 0, none⟩ = some (.int .i64 k) ∧ W2.cell? ⟨w.heap.size, 1, none⟩ = some (.slice a R.length cap)) := Lib.hid (fun W2 hW2 => sys_cells ((hW2.block w.heap.size (by simp)).trans hbx))
  have HZ := Lib.hid hz
  clear hl hz hbx
  go_enter Tryz.func106, Tryz.ntmps106
  go_wp2_with fail
  refine (HS.out _ (HL.out.later (HA.out _))).mono ?_
  rintro e w1 ⟨bb, hbb, rfl, hb1⟩
  have HBB := Lib.hid hbb
  obtain ⟨s0, s1⟩ := HBX.out w1 hb1
  have HW1 := Lib.hid (Below.now (HA.out _) hb1)
  clear hbb hb1 HS HBX
  cases bb
  · have F : Hid (RetLg k R w (.returned (.int .i64 (-1))) w1) := Lib.hid ⟨-1, .inl ⟨fun h => (by have := HBB.out.2 h; cases this), rfl⟩, rfl, HW1.out⟩
    go_wp2_with fail
    go_ret
    exact F.out
  · have HSP := Lib.hid (HBB.out.1 rfl)
    clear HBB
    obtain ⟨_, h8, hk1, hk4⟩ := sys_sizes HSP.out
    obtain ⟨kn, rfl⟩ := Int.eq_ofNat_of_zero_le (show 0 ≤ k by omega)
    have HD := Lib.hid (fun ad W h1 => l07Depth_any kn R a cap hlen HZ.out (sysG_of HSP.out) (fun j hj => by have := (h8 j hj).1; omega) 21846 [] ⟨#[]⟩ ad 0 W rfl (WayE.start R kn) h1 (.inl rfl))
    clear h8
    go_wp2_with fail
    refine (HD.out _ _ (HL.out.later (HW1.out.alloc HW1.out.size _))).mono ?_
    rintro e w3 ⟨h, hh, rfl, hb3⟩
    have F : Hid (RetLg (kn : Int) R w (.returned (.int .i64 h)) w3) := Lib.hid ⟨h, .inr ⟨HSP.out, by simpa using hh⟩, rfl, Below.now (HW1.out.alloc HW1.out.size _) hb3⟩
    clear hh hb3 HD
    go_wp2_with fail
    go_ret
    exact F.out
set_option maxRecDepth 100000 in
set_option maxHeartbeats 4000000 in
theorem specCountAll_any (k : Int) (R : List RulD) (a : Option Addr) (cap : Nat) (w : World) (hl : RulesIn w a R) (hlen : R.length ≤ 2 ^ 40) (hz : SzR R) :
    Calls Tryz.prog 105 #[.agg #[.int .i64 k, .slice a R.length cap]] w (RetCn k R w) := by
  have HL := Lib.hid hl
  have HS := Lib.hid (fun W h => specLongestReduced_any k R a cap W h hlen hz)
  have HA := Lib.hid (fun o => alloc_belowS w o)
  have hbx := alloc_at w (.cells #[.int .i64 k, .slice a R.length cap] 67)
  have HBX : Hid (∀ W2, Below (w.alloc (.cells #[.int .i64 k, .slice a R.length cap] 67)).heap.size (w.alloc (.cells #[.int .i64 k, .slice a R.length cap] 67)) W2 → W2.cell? ⟨w.heap.size, 0, none⟩ = some (.int .i64 k) ∧ W2.cell? ⟨w.heap.size, 1, none⟩ = some (.slice a R.length cap)) := Lib.hid (fun W2 hW2 => sys_cells ((hW2.block w.heap.size (by simp)).trans hbx))
  clear hl hz hbx
  go_enter Tryz.func105, Tryz.ntmps105
  go_wp2_with fail
  refine (HS.out _ (HL.out.later (HA.out _))).mono ?_
  rintro e w1 ⟨h, hlg, rfl, hb1⟩
  have HLG := Lib.hid hlg
  have HW1 := Lib.hid (Below.now (HA.out _) hb1)
  have HBX1 : Hid (∀ W2, Below w1.heap.size w1 W2 → W2.cell? ⟨w.heap.size, 0, none⟩ = some (.int .i64 k) ∧ W2.cell? ⟨w.heap.size, 1, none⟩ = some (.slice a R.length cap)) := Lib.hid (fun W2 hW2 => HBX.out W2 (Below.now hb1 hW2))
  clear hb1 HS HBX
  by_cases h0 : h < 0
  · have F : Hid (RetCn k R w (.returned (.int .i64 (-1))) w1) := Lib.hid ⟨-1, ⟨h, HLG.out, .inl ⟨h0, rfl⟩⟩, rfl, HW1.out⟩
    clear hlg
    go_wp2_with fail
    go_ret
    exact F.out
  · rcases hlg with ⟨_, h1⟩ | ⟨hsp, hh⟩
    · omega
    · obtain ⟨_, h8, hk1, hk4⟩ := sys_sizes hsp
      obtain ⟨kn, rfl⟩ := Int.eq_ofNat_of_zero_le (show 0 ≤ k by omega)
      obtain ⟨hn, rfl⟩ := Int.eq_ofNat_of_zero_le (show 0 ≤ h by omega)
      have hG := sysG_of hsp
      have hh' : HtIs R kn ⟨#[]⟩ (hn : Int) := by simpa using hh
      have hle := HtIs.le hG (EndP.nil kn) hh'
      have htop := pSum_top hG hh'
      have HT : Hid (∀ i, i ≤ hn → paths R kn i ⟨#[]⟩ ≤ topB) := Lib.hid (fun i hi => Nat.le_trans (pSum_at R kn (show i < hn + 1 by omega)) htop)
      have HPS : Hid (∀ j, j ≤ hn + 1 → pSum R kn j ≤ 4611686018427387903) := Lib.hid (fun j hj => by have h1 := pSum_mono R kn hj; unfold topB at htop; omega)
      have HF : Hid (CntIs (kn : Int) R ((pSum R kn (hn + 1) : Nat) : Int)) := Lib.hid ⟨(hn : Int), HLG.out, .inr ⟨by omega, by simp⟩⟩
      have HGG := Lib.hid hG
      have H8 := Lib.hid h8
      have hkn : kn ≤ 4 := by omega
      clear hsp hh hh' htop hG HLG h8
      have HW0 : Hid (WaysIn ((w1.alloc (.cells #[.string ⟨#[]⟩] 9)).alloc (.cells #[.int .i64 1] 3)) (some ⟨w1.heap.size, 0, none⟩) (some ⟨w1.heap.size + 1, 0, none⟩) [(⟨#[]⟩, 1)]) := Lib.hid (by
        refine ⟨.inr ⟨_, _, rfl, fun i hi => ?_⟩, .inr ⟨_, _, rfl, fun i hi => ?_⟩⟩
        · have : i = 0 := by simp [keyV] at hi; omega
          subst this
          rw [(alloc_belowS (w1.alloc (.cells #[.string ⟨#[]⟩] 9)) _).cell (by simp)]
          simp [World.cell?_alloc_new, keyV]
        · have : i = 0 := by simp [cntV] at hi; omega
          subst this
          have e1 : (w1.alloc (.cells #[.string ⟨#[]⟩] 9)).heap.size = w1.heap.size + 1 := by simp
          rw [← e1]
          simp [cntV])
      have HWB : Hid (Below w1.heap.size w1 ((w1.alloc (.cells #[.string ⟨#[]⟩] 9)).alloc (.cells #[.int .i64 1] 3))) := Lib.hid (((Below.refl _ _).alloc (Nat.le_refl _) _).alloc (by simp) _)
      have HP1 : Hid (pSum R kn (0 + 1) = 1) := Lib.hid rfl
      go_wp2_with fail
      go_loopw [4, 5, 6, 7] (fun ve vc vs vi wr => ∃ (i : Nat) (W : WayD) (ae ac : Option Addr) (ce cc s : Nat), i ≤ hn ∧ vi = .int .i64 (i : Nat) ∧ ve = .slice ae W.length ce ∧ vc = .slice ac W.length cc ∧ vs = .int .i64 (s : Nat) ∧ Hid (s = pSum R kn (i + 1)) ∧ Hid (WayAtA R kn i W) ∧ Hid (WaysIn wr ae ac W) ∧ Hid (Below w1.heap.size w1 wr)) (fun _ _ _ vi _ => hn - (intOf vi).toNat)
      case atStart => exact ⟨0, [(⟨#[]⟩, 1)], _, _, _, _, 1, Nat.zero_le _, rfl, rfl, rfl, rfl, Lib.hid HP1.out.symm, Lib.hid (WayAtA.start _ _), HW0, HWB⟩
      case round =>
        clear HW0 HWB HP1
        obtain ⟨i, W, ae, ac, ce, cc, s, hi, rfl, rfl, rfl, rfl, HSU, HWA, HIN, HBW⟩ := hrel
        by_cases hlt : i < hn
        · obtain ⟨s0, s1⟩ := HBX1.out wr HBW.out
          have HNX := Lib.hid (fun W2 h1 h2 => l07NextA_any kn i R W a ae ac cap ce cc W2 h1 hlen H8.out hkn (HT.out i hi) (HT.out (i + 1) hlt) HGG.out HWA.out h2)
          go_wp2_with fail
          refine (HNX.out _ (HL.out.later (Below.now HW1.out HBW.out)) HIN.out).mono ?_
          rintro e w2 ⟨V, av, cv, au, cu, rfl, hv1, hv2, hv3, hv4, hv5⟩
          have HV1 := Lib.hid hv1
          have HV2 := Lib.hid hv2
          have HB2 := Lib.hid (Below.now HBW.out hv3)
          have HCA := Lib.hid (cntTo_all R kn V)
          have HCE := Lib.hid (hv1.way.eq 0)
          have hps : pSum R kn (i + 1) + paths R kn (i + 1) ⟨#[]⟩ ≤ 4611686018427387903 := by
            have h1 := HPS.out (i + 1 + 1) (by omega)
            rw [pSum_succ] at h1; exact h1
          have HMO : Hid (∀ j, j ≤ V.length → s + cntTo V j ≤ 4611686018427387903) := Lib.hid (fun j hj => by
            have h1 := cntTo_mono V hj
            have h2 := HCA.out
            have h3 := HCE.out
            have h4 := HSU.out
            rw [Nat.add_zero] at h3
            omega)
          have hVl : V.length ≤ 21845 := hv1.few hkn
          clear hv1 hv2 hv3 hv4 hv5 HNX s0 s1 hps
          go_wp2_with fail
          go_loop [6, 30] (fun vs vj => ∃ j c : Nat, j ≤ V.length ∧ vj = .int .i64 (j : Nat) ∧ vs = .int .i64 (c : Nat) ∧ Hid (c = s + cntTo V j)) (fun _ vj => V.length - (intOf vj).toNat)
          case atStart => exact ⟨0, s, Nat.zero_le _, rfl, rfl, Lib.hid rfl⟩
          case round =>
            obtain ⟨j, c, hj, rfl, rfl, hc⟩ := hrel
            have hcb : c ≤ 4611686018427387903 := by have := HMO.out j hj; have := hc.out; omega
            by_cases hlj : j < V.length
            · obtain ⟨_, _, b2, off2, _, rfl, _, r2⟩ := HV2.out.at hlj
              have HCS : Hid (s + cntTo V (j + 1) = c + (nthW V j).2) := Lib.hid (by rw [cntTo_succ hlj, nthW_lt hlj, hc.out]; omega)
              have hcs := HMO.out (j + 1) hlj
              have hcs2 : c + (nthW V j).2 ≤ 4611686018427387903 := by have := HCS.out; omega
              clear hcs
              generalize (nthW V j).2 = d at *
              go_wp2_with fail
              go_round
              case rel => exact ⟨j + 1, c + d, by omega, by go_num, by go_num, Lib.hid HCS.out.symm⟩
              case measure => simp [intOf]; omega
            · obtain rfl : j = V.length := by omega
              have HSUM : Hid (c = pSum R kn (i + 1 + 1)) := Lib.hid (by rw [pSum_succ, hc.out, HCA.out, HCE.out, Nat.add_zero, HSU.out])
              go_wp2_with fail
              go_roundw
              case rel => exact ⟨i + 1, V, av, au, cv, cu, c, by omega, by go_num, rfl, rfl, rfl, HSUM, HV1, HV2, HB2⟩
              case measure => simp [intOf]; omega
        · obtain rfl : i = hn := by omega
          have F : Hid (RetCn (kn : Int) R w (.returned (.int .i64 (s : Nat))) wr) := Lib.hid ⟨_, by rw [HSU.out]; exact HF.out, rfl, Below.now HW1.out HBW.out⟩
          go_wp2_with fail
          go_ret
          exact F.out
end Go.Proofs.YtggfhephdcnpcaaGreat
namespace Go.Proofs.YtggfhephdcnpcaaGreat
open Go.RowKit
set_option linter.unusedVariables false
/-- one letter more -/
def stepW (R : List RulD) (k : Nat) (w : ByteArray) : List ByteArray := (List.range k).flatMap fun x => if okX R w x = true then [w ++ letterN x] else []
/-- all reduced words from w by m letters -/
def wordsF (R : List RulD) (k : Nat) : Nat → ByteArray → List ByteArray
  | 0, w => [w]
  | m + 1, w => (List.range k).flatMap fun x => if okX R w x = true then wordsF R k m (w ++ letterN x) else []
theorem flat_if {α β : Type} (l : List Nat) (p : Nat → Bool) (f : Nat → List α) (g : α → List β) : (l.flatMap fun x => if p x = true then f x else []).flatMap g = l.flatMap fun x => if p x = true then (f x).flatMap g else [] := by
  rw [List.flatMap_assoc]
  congr 1
  funext x
  split <;> rfl
theorem wordsF_step (R : List RulD) (k : Nat) : ∀ (m : Nat) (w : ByteArray), wordsF R k (m + 1) w = (wordsF R k m w).flatMap (stepW R k)
  | 0, w => by
    show _ = ([w] : List ByteArray).flatMap (stepW R k)
    rw [List.flatMap_singleton]
    rfl
  | m + 1, w => by
    have e : wordsF R k (m + 1) w = (List.range k).flatMap fun x => if okX R w x = true then wordsF R k m (w ++ letterN x) else [] := rfl
    rw [e, flat_if]
    show (List.range k).flatMap _ = _
    congr 1
    funext x
    split
    · exact wordsF_step R k m (w ++ letterN x)
    · rfl
theorem len_flat (l : List Nat) (p : Nat → Bool) (f : Nat → List ByteArray) : (l.flatMap fun x => if p x = true then f x else []).length = (l.map fun x => if p x = true then (f x).length else 0).sum := by
  rw [List.length_flatMap]
  congr 1
  apply List.map_congr_left
  intro x _
  split <;> rfl
theorem wordsF_len {R : List RulD} (hne : LeftsP R) (k : Nat) : ∀ (m : Nat) (w : ByteArray), (wordsF R k m w).length = paths R k m w
  | 0, w => rfl
  | m + 1, w => by
    show ((List.range k).flatMap _).length = _
    rw [len_flat, paths_succ]
    unfold pTo
    congr 1
    apply List.map_congr_left
    intro x _
    rw [wordsF_len hne k m (w ++ letterN x), paths_nxt hne]
theorem wordsF_size (R : List RulD) (k : Nat) : ∀ (m : Nat) (w : ByteArray), ∀ u ∈ wordsF R k m w, u.size = w.size + m
  | 0, w, u, hu => by rw [List.mem_singleton.1 hu]; rfl
  | m + 1, w, u, hu => by
    obtain ⟨x, _, h2⟩ := List.mem_flatMap.1 hu
    split at h2
    · have h3 := wordsF_size R k m _ u h2
      rw [ByteArray.size_append, letterN_size] at h3
      omega
    · cases h2
theorem wordsF_pre (R : List RulD) (k : Nat) : ∀ (m : Nat) (w : ByteArray), ∀ u ∈ wordsF R k m w, ∃ t, u.data.toList = w.data.toList ++ t
  | 0, w, u, hu => ⟨[], by rw [List.mem_singleton.1 hu]; simp⟩
  | m + 1, w, u, hu => by
    obtain ⟨x, _, h2⟩ := List.mem_flatMap.1 hu
    split at h2
    · obtain ⟨t, ht⟩ := wordsF_pre R k m _ u h2
      rw [app_lt] at ht
      exact ⟨lt97 x :: t, by rw [ht]; simp⟩
    · cases h2
/-- Go's order of strings -/
def ltB (a b : ByteArray) : Bool := Op.bytesLess a.data.toList b.data.toList
theorem less_app (p s t : Wd) : Op.bytesLess (p ++ s) (p ++ t) = Op.bytesLess s t := by
  induction p with
  | nil => rfl
  | cons a p ih =>
    have h1 : ¬ a < a := UInt8.lt_irrefl a
    simp only [List.cons_append, Op.bytesLess, ih, beq_self_eq_true, Bool.true_and, decide_eq_false h1, Bool.false_or]
theorem less_head {a b : UInt8} (h : a < b) (s t : Wd) : Op.bytesLess (a :: s) (b :: t) = true := by
  simp [Op.bytesLess, h]
theorem less_head_no {a b : UInt8} (h : b < a) (s t : Wd) : Op.bytesLess (a :: s) (b :: t) = false := by
  have h1 : ¬ a < b := fun h2 => UInt8.lt_asymm h h2
  have h2 : (a == b) = false := by
    rw [beq_eq_false_iff_ne]
    intro e
    subst e
    exact UInt8.lt_irrefl _ h
  simp [Op.bytesLess, h1, h2]
/-- two words of one length: their rest does not tell -/
theorem less_pre : ∀ {p q : Wd}, p.length = q.length → ∀ (s t : Wd), (Op.bytesLess p q = true → Op.bytesLess (p ++ s) (q ++ t) = true ∧ Op.bytesLess (q ++ t) (p ++ s) = false)
  | [], [], _, s, t, h => by cases h
  | [], _ :: _, h, _, _, _ => by simp at h
  | _ :: _, [], h, _, _, _ => by simp at h
  | a :: p, b :: q, h, s, t, hl => by
    unfold Op.bytesLess at hl
    simp only [Bool.or_eq_true, decide_eq_true_eq, Bool.and_eq_true, beq_iff_eq] at hl
    rcases hl with hl | ⟨rfl, hl⟩
    · exact ⟨less_head hl _ _, less_head_no hl _ _⟩
    · have ih := less_pre (p := p) (q := q) (by simpa using h) s t hl
      have h1 : ¬ a < a := UInt8.lt_irrefl a
      refine ⟨?_, ?_⟩
      · simp only [List.cons_append, Op.bytesLess, ih.1, beq_self_eq_true, Bool.true_and, Bool.or_true]
      · simp only [List.cons_append, Op.bytesLess, ih.2, Bool.and_false, decide_eq_false h1, Bool.or_false]
theorem lt97_lt {x y : Nat} (h : x < y) (hy : y < 4) : lt97 x < lt97 y := by
  rw [UInt8.lt_iff_toNat_lt]
  unfold lt97
  simp
  omega
/-- the words rise -/
theorem wordsF_rise {R : List RulD} {k : Nat} (hk : k ≤ 4) : ∀ (m : Nat) (w : ByteArray), (wordsF R k m w).Pairwise (fun a b => ltB a b = true)
  | 0, w => List.pairwise_singleton _ _
  | m + 1, w => by
    show ((List.range k).flatMap _).Pairwise _
    rw [List.pairwise_flatMap]
    refine ⟨fun x hx => ?_, ?_⟩
    · split
      · exact wordsF_rise hk m _
      · exact List.Pairwise.nil
    · refine List.pairwise_lt_range.imp_of_mem ?_
      intro x y hx hy hxy a ha b hb
      split at ha
      · split at hb
        · obtain ⟨s, hs⟩ := wordsF_pre R k m _ a ha
          obtain ⟨t, ht⟩ := wordsF_pre R k m _ b hb
          have := List.mem_range.1 hy
          unfold ltB
          rw [hs, ht, app_lt, app_lt, List.append_assoc, List.append_assoc, less_app]
          exact less_head (lt97_lt hxy (by omega)) _ _
        · cases hb
      · cases ha
end Go.Proofs.YtggfhephdcnpcaaGreat
