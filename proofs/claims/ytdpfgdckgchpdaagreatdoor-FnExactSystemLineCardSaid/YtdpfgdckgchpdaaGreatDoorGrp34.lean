/-
  OpenPairs, CountPairs and IsComplete of the program.
-/
import Derived.Test.YtdpfgdckgchpdaaGreatDoorGrp33
namespace Go.Proofs.YtdpfgdckgchpdaaGreatDoor
open Go.RowKit
set_option linter.unusedVariables false
set_option maxHeartbeats 1000000 in
theorem openPairs1_any (k : Int) (R : List RulD) (a : Option Addr) (cap : Nat) (bx : Nat) (p : PairD) (w : World) (hl : RulesIn w a R) (hs : sysP k R) (hp : PairOk R k p) (hb : w.cell? ⟨bx, 0, none⟩ = some (.int .i64 k) ∧ w.cell? ⟨bx, 1, none⟩ = some (.slice a R.length cap)) :
    Calls Tryz.prog 87 #[pairVal p, .pointer (some ⟨bx, 0, none⟩)] w (RetP (Joined R p) w) := by
  have HIJ := Lib.hid (fun W h => implIsJoined_any k R a cap p W h hs hp)
  have HL := Lib.hid hl
  have HPO : Hid (Obj.cells #[.string p.1, .int .i64 (p.2.1 : Nat), .int .i64 0, .int .i64 (p.2.2.1 : Nat), .int .i64 (p.2.2.2 : Nat)] 56 = pairObj p) := Lib.hid rfl
  have HA := Lib.hid (fun o => alloc_belowS w o)
  have s0 := fun o => by have h := (alloc_belowS w o).cell (World.block_lt_of_cell? w _ hb.1); exact h.trans hb.1
  have s1 := fun o => by have h := (alloc_belowS w o).cell (World.block_lt_of_cell? w _ hb.2); exact h.trans hb.2
  clear hl hs hp hb
  unfold pairVal at HIJ
  unfold pairVal
  obtain ⟨u, x, y, z⟩ := p
  go_enter Tryz.func87, Tryz.ntmps87
  go_wp2_with fail
  refine (HIJ.out _ (HL.out.later (HA.out _))).mono ?_
  rintro e w2 ⟨bb, hbb, rfl, hb2⟩
  have F : Hid (RetP (Joined R (u, x, y, z)) w (.returned (.bool bb)) w2) := Lib.hid ⟨bb, hbb, rfl, Below.now (HA.out _) hb2⟩
  clear hbb hb2 s0 s1
  go_wp2_with fail
  go_ret
  exact F.out
set_option maxRecDepth 100000 in
set_option maxHeartbeats 1000000 in
theorem implOpenPairs_any (k : Int) (R : List RulD) (a : Option Addr) (cap : Nat) (w : World) (hl : RulesIn w a R) (hs : sysP k R) :
    Calls Tryz.prog 35 #[.agg #[.int .i64 k, .slice a R.length cap]] w fun e w' => ∃ a2 c2, e = .returned (.slice a2 (openF R).length c2) ∧ Below w.heap.size w w' := by
  have HPF := Lib.hid (fun W h => implPairsOf_any k R a cap W h hs)
  have HSZ : (pairsF R).length ≤ 2496 := by
    have h := pairTo_len (left8 hs) hs.1.1.2 (i := R.length) (j := 0) hs.1.1.2 (by omega)
    rw [pairTo_done] at h
    exact h
  have hb1 := alloc_belowS w (.cells #[.int .i64 k, .slice a R.length cap] 29)
  have HBX := Lib.hid (fun W2 (h : Below (w.alloc (.cells #[.int .i64 k, .slice a R.length cap] 29)).heap.size (w.alloc (.cells #[.int .i64 k, .slice a R.length cap] 29)) W2) => box_two h)
  have HW1 := Lib.hid hb1
  have HL := Lib.hid (hl.later hb1)
  have e1 : (w.alloc (.cells #[.int .i64 k, .slice a R.length cap] 29)).heap.size = w.heap.size + 1 := by simp
  have HPR : Hid (PredP R 87 #[.pointer (some ⟨w.heap.size, 0, none⟩)] (pairsF R) (w.heap.size + 1) (w.alloc (.cells #[.int .i64 k, .slice a R.length cap] 29))) := Lib.hid (fun j h W hW => openPairs1_any k R a cap w.heap.size _ W (HL.out.later (by rw [e1]; exact hW)) hs (pairOk hs (List.getElem_mem h)) (HBX.out W (by rw [e1]; exact hW)))
  have HDF := Lib.hid (fun a5 c5 W h1 h2 h3 => deletePairs_any R 87 #[.pointer (some ⟨w.heap.size, 0, none⟩)] (pairsF R) a5 c5 (w.heap.size + 1) W h1 (by omega) h2 h3 (enters_of Tryz.func87 (by kernel_rfl) rfl))
  clear hl hs hb1
  go_enter Tryz.func35, Tryz.ntmps35
  go_wp2_with fail
  generalize w.alloc (.cells #[.int .i64 k, .slice a R.length cap] 29) = w1 at *
  refine (HPF.out _ HL.out).mono ?_
  rintro e w2 ⟨a2, c2, rfl, ho, hb2⟩
  have HO := Lib.hid ho
  have HB2 := Lib.hid hb2
  have HDC := Lib.hid (HDF.out a2 c2 w2 (owns_mono ho (by omega)) (by have := hb2.size; omega) (fun j h W hW => HPR.out j h W (by
    have h4 : Below (w.heap.size + 1) w1 w2 := by rw [← e1]; exact hb2
    exact h4.trans hW)))
  clear ho hb2 HPF HDF
  go_wp2_with fail
  refine HDC.out.mono ?_
  rintro e w3 ⟨a3, c3, rfl, hb3⟩
  have F : Hid (Below w.heap.size w w3) := Lib.hid (HW1.out.trans ((Below.trans (by have h := HB2.out; rw [e1] at h; exact h) hb3).mono (by omega)))
  clear hb3
  go_wp2_with fail
  go_ret
  exact ⟨a3, c3, rfl, F.out⟩
set_option maxRecDepth 100000 in
set_option maxHeartbeats 2000000 in
theorem implCountPairs_any (k : Int) (R : List RulD) (a : Option Addr) (cap : Nat) (w : World) (hl : RulesIn w a R) (hs : sysP k R) :
    Calls Tryz.prog 33 #[.agg #[.int .i64 k, .slice a R.length cap]] w fun e w' => e = .returned (.tuple #[.int .i64 ((pairsF R).length : Nat), .int .i64 ((openF R).length : Nat)]) ∧ Below w.heap.size w w' := by
  have HP := Lib.hid (fun W h => implPairsOf_any k R a cap W h hs)
  have HO := Lib.hid (fun W h => implOpenPairs_any k R a cap W h hs)
  have hb1 := alloc_belowS w (.cells #[.int .i64 k, .slice a R.length cap] 29)
  have HBX := Lib.hid (fun W2 (h : Below (w.alloc (.cells #[.int .i64 k, .slice a R.length cap] 29)).heap.size (w.alloc (.cells #[.int .i64 k, .slice a R.length cap] 29)) W2) => box_two h)
  have HW1 := Lib.hid hb1
  have HL := Lib.hid (hl.later hb1)
  clear hl hs hb1
  go_enter Tryz.func33, Tryz.ntmps33
  go_wp2_with fail
  generalize w.alloc (.cells #[.int .i64 k, .slice a R.length cap] 29) = w1 at *
  obtain ⟨r0, r1⟩ := HBX.out w1 (Below.refl _ _)
  obtain ⟨n1, hn1⟩ : ∃ n, n = (pairsF R).length := ⟨_, rfl⟩
  obtain ⟨n2, hn2⟩ : ∃ n, n = (openF R).length := ⟨_, rfl⟩
  have HE1 := Lib.hid hn1
  have HE2 := Lib.hid hn2
  rw [← hn1] at HP
  rw [← hn2] at HO
  clear hn1 hn2
  go_region_held3 (fun w' => w'.cell? ⟨w.heap.size, 0, none⟩ = some (.int .i64 k) ∧ w'.cell? ⟨w.heap.size, 1, none⟩ = some (.slice a R.length cap)) (go_keep) (first
    | (go_at_call 29; refine (HP.out _ (HL.out.later (by first | (repeat (first | exact Below.refl _ _ | refine Below.drew ?_ | refine below_drewN ?_ _)); done | (refine Below.now K6.out ?_; (repeat (first | exact Below.refl _ _ | refine Below.drew ?_ | refine below_drewN ?_ _)); done)))).mono ?_; rintro e w5 ⟨a5, c5, rfl, ho5, hb5⟩; have K5 : Hid (Below w1.heap.size w1 w5) := Lib.hid (by first | (refine Below.now ?_ hb5; (repeat (first | exact Below.refl _ _ | refine Below.drew ?_ | refine below_drewN ?_ _)); done) | (refine Below.now K6.out (Below.now ?_ hb5); (repeat (first | exact Below.refl _ _ | refine Below.drew ?_ | refine below_drewN ?_ _)); done)); have t0 := (HBX.out w5 K5.out).1; have t1 := (HBX.out w5 K5.out).2; clear hb5 ho5)
    | (go_at_call 35; refine (HO.out _ (HL.out.later (by first | (repeat (first | exact Below.refl _ _ | refine Below.drew ?_ | refine below_drewN ?_ _)); done | (refine Below.now K5.out ?_; (repeat (first | exact Below.refl _ _ | refine Below.drew ?_ | refine below_drewN ?_ _)); done)))).mono ?_; rintro e w6 ⟨a6, c6, rfl, hb6⟩; have K6 : Hid (Below w1.heap.size w1 w6) := Lib.hid (by first | (refine Below.now ?_ hb6; (repeat (first | exact Below.refl _ _ | refine Below.drew ?_ | refine below_drewN ?_ _)); done) | (refine Below.now K5.out (Below.now ?_ hb6); (repeat (first | exact Below.refl _ _ | refine Below.drew ?_ | refine below_drewN ?_ _)); done)); have t2 := (HBX.out w6 K6.out).1; have t3 := (HBX.out w6 K6.out).2; clear hb6))
  all_goals
    go_wp2_with fail
    refine bodyPost_ret (v := .tuple #[.int .i64 (n1 : Nat), .int .i64 (n2 : Nat)]) ?_ rfl ⟨by rw [HE1.out, HE2.out], by first | exact Below.now HW1.out K6.out | exact Below.now HW1.out K5.out⟩
    simp [results, Tryz.results33, go_sem]
set_option maxRecDepth 100000 in
set_option maxHeartbeats 2000000 in
theorem implIsComplete_any (k : Int) (R : List RulD) (a : Option Addr) (cap : Nat) (w : World) (hl : RulesIn w a R) (hlen : R.length ≤ 2 ^ 40) (hz : SzR R) :
    Calls Tryz.prog 36 #[.agg #[.int .i64 k, .slice a R.length cap]] w (RetP (ComplP k R) w) := by
  have HSO := Lib.hid (fun W h => implSystemOk_any k R a cap W h hlen hz)
  have HO := Lib.hid (fun W h hs => implOpenPairs_any k R a cap W h hs)
  have hb1 := alloc_belowS w (.cells #[.int .i64 k, .slice a R.length cap] 29)
  have HBX := Lib.hid (fun W2 (h : Below (w.alloc (.cells #[.int .i64 k, .slice a R.length cap] 29)).heap.size (w.alloc (.cells #[.int .i64 k, .slice a R.length cap] 29)) W2) => box_two h)
  have HW1 := Lib.hid hb1
  have HL := Lib.hid (hl.later hb1)
  clear hl hb1 hz
  go_enter Tryz.func36, Tryz.ntmps36
  go_wp2_with fail
  generalize w.alloc (.cells #[.int .i64 k, .slice a R.length cap] 29) = w1 at *
  refine (HSO.out _ HL.out).mono ?_
  rintro e w2 ⟨bb, hbb, rfl, hb2⟩
  have HBB := Lib.hid hbb
  have HB2 := Lib.hid hb2
  obtain ⟨s0, s1⟩ := HBX.out w2 hb2
  clear hbb hb2
  cases bb
  · have F : Hid (RetP (ComplP k R) w (.returned (.bool false)) w2) := Lib.hid (RetP.no (fun h => by have := HBB.out.2 h.1; cases this) (Below.now HW1.out HB2.out))
    go_wp2_with fail
    go_ret
    exact F.out
  · have HSP := Lib.hid (HBB.out.1 rfl)
    go_wp2_with fail
    refine (HO.out _ (HL.out.later HB2.out) HSP.out).mono ?_
    rintro e w3 ⟨a3, c3, rfl, hb3⟩
    have HB3 := Lib.hid (Below.now HW1.out (Below.now HB2.out hb3))
    clear hb3 s0 s1
    by_cases h0 : (openF R).length = 0
    · have F : Hid (RetP (ComplP k R) w (.returned (.bool true)) w3) := Lib.hid (RetP.yes ⟨HSP.out, List.length_eq_zero_iff.1 h0⟩ HB3.out)
      have hb : (((openF R).length : Int) == 0) = true := by rw [h0]; rfl
      clear h0
      go_wp2_with fail
      go_ret
      exact F.out
    · have F : Hid (RetP (ComplP k R) w (.returned (.bool false)) w3) := Lib.hid (RetP.no (fun h => h0 (by rw [h.2]; rfl)) HB3.out)
      have hb : (((openF R).length : Int) == 0) = false := by rw [beq_eq_false_iff_ne]; omega
      clear h0
      go_wp2_with fail
      go_ret
      exact F.out
end Go.Proofs.YtdpfgdckgchpdaaGreatDoor
