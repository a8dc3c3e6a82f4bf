/-
  CountPairs and IsComplete of the reference.
-/
import Derived.Test.YtdpfgdckgchpdaaGreatDoorGrp32
import Derived.Test.YtdpfgdckgchpdaaGreatDoorGrp31
namespace Go.Proofs.YtdpfgdckgchpdaaGreatDoor
open Go.RowKit
set_option linter.unusedVariables false
/-- what DeleteFunc hands back: a slice of so many pairs -/
def RetDel (R : List RulD) (S : List PairD) (base : Nat) (w : World) (e : Ending) (w' : World) : Prop := ∃ a cap, e = .returned (.slice a (openL R S).length cap) ∧ Below base w w'
set_option maxRecDepth 100000 in
set_option maxHeartbeats 2000000 in
theorem deletePairs_any (R : List RulD) (g0 : Nat) (caps : Array Value) (S : List PairD) (a : Option Addr) (cap base : Nat) (w : World) (ho : w.ownsRow base 56 5 (.slice a S.length cap) S.length (cellsL prV S)) (hlen : S.length ≤ 5000) (hbase : base ≤ w.heap.size) (hf : PredP R g0 caps S base w) (eg : ∀ args w, (callFunc g0 args).run Tryz.prog w = .ok (.enter g0 args) w) :
    Calls Tryz.prog 86 #[.slice a S.length cap, .func (.func g0) #[] caps] w (RetDel R S base w) := by
  have HI := Lib.hid (indexPairs_any R g0 caps S a cap w (owns_rows ho) hlen base hbase hf eg)
  have HF := Lib.hid hf
  have HO := Lib.hid ho
  clear hf ho
  go_enter Tryz.func86, Tryz.ntmps86
  go_wp2_with fail
  refine HI.out.mono ?_
  rintro e w2 ⟨hb2, ⟨hk, rfl⟩ | ⟨i, hi, hk, hj, rfl⟩⟩
  · have F : Hid (RetDel R S base w (.returned (.slice a S.length cap)) w2) := Lib.hid ⟨a, cap, by rw [hk], hb2.mono hbase⟩
    clear hk hb2
    go_wp2_with fail
    go_ret
    exact F.out
  · rcases HO.out.2 with ⟨hv, h0⟩ | ⟨g, cap', cur, hv, hbg, hg, hnc, hcm, hs, ht⟩
    · omega
    simp only [Value.slice.injEq] at hv
    obtain ⟨rfl, _, rfl⟩ := hv
    have HD0 : Hid (DelP w w2 base g S.length cap S (i + 1)) := Lib.hid (DelP.skip ⟨cellsL prV S, owns_later HO.out hb2, rfl, hb2.mono hbase, rfl⟩)
    have hkl : (openL R (S.take (i + 1))).length = i := by
      rw [openL_take hi, hk, openL_yes hj, List.append_nil, List.length_take]; omega
    have HKL := Lib.hid hkl
    unfold maxLen at hcm
    clear hk hj hb2 hg ht hs hkl
    have hi1 : (((i : Nat) : Int) == -1) = false := by rw [beq_eq_false_iff_ne]; omega
    go_wp2_with fail
    go_loopw [5, 6] (fun x y wr => ∃ (j kn : Nat), j ≤ S.length ∧ y = .int .i64 (j : Nat) ∧ x = .int .i64 (kn : Nat) ∧ kn < j ∧ Hid (kn = (openL R (S.take j)).length) ∧ DelP w wr base g S.length cap S j) (fun _ y _ => S.length - (intOf y).toNat)
    case atStart => exact ⟨i + 1, i, by omega, by go_num, rfl, by omega, Lib.hid HKL.out.symm, HD0.out⟩
    case round =>
      clear HD0 HKL
      obtain ⟨j, kn, hj, rfl, rfl, hkj, HK, hd⟩ := hrel
      have HD := Lib.hid hd
      by_cases hlt : j < S.length
      · have c0 : wr.cell? ⟨g, j * 5, none⟩ = some (.string S[j].1) := hd.cell hlt (c := 0) rfl
        have c1 : wr.cell? ⟨g, j * 5 + 1, none⟩ = some (.int .i64 (S[j].2.1 : Nat)) := hd.cell hlt (c := 1) rfl
        have c2 : wr.cell? ⟨g, j * 5 + 2, none⟩ = some (.int .i64 0) := hd.cell hlt (c := 2) rfl
        have c3 : wr.cell? ⟨g, j * 5 + 3, none⟩ = some (.int .i64 (S[j].2.2.1 : Nat)) := hd.cell hlt (c := 3) rfl
        have c4 : wr.cell? ⟨g, j * 5 + 4, none⟩ = some (.int .i64 (S[j].2.2.2 : Nat)) := hd.cell hlt (c := 4) rfl
        have hbw : Below base w wr := by obtain ⟨_, _, _, hb, _⟩ := hd; exact hb
        have HC := Lib.hid (fun o => HF.out j hlt (wr.alloc o) (hbw.trans ((alloc_belowS wr o).mono (Nat.le_trans hbase hbw.size))))
        have HT := Lib.hid (openL_take (R := R) hlt)
        unfold pairVal at HC
        clear hd
        generalize S[j] = p at *
        obtain ⟨u, x, y, z⟩ := p
        go_wp2_with fail
        refine (HC.out _).mono ?_
        rintro e w5 ⟨bb, hbb, rfl, hb5⟩
        have HD5 := Lib.hid (HD.out.later (Below.now (alloc_belowS wr _) hb5) hbase)
        obtain ⟨k0, k1, k2, k3, k4⟩ := pairAt_box (p := (u, x, y, z)) hb5
        have HBB := Lib.hid hbb
        clear hb5 hbb c0 c1 c2 c3 c4 HC hbw
        cases bb
        · have HK2 : Hid (kn + 1 = (openL R (S.take (j + 1))).length) := Lib.hid (by
            rw [HT.out, openL_no (fun h => by have := HBB.out.2 h; cases this), List.length_append, ← HK.out]; rfl)
          have hd5 := HD5.out
          obtain ⟨v0, m0⟩ := hd5.there (i := kn * 5) (by omega)
          obtain ⟨v1, m1⟩ := hd5.there (i := kn * 5 + 1) (by omega)
          obtain ⟨v2, m2⟩ := hd5.there (i := kn * 5 + 2) (by omega)
          obtain ⟨v3, m3⟩ := hd5.there (i := kn * 5 + 3) (by omega)
          obtain ⟨v4, m4⟩ := hd5.there (i := kn * 5 + 4) (by omega)
          have z0 := hd5.frozen (kn * 5)
          have z1 := hd5.frozen (kn * 5 + 1)
          have z2 := hd5.frozen (kn * 5 + 2)
          have z3 := hd5.frozen (kn * 5 + 3)
          have z4 := hd5.frozen (kn * 5 + 4)
          have HD6 := Lib.hid (((((hd5.set (i := kn * 5) (by omega) (.string u)).set (i := kn * 5 + 1) (by omega) (.int .i64 (x : Nat))).set (i := kn * 5 + 2) (by omega) (.int .i64 0)).set (i := kn * 5 + 3) (by omega) (.int .i64 (y : Nat))).set (i := kn * 5 + 4) (by omega) (.int .i64 (z : Nat))).skip
          clear hd5
          go_wp2_with fail
          go_roundw
          case rel => exact ⟨j + 1, kn + 1, by omega, by go_num, by go_num, by omega, HK2, HD6.out⟩
          case measure => simp [intOf]; omega
        · have HK2 : Hid (kn = (openL R (S.take (j + 1))).length) := Lib.hid (by
            rw [HT.out, openL_yes (HBB.out.1 rfl), List.append_nil]; exact HK.out)
          have HD6 := Lib.hid HD5.out.skip
          clear k0 k1 k2 k3 k4
          go_wp2_with fail
          go_roundw
          case rel => exact ⟨j + 1, kn, by omega, by go_num, rfl, by omega, HK2, HD6.out⟩
          case measure => simp [intOf]; omega
      · obtain rfl : j = S.length := by omega
        obtain ⟨hz1, hz2⟩ := zero_one (S.length - kn)
        generalize hzs : (Builtin.zeroCells #[.string ⟨#[]⟩, .int .i64 0, .int .i64 0, .int .i64 0, .int .i64 0] (S.length - kn)).toList = zs at *
        have hcl := fun ty => run_clear_rows (P := Tryz.prog) wr 51 56 ty (.agg #[.string ⟨#[]⟩, .int .i64 0, .int .i64 0, .int .i64 0, .int .i64 0]) Tryz.underlying51 Tryz.zeroPair g (kn * 5) (S.length - kn) (cap - kn) (by omega) zs hzs hz2 (fun t ht => by obtain ⟨v, hv⟩ := hd.there (i := kn * 5 + t) (by omega); rw [hv]; rfl) (fun t ht => hd.frozen _)
        have HF2 : Hid (RetDel R S base w (.returned (.slice (some ⟨g, 0, none⟩) kn cap)) (wr.setCells g (kn * 5) zs)) := Lib.hid ⟨_, _, by
          have h := HK.out
          rw [List.take_length] at h
          rw [h], DelP.fill zs (kn * 5) wr hd (by omega)⟩
        have hne : ¬ cap = kn := by omega
        have HZS := Lib.hid hzs
        clear hd hzs hz1 hz2
        go_wp2_with fail
        go_ret
        exact HF2.out
end Go.Proofs.YtdpfgdckgchpdaaGreatDoor
namespace Go.Proofs.YtdpfgdckgchpdaaGreatDoor
open Go.RowKit
set_option linter.unusedVariables false
set_option maxRecDepth 100000 in
set_option maxHeartbeats 2000000 in
theorem specCountPairs_any (k : Int) (R : List RulD) (a : Option Addr) (cap : Nat) (w : World) (hl : RulesIn w a R) (hs : sysP k R) :
    Calls Tryz.prog 52 #[.agg #[.int .i64 k, .slice a R.length cap]] w fun e w' => e = .returned (.tuple #[.int .i64 ((pairsF R).length : Nat), .int .i64 ((openF R).length : Nat)]) ∧ Below w.heap.size w w' := by
  have HP := Lib.hid (fun W h => specPairsOf_any k R a cap W h hs)
  have HO := Lib.hid (fun W h => specOpenPairs_any k R a cap W h hs)
  have hb1 := alloc_belowS w (.cells #[.int .i64 k, .slice a R.length cap] 29)
  have HBX := Lib.hid (fun W2 (h : Below (w.alloc (.cells #[.int .i64 k, .slice a R.length cap] 29)).heap.size (w.alloc (.cells #[.int .i64 k, .slice a R.length cap] 29)) W2) => box_two h)
  have HW1 := Lib.hid hb1
  have HL := Lib.hid (hl.later hb1)
  clear hl hs hb1
  go_enter Tryz.func52, Tryz.ntmps52
  go_wp2_with fail
  generalize w.alloc (.cells #[.int .i64 k, .slice a R.length cap] 29) = w1 at *
  obtain ⟨r0, r1⟩ := HBX.out w1 (Below.refl _ _)
  obtain ⟨n1, hn1⟩ : ∃ n, n = (pairsF R).length := ⟨_, rfl⟩
  obtain ⟨n2, hn2⟩ : ∃ n, n = (openF R).length := ⟨_, rfl⟩
  have HE1 := Lib.hid hn1
  have HE2 := Lib.hid hn2
  rw [← hn1] at HP
  rw [← hn2] at HO
  clear hn1 hn2
  go_region_held3 (fun w' => w'.cell? ⟨w.heap.size, 0, none⟩ = some (.int .i64 k) ∧ w'.cell? ⟨w.heap.size, 1, none⟩ = some (.slice a R.length cap)) (go_keep) (first
    | (go_at_call 99; refine (HP.out _ (HL.out.later (by first | (repeat (first | exact Below.refl _ _ | refine Below.drew ?_ | refine below_drewN ?_ _)); done | (refine Below.now K6.out ?_; (repeat (first | exact Below.refl _ _ | refine Below.drew ?_ | refine below_drewN ?_ _)); done)))).mono ?_; rintro e w5 ⟨a5, c5, rfl, ho5, hb5⟩; have K5 : Hid (Below w1.heap.size w1 w5) := Lib.hid (by first | (refine Below.now ?_ hb5; (repeat (first | exact Below.refl _ _ | refine Below.drew ?_ | refine below_drewN ?_ _)); done) | (refine Below.now K6.out (Below.now ?_ hb5); (repeat (first | exact Below.refl _ _ | refine Below.drew ?_ | refine below_drewN ?_ _)); done)); have t0 := (HBX.out w5 K5.out).1; have t1 := (HBX.out w5 K5.out).2; clear hb5 ho5)
    | (go_at_call 100; refine (HO.out _ (HL.out.later (by first | (repeat (first | exact Below.refl _ _ | refine Below.drew ?_ | refine below_drewN ?_ _)); done | (refine Below.now K5.out ?_; (repeat (first | exact Below.refl _ _ | refine Below.drew ?_ | refine below_drewN ?_ _)); done)))).mono ?_; rintro e w6 ⟨a6, c6, rfl, ho6, hb6⟩; have K6 : Hid (Below w1.heap.size w1 w6) := Lib.hid (by first | (refine Below.now ?_ hb6; (repeat (first | exact Below.refl _ _ | refine Below.drew ?_ | refine below_drewN ?_ _)); done) | (refine Below.now K5.out (Below.now ?_ hb6); (repeat (first | exact Below.refl _ _ | refine Below.drew ?_ | refine below_drewN ?_ _)); done)); have t2 := (HBX.out w6 K6.out).1; have t3 := (HBX.out w6 K6.out).2; clear hb6 ho6))
  all_goals
    go_wp2_with fail
    refine bodyPost_ret (v := .tuple #[.int .i64 (n1 : Nat), .int .i64 (n2 : Nat)]) ?_ rfl ⟨by rw [HE1.out, HE2.out], by first | exact Below.now HW1.out K6.out | exact Below.now HW1.out K5.out⟩
    simp [results, Tryz.results52, go_sem]
/-- what IsComplete is -/
def ComplP (k : Int) (R : List RulD) : Prop := sysP k R ∧ openF R = []
set_option maxRecDepth 100000 in
set_option maxHeartbeats 2000000 in
theorem specIsComplete_any (k : Int) (R : List RulD) (a : Option Addr) (cap : Nat) (w : World) (hl : RulesIn w a R) (hlen : R.length ≤ 2 ^ 40) (hz : SzR R) :
    Calls Tryz.prog 56 #[.agg #[.int .i64 k, .slice a R.length cap]] w (RetP (ComplP k R) w) := by
  have HSO := Lib.hid (fun W h => specSystemOk_any k R a cap W h hlen hz)
  have HO := Lib.hid (fun W h hs => specOpenPairs_any k R a cap W h hs)
  have hb1 := alloc_belowS w (.cells #[.int .i64 k, .slice a R.length cap] 29)
  have HBX := Lib.hid (fun W2 (h : Below (w.alloc (.cells #[.int .i64 k, .slice a R.length cap] 29)).heap.size (w.alloc (.cells #[.int .i64 k, .slice a R.length cap] 29)) W2) => box_two h)
  have HW1 := Lib.hid hb1
  have HL := Lib.hid (hl.later hb1)
  clear hl hb1 hz
  go_enter Tryz.func56, Tryz.ntmps56
  go_wp2_with fail
  generalize w.alloc (.cells #[.int .i64 k, .slice a R.length cap] 29) = w1 at *
  refine (HSO.out _ HL.out).mono ?_
  rintro e w2 ⟨bb, hbb, rfl, hb2⟩
  have HBB := Lib.hid hbb
  have HB2 := Lib.hid hb2
  obtain ⟨s0, s1⟩ := HBX.out w2 hb2
  clear hbb hb2
  cases bb
  · have F : Hid (RetP (ComplP k R) w (.returned (.bool false)) w2) := Lib.hid (RetP.no (fun h => by have := HBB.out.2 h.1; cases this) (Below.now HW1.out HB2.out))
    go_wp2_with fail
    go_ret
    exact F.out
  · have HSP := Lib.hid (HBB.out.1 rfl)
    go_wp2_with fail
    refine (HO.out _ (HL.out.later HB2.out) HSP.out).mono ?_
    rintro e w3 ⟨a3, c3, rfl, ho3, hb3⟩
    have HB3 := Lib.hid (Below.now HW1.out (Below.now HB2.out hb3))
    clear hb3 ho3 s0 s1
    by_cases h0 : (openF R).length = 0
    · have F : Hid (RetP (ComplP k R) w (.returned (.bool true)) w3) := Lib.hid (RetP.yes ⟨HSP.out, List.length_eq_zero_iff.1 h0⟩ HB3.out)
      have hb : (((openF R).length : Int) == 0) = true := by rw [h0]; rfl
      clear h0
      go_wp2_with fail
      go_ret
      exact F.out
    · have F : Hid (RetP (ComplP k R) w (.returned (.bool false)) w3) := Lib.hid (RetP.no (fun h => h0 (by rw [h.2]; rfl)) HB3.out)
      have hb : (((openF R).length : Int) == 0) = false := by rw [beq_eq_false_iff_ne]; omega
      clear h0
      go_wp2_with fail
      go_ret
      exact F.out
end Go.Proofs.YtdpfgdckgchpdaaGreatDoor
