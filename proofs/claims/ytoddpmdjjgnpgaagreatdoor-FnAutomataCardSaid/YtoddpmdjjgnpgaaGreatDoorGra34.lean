/-
  CountAccepted of the program.
-/
import Derived.Test.YtoddpmdjjgnpgaaGreatDoorGra15
import Derived.Test.YtoddpmdjjgnpgaaGreatDoorGra03
import Derived.Test.YtoddpmdjjgnpgaaGreatDoorGra20
import Derived.Test.YtoddpmdjjgnpgaaGreatDoorGra01
import Derived.Test.YtoddpmdjjgnpgaaGreatDoorGra21
import Derived.Test.YtoddpmdjjgnpgaaGreatDoorGra08
import Derived.Test.YtoddpmdjjgnpgaaGreatDoorGra17
import Derived.Test.YtoddpmdjjgnpgaaGreatDoorGra04
import Derived.Test.YtoddpmdjjgnpgaaGreatDoorGra24
import Derived.Test.YtoddpmdjjgnpgaaGreatDoorGra19
namespace Go.Proofs.YtoddpmdjjgnpgaaGreatDoor
open Go.RowKit
set_option linter.unusedVariables false
set_option maxRecDepth 20000 in
set_option maxHeartbeats 4000000 in
theorem implMeet_no (k k2 : Nat) (N N2 : List Int) (F F2 : List Bool) (aN aF aN2 aF2 : Option Addr) (cN cF cN2 cF2 : Nat) (w : World) (hN : IntsIn w aN N) (h : AutP k N F) (hN2 : IntsIn w aN2 N2) (h2 : AutP k2 N2 F2) (hne : k ≠ k2) :
    Calls Tryz.prog 17 #[.agg #[.int .i64 (k : Nat), .slice aN N.length cN, .slice aF F.length cF], .agg #[.int .i64 (k2 : Nat), .slice aN2 N2.length cN2, .slice aF2 F2.length cF2]] w fun e w' => e = .returned (.tuple #[.agg #[.int .i64 0, .slice none 0 0, .slice none 0 0], .bool false]) ∧ Below w.heap.size w w' := by
  obtain ⟨w1, hw1⟩ : ∃ w1, ((w.alloc (.cells #[.int .i64 (k : Nat), .slice aN N.length cN, .slice aF F.length cF] 30)).alloc (.cells #[.int .i64 (k2 : Nat), .slice aN2 N2.length cN2, .slice aF2 F2.length cF2] 30)).alloc (.cells #[.int .i64 0, .slice none 0 0, .slice none 0 0] 30) = w1 := ⟨_, rfl⟩
  have HB1 : Hid (Below w.heap.size w w1) := Lib.hid (by rw [← hw1]; exact (((Below.refl _ _).alloc (Nat.le_refl _) _).alloc (by simp) _).alloc (by simp; omega) _)
  have HX1 : Hid (w1.heap[w.heap.size]? = some (.cells #[.int .i64 (k : Nat), .slice aN N.length cN, .slice aF F.length cF] 30 (0, 0))) := Lib.hid (by
    rw [← hw1, (alloc_belowS _ _).block _ (by simp <;> omega), (alloc_belowS _ _).block _ (by simp)]; exact alloc_at _ _)
  have HY1 : Hid (w1.heap[w.heap.size + 1]? = some (.cells #[.int .i64 (k2 : Nat), .slice aN2 N2.length cN2, .slice aF2 F2.length cF2] 30 (0, 0))) := Lib.hid (by
    rw [← hw1, (alloc_belowS _ _).block _ (by simp)]; have h := alloc_at (w.alloc (.cells #[.int .i64 (k : Nat), .slice aN N.length cN, .slice aF F.length cF] 30)) (.cells #[.int .i64 (k2 : Nat), .slice aN2 N2.length cN2, .slice aF2 F2.length cF2] 30); simpa using h)
  have HZ1 : Hid (w1.heap[w.heap.size + 2]? = some (.cells #[.int .i64 0, .slice none 0 0, .slice none 0 0] 30 (0, 0))) := Lib.hid (by
    rw [← hw1]; have h := alloc_at ((w.alloc (.cells #[.int .i64 (k : Nat), .slice aN N.length cN, .slice aF F.length cF] 30)).alloc (.cells #[.int .i64 (k2 : Nat), .slice aN2 N2.length cN2, .slice aF2 F2.length cF2] 30)) (.cells #[.int .i64 0, .slice none 0 0, .slice none 0 0] 30); simpa using h)
  have HM1 := Lib.hid (hN2.later HB1.out)
  have HOK := Lib.hid (implAutOk_yes k N F aN aF cN cF w1 (hN.later HB1.out) h)
  have HOK2 : Hid (∀ W, Below w1.heap.size w1 W → Calls Tryz.prog 45 #[.agg #[.int .i64 (k2 : Nat), .slice aN2 N2.length cN2, .slice aF2 F2.length cF2]] W fun e w' => e = .returned (.bool true) ∧ Below W.heap.size W w') := Lib.hid (fun W hW => implAutOk_yes k2 N2 F2 aN2 aF2 cN2 cF2 W (HM1.out.later hW) h2)
  have hkk : ((k : Int) != (k2 : Int)) = true := by simp; omega
  clear hN h hN2 h2 hne
  obtain ⟨x0, x1, x2⟩ := aut_cells HX1.out
  go_enter Tryz.func17, Tryz.ntmps17
  go_upto_region 1 with fail
  generalize ((w.alloc (.cells #[.int .i64 (k : Nat), .slice aN N.length cN, .slice aF F.length cF] 30)).alloc (.cells #[.int .i64 (k2 : Nat), .slice aN2 N2.length cN2, .slice aF2 F2.length cF2] 30)).alloc (.cells #[.int .i64 0, .slice none 0 0, .slice none 0 0] 30) = wg at *
  subst hw1
  go_wp2_with fail
  refine HOK.out.mono ?_
  rintro e w2 ⟨rfl, hb2⟩
  have HB2 := Lib.hid hb2
  clear hb2 x0 x1 x2
  obtain ⟨y0, y1, y2⟩ := aut_cells (blk_later HY1.out HB2.out)
  go_wp2_with fail
  refine (HOK2.out _ HB2.out).mono ?_
  rintro e w3 ⟨rfl, hb3⟩
  have HB13 := Lib.hid (Below.now HB2.out hb3)
  clear hb3 y0 y1 y2
  have HB3 := Lib.hid (Below.now HB1.out HB13.out)
  have HZ3 := Lib.hid (blk_later HZ1.out HB13.out)
  obtain ⟨x0, -, -⟩ := aut_cells (blk_later HX1.out HB13.out)
  obtain ⟨y0, -, -⟩ := aut_cells (blk_later HY1.out HB13.out)
  obtain ⟨m0, m1, m2, mf0, mf1, mf2⟩ := aut_facts HZ3.out
  obtain ⟨u0, u1, u2⟩ := aut_cells (aut_three HZ3.out (.int .i64 0) (.slice none 0 0) (.slice none 0 0))
  have FR : Hid (Below w.heap.size w (((w3.setCell ⟨w.heap.size + 2, 0, none⟩ (.int .i64 0)).setCell ⟨w.heap.size + 2, 1, none⟩ (.slice none 0 0)).setCell ⟨w.heap.size + 2, 2, none⟩ (.slice none 0 0))) := Lib.hid (((HB3.out.setCell (p := ⟨w.heap.size + 2, 0, none⟩) (by show w.heap.size ≤ w.heap.size + 2; omega) _).setCell (p := ⟨w.heap.size + 2, 1, none⟩) (by show w.heap.size ≤ w.heap.size + 2; omega) _).setCell (p := ⟨w.heap.size + 2, 2, none⟩) (by show w.heap.size ≤ w.heap.size + 2; omega) _)
  go_wp2_with fail
  refine bodyPost_ret (v := .tuple #[.agg #[.int .i64 0, .slice none 0 0, .slice none 0 0], .bool false]) ?_ rfl ⟨rfl, FR.out⟩
  simp [results, Tryz.results17, go_sem, u0, u1, u2]
end Go.Proofs.YtoddpmdjjgnpgaaGreatDoor
namespace Go.Proofs.YtoddpmdjjgnpgaaGreatDoor
open Go.RowKit
set_option linter.unusedVariables false
/-- a word with each letter behind it -/
def exts (v : ByteArray) (x : Nat) : List ByteArray := (List.range x).map fun x => v ++ letterN x
def longer (k : Nat) (l : List ByteArray) : List ByteArray := l.flatMap fun v => exts v k
/-- the words of a length -/
def lev (k : Nat) : Nat → List ByteArray
  | 0 => [⟨#[]⟩]
  | j + 1 => longer k (lev k j)
def up (k : Nat) : Nat → List ByteArray
  | 0 => lev k 0
  | j + 1 => up k j ++ lev k (j + 1)
end Go.Proofs.YtoddpmdjjgnpgaaGreatDoor
namespace Go.Proofs.YtoddpmdjjgnpgaaGreatDoor
open Go.RowKit
set_option linter.unusedVariables false
/-- a link: a step, or a step back, to a word of at most n letters -/
def LinkL (R : List RulD) (n : Nat) (u v : List UInt8) : Prop := v.length ≤ n ∧ (Stp (SR R) u v ∨ Stp (SR R) v u)
inductive ReachL (R : List RulD) (n : Nat) (u : List UInt8) : List UInt8 → Prop
  | refl : ReachL R n u u
  | step {v x : List UInt8} : ReachL R n u v → LinkL R n v x → ReachL R n u x
theorem ReachL.trans {R : List RulD} {n : Nat} {u v x : List UInt8} (a : ReachL R n u v) (b : ReachL R n v x) : ReachL R n u x := by
  induction b with
  | refl => exact a
  | step _ l ih => exact .step ih l
theorem ReachL.len {R : List RulD} {n : Nat} {u v : List UInt8} (hu : u.length ≤ n) (h : ReachL R n u v) : v.length ≤ n := by
  cases h with
  | refl => exact hu
  | step _ l => exact l.1
theorem ReachL.symm {R : List RulD} {n : Nat} {u v : List UInt8} (hu : u.length ≤ n) (h : ReachL R n u v) : ReachL R n v u := by
  induction h with
  | refl => exact .refl
  | step r l ih => exact (ReachL.step .refl ⟨r.len hu, l.2.symm⟩).trans ih
theorem ReachL.red {R : List RulD} {n : Nat} (hd : Dwn (SR R)) {u v : List UInt8} (h : Red (SR R) u v) (hu : u.length ≤ n) : ReachL R n u v := by
  induction h with
  | refl => exact .refl
  | step s _ ih =>
    have h1 := wt_len (hd.stp s)
    exact (ReachL.step .refl ⟨by omega, .inl s⟩).trans (ih (by omega))
section
variable {k : Int} {R : List RulD} {n : Nat}
end
end Go.Proofs.YtoddpmdjjgnpgaaGreatDoor
namespace Go.Proofs.YtoddpmdjjgnpgaaGreatDoor
open Go.RowKit
set_option linter.unusedVariables false
set_option maxHeartbeats 1000000 in
theorem makeWord_any (a : Option Addr) (l : List UInt8) (cap i kn most : Nat) (w : World) (hl : BytesIn w a l) (hlen : l.length ≤ 2 ^ 40) (hi : i ≤ 1000) (hk1 : 1 ≤ kn) (hk4 : kn ≤ 4) (hm : most ≤ 16) :
    Calls Tryz.prog 7 #[.slice a l.length cap, .int .i64 (i : Nat), .int .i64 (kn : Int), .int .i64 (most : Nat)] w fun e w' => ∃ s : ByteArray, (allB (letB (kn : Int)) s = true ∧ s.size ≤ most) ∧ e = .returned (.string s) ∧ Below w.heap.size w w' := by
  have HN := Lib.hid (l31New_any a l cap i w hl hlen hi)
  have HD := Lib.hid (fun B W h => l02Draw_any B kn most a l cap W h hk1 hk4 hm)
  have m1 : min (kn : Int) 4 = (kn : Int) := by omega
  have m2 : max (1 : Int) (kn : Int) = (kn : Int) := by omega
  have m3 : min (most : Int) 16 = (most : Int) := by omega
  have m4 : max (0 : Int) (most : Int) = (most : Int) := by omega
  clear hl
  go_enter Tryz.func7, Tryz.ntmps7
  go_wp2_with fail
  refine HN.out.mono ?_
  rintro e w2 ⟨rfl, hc, hb2⟩
  have HB2 := Lib.hid hb2
  have HC := Lib.hid hc
  clear hc hb2
  go_wp2_with fail
  refine (HD.out _ _ HC.out).mono ?_
  rintro e w3 ⟨s, hs, rfl, hc3, hg3⟩
  have HS := Lib.hid hs
  have HB3 := Lib.hid (below_curs HB2.out hg3 (Nat.le_refl _))
  clear hs hc3 hg3
  go_wp2_with fail
  go_ret
  exact ⟨s, HS.out, rfl, HB3.out⟩
end Go.Proofs.YtoddpmdjjgnpgaaGreatDoor
namespace Go.Proofs.YtoddpmdjjgnpgaaGreatDoor
open Go.RowKit
set_option linter.unusedVariables false
set_option maxRecDepth 20000 in
set_option maxHeartbeats 4000000 in
theorem implCountAcc_any (k : Nat) (N : List Int) (F : List Bool) (aN aF : Option Addr) (cN cF : Nat) (n : Nat) (w : World) (hN : IntsIn w aN N) (hF : BoolsIn w aF F) (h : AutP k N F) (hn : n ≤ 16) :
    Calls Tryz.prog 11 #[.agg #[.int .i64 (k : Nat), .slice aN N.length cN, .slice aF F.length cF], .int .i64 (n : Nat)] w fun e w' => e = .returned (.int .i64 (cntW k N F n 0 : Nat)) ∧ Below w.heap.size w w' := by
  have HW1 := Lib.hid (alloc_belowS w (.cells #[.int .i64 (k : Nat), .slice aN N.length cN, .slice aF F.length cF] 30))
  have HX1 := Lib.hid (alloc_at w (.cells #[.int .i64 (k : Nat), .slice aN N.length cN, .slice aF F.length cF] 30))
  have HAP := Lib.hid h
  have HN1 := Lib.hid (hN.later HW1.out)
  have HF1 := Lib.hid (hF.later HW1.out)
  have hsm := h.small
  have hk4 := h.1.1.2
  have hn1 := h.1.2.1
  have hn80 := h.1.2.2
  have HOK := Lib.hid (fun W hW => implAutOk_yes k N F aN aF cN cF W hW h)
  have HNX := Lib.hid (fun W st x hW hst => autNext_any k N F.length aN aF cN cF st x W hW hk4 hst (by omega))
  have HMK := Lib.hid (fun k h => run_make_row' (P := Tryz.prog) 27 3 (.int .i64 0) 8 Tryz.underlying27 Tryz.infoInt rfl .i64 .i64 k h (by omega))
  have HWI : Hid (∀ W, Calls Tryz.prog 50 #[.int .i64 (n : Nat), .int .i64 0, .int .i64 16] W fun e w' => e = .returned (.bool true) ∧ W = w') := Lib.hid (fun W => by
    have h1 := within_any (n : Nat) 0 16 W
    rwa [show inB ((n : Nat) : Int) 0 16 = true by simp [inB]; omega] at h1)
  clear hN hF h
  obtain ⟨x0, x1, x2⟩ := aut_cells HX1.out
  go_enter Tryz.func11, Tryz.ntmps11
  go_upto_region 1 with fail
  generalize w.alloc (.cells #[.int .i64 (k : Nat), .slice aN N.length cN, .slice aF F.length cF] 30) = w1 at *
  go_wp2_with fail
  refine (HOK.out _ HN1.out).mono ?_
  rintro e w2 ⟨rfl, hb2⟩
  have HB2 := Lib.hid (Below.now HW1.out hb2)
  have HX2 := Lib.hid (blk_later HX1.out hb2)
  have HN2 := Lib.hid (HN1.out.later hb2)
  have HF2 := Lib.hid (HF1.out.later hb2)
  clear hb2 x0 x1 x2 HX1 HN1 HF1 HW1 HOK
  go_wp2_with fail
  refine (HWI.out _).mono ?_
  rintro e w3 ⟨rfl, rfl⟩
  obtain ⟨x0, x1, x2⟩ := aut_cells HX2.out
  have hmk := HMK.out F.length (by omega)
  go_upto_region 4 with fail
  clear hmk x0 x1 x2
  have HR3 := Lib.hid (CtRow.start w2 (m := F.length) (by unfold maxLen; omega))
  have HB3 := Lib.hid (alloc_belowS w2 (.cells (madeCells #[.int .i64 0] F.length) 3))
  generalize w2.alloc (.cells (madeCells #[.int .i64 0] F.length) 3) = w3 at *
  obtain ⟨g0, hg0⟩ : ∃ g, w2.heap.size = g := ⟨_, rfl⟩
  have HG0 : Hid (w2.heap.size ≤ g0) := Lib.hid (by omega)
  rw [hg0] at HR3 ⊢
  clear hg0
  have c1 := HR3.out.cell (v := 0) (by omega)
  have c2 := HR3.out.frozen 0
  have HR4 := Lib.hid (HR3.out.store 0 1)
  have HB4 := Lib.hid (HB3.out.setCell (p := ⟨g0, 0, none⟩) HG0.out (.int .i64 1))
  have h0n : (0 : Int) < (F.length : Int) := by omega
  have hnn : ¬ (F.length : Int) ≤ 0 := by omega
  go_upto_region 5 with fail
  clear c1 c2 h0n hnn
  simp only [Int.natCast_one] at HR4
  generalize w3.setCell ⟨g0, 0, none⟩ (.int .i64 1) = w4 at *
  have HC4 : Hid (CtP k N F.length 0 ((List.replicate F.length 0).set 0 1)) := Lib.hid (CtP.start hn1)
  clear HR3 HB3
  go_wp2_with fail
  go_loopw [5, 29] (fun v i wr => ∃ (j g : Nat) (now : List Nat), v = .slice (some ⟨g, 0, none⟩) F.length F.length ∧ i = .int .i64 (j : Nat) ∧ j ≤ n ∧ Hid (CtP k N F.length j now) ∧ Hid (CtRow wr g g F.length now) ∧ Hid (w2.heap.size ≤ g) ∧ Hid (Below w2.heap.size w2 wr)) (fun _ i _ => n - (intOf i).toNat)
  case atStart => exact ⟨0, g0, _, rfl, rfl, Nat.zero_le _, HC4, HR4, HG0, HB4⟩
  case round =>
    clear HC4 HR4 HG0 HB4
    obtain ⟨j, g, now, rfl, rfl, hj, HCP, HCR, HG, HB⟩ := hrel
    have HLE := Lib.hid (HCP.out.le hk4 (by omega))
    by_cases hlt : j < n
    · have hji : (j : Int) < (n : Int) := by omega
      have hmk := HMK.out F.length (by omega)
      go_upto_region 8 with fail
      clear hmk
      have HR5 := Lib.hid (CtRow.start wr (m := F.length) (by unfold maxLen; omega))
      have HB5 := Lib.hid (alloc_belowS wr (.cells (madeCells #[.int .i64 0] F.length) 3))
      have HM5 : Hid (CtM k N F.length now 0 0 (List.replicate F.length 0)) := Lib.hid CtM.start
      have HCR5 := Lib.hid (HCR.out.later HB5.out)
      have hgw : g < wr.heap.size := (HCR.out.2.2.lt g rfl).2
      have HG5 : Hid (w2.heap.size ≤ wr.heap.size) := Lib.hid HB.out.size
      generalize wr.alloc (.cells (madeCells #[.int .i64 0] F.length) 3) = w5 at *
      generalize hW : wr = w4b at *
      clear hW
      go_wp2_with fail
      go_loopw [36] (fun i wr => ∃ (st : Nat) (l : List Nat), i = .int .i64 (st : Nat) ∧ st ≤ F.length ∧ Hid (CtM k N F.length now st 0 l) ∧ Hid (CtRow wr w4b.heap.size w4b.heap.size F.length l) ∧ Hid (Below w4b.heap.size w4b wr)) (fun i _ => F.length - (intOf i).toNat)
      case atStart => exact ⟨0, _, rfl, Nat.zero_le _, HM5, HR5, HB5⟩
      case round =>
        clear HM5 HR5 HB5 HCR5
        obtain ⟨st, l, rfl, hst, HM, HR, HB6⟩ := hrel
        by_cases hls : st < F.length
        · have hsi : (st : Int) < (F.length : Int) := by omega
          have HBB := Lib.hid (Below.now HB.out HB6.out)
          have c1 := (HCR.out.later HB6.out).cell hls
          have x0 := (aut_cells (blk_later HX2.out HBB.out)).1
          obtain ⟨c, hc⟩ : ∃ c, now.getD st 0 = c := ⟨_, rfl⟩
          have HNW : Hid (c ≤ 4294967296) := Lib.hid (by rw [← hc]; exact Nat.le_trans (wt_at (l := now) hls) HLE.out)
          rw [hc] at c1
          have HCE := Lib.hid hc
          clear hc
          generalize hW : wr = w6 at *
          clear hW
          go_wp2_with fail
          clear x0 c1
          go_loopw [43] (fun i wr => ∃ (x : Nat) (l : List Nat), i = .int .i64 (x : Nat) ∧ x ≤ k ∧ Hid (CtM k N F.length now st x l) ∧ Hid (CtRow wr w4b.heap.size w4b.heap.size F.length l) ∧ Hid (Below w4b.heap.size w4b wr)) (fun i _ => k - (intOf i).toNat)
          case atStart => exact ⟨0, l, rfl, Nat.zero_le _, HM, HR, HB6⟩
          case round =>
            clear HM HR HB6 HBB
            obtain ⟨x, l, rfl, hx, HM, HR, HB6⟩ := hrel
            by_cases hlx : x < k
            · have hxi : (x : Int) < (k : Int) := by omega
              have HBB := Lib.hid (Below.now HB.out HB6.out)
              obtain ⟨x0, x1, x2⟩ := aut_cells (blk_later HX2.out HBB.out)
              have HNQ := Lib.hid (HNX.out wr st x (HN2.out.later HBB.out) (HAP.out.slot hls hlx))
              have hnx := HAP.out.next hls hlx
              have HNO := Lib.hid HM.out.no
              have HYES := Lib.hid (fun q h1 h2 => HM.out.yes (q := q) h1 h2)
              have HML := Lib.hid (HM.out.le HLE.out hls hk4 hx)
              have hnw := HNW.out
              rw [HCE.out] at HYES
              generalize nxI k N st x = y at *
              go_wp2_with fail
              refine HNQ.out.mono ?_
              rintro e w7 ⟨rfl, hb7⟩
              have HR7 := Lib.hid (HR.out.later hb7)
              have HB7 := Lib.hid (Below.now HB6.out hb7)
              clear hb7 x0 x1 x2 HNQ HR HB6 HBB
              by_cases h0 : 0 ≤ y
              · obtain ⟨q, rfl⟩ : ∃ q : Nat, y = (q : Int) := ⟨y.toNat, by omega⟩
                have hq : q < F.length := by omega
                have hqi : (q : Int) < (F.length : Int) := by omega
                have HM2 := Lib.hid (HYES.out q rfl hq)
                have c1 := HR7.out.cell hq
                have c2 := HR7.out.frozen q
                have hlq := Nat.le_trans (wt_at (l := l) hq) HML.out
                have HR8 := Lib.hid (HR7.out.store q (l.getD q 0 + c))
                have HB8 := Lib.hid (HB7.out.setCell (p := ⟨w4b.heap.size, q, none⟩) (Nat.le_refl _) (.int .i64 ((l.getD q 0 + c : Nat) : Int)))
                clear HNO HYES
                generalize l.getD q 0 = d at *
                have hdc : ((d : Nat) : Int) + ((c : Nat) : Int) = ((d + c : Nat) : Int) := by omega
                rw [← hdc] at HR8 HB8
                clear hdc
                go_wp2_with fail
                go_roundw
                case rel => exact ⟨x + 1, _, by go_num, by omega, HM2, HR8, HB8⟩
                case measure => simp [intOf]; omega
              · have HM2 := Lib.hid (HNO.out (by omega))
                clear HNO HYES
                go_wp2_with fail
                go_roundw
                case rel => exact ⟨x + 1, _, by go_num, by omega, HM2, HR7, HB7⟩
                case measure => simp [intOf]; omega
            · have hxi : ¬ (x : Int) < (k : Int) := by omega
              obtain rfl : x = k := by omega
              have HM2 := Lib.hid HM.out.row
              go_wp2_with fail
              go_roundw
              case rel => exact ⟨st + 1, _, by go_num, by omega, HM2, HR, HB6⟩
              case measure => simp [intOf]; omega
        · have hsi : ¬ (st : Int) < (F.length : Int) := by omega
          obtain rfl : st = F.length := by omega
          have HP2 := Lib.hid (HM.out.fin HCP.out)
          have HB8 := Lib.hid (Below.now HB.out HB6.out)
          go_wp2_with fail
          go_roundw
          case rel => exact ⟨j + 1, _, _, rfl, by go_num, by omega, HP2, HR, HG5, HB8⟩
          case measure => simp [intOf]; omega
    · have hji : ¬ (j : Int) < (n : Int) := by omega
      obtain rfl : j = n := by omega
      have HFA := Lib.hid (finT_all HCP.out)
      have HFI := HF2.out.later HB.out
      obtain ⟨bF, oF, haF, hbF, hcF⟩ := HFI.cell (i := 0) (by omega)
      have HCF := Lib.hid hcF
      subst haF
      have HX9 := Lib.hid (blk_later HX2.out HB.out)
      have HBW := Lib.hid (Below.now HB2.out HB.out)
      clear hcF hbF HFI
      generalize hW : wr = w9 at *
      clear hW
      go_wp2_with fail
      go_loopw [11, 65] (fun v i wr => ∃ s : Nat, s ≤ F.length ∧ v = .int .i64 (finT F now s : Nat) ∧ i = .int .i64 (s : Nat) ∧ wr = w9) (fun _ i _ => F.length - (intOf i).toNat)
      case atStart => exact ⟨0, Nat.zero_le _, rfl, rfl, rfl⟩
      case round =>
        obtain ⟨s, hs, rfl, rfl, rfl⟩ := hrel
        by_cases hls : s < F.length
        · have hsi : (s : Int) < (F.length : Int) := by omega
          have c1 := HCR.out.cell hls
          have c2 := HCF.out s hls
          obtain ⟨x0, x1, x2⟩ := aut_cells HX9.out
          have HST : Hid (finT F now (s + 1) = finT F now s + now.getD s 0 * finN F s) := Lib.hid rfl
          have HFN : Hid (finN F s = if F.getD s false = true then 1 else 0) := Lib.hid rfl
          have hle1 := Nat.le_trans (finT_le (F := F) (l := now) hs) HLE.out
          have hle2 := Nat.le_trans (wt_at (l := now) hls) HLE.out
          generalize now.getD s 0 = c at *
          generalize finT F now s = t at *
          cases hf : F.getD s false
          · have HS2 : Hid (finT F now (s + 1) = t) := Lib.hid (by rw [HST.out, HFN.out, hf]; simp)
            rw [hf] at c2
            clear hf HST HFN
            go_wp2_with fail
            go_roundw
            case rel => exact ⟨s + 1, by omega, by rw [HS2.out], by go_num, by trivial⟩
            case measure => simp [intOf]; omega
          · have HS2 : Hid (finT F now (s + 1) = t + c) := Lib.hid (by rw [HST.out, HFN.out, hf]; simp)
            rw [hf] at c2
            clear hf HST HFN
            go_wp2_with fail
            go_roundw
            case rel => exact ⟨s + 1, by omega, by rw [HS2.out]; go_num, by go_num, by trivial⟩
            case measure => simp [intOf]; omega
        · have hsi : ¬ (s : Int) < (F.length : Int) := by omega
          obtain rfl : s = F.length := by omega
          have FF : Hid ((Ending.returned (.int .i64 (finT F now F.length : Nat)) = .returned (.int .i64 (cntW k N F j 0 : Nat))) ∧ Below w.heap.size w wr) := Lib.hid ⟨by rw [HFA.out], HBW.out⟩
          go_wp2_with fail
          go_ret
          exact FF.out
end Go.Proofs.YtoddpmdjjgnpgaaGreatDoor
