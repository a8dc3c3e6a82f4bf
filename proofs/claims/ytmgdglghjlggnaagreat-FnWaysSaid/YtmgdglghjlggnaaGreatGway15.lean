/-
  A turn of the completion, as plain data: what it makes, and that it keeps what is asked of systems and equations.
-/
import Derived.Test.YtmgdglghjlggnaaGreatGway14
import Derived.Test.YtmgdglghjlggnaaGreatGway13
namespace Go.Proofs.YtmgdglghjlggnaaGreat
open Go.RowKit
set_option linter.unusedVariables false
/-- the value of a pair -/
def pairVal (p : PairD) : Value := .agg #[.string p.1, .int .i64 (p.2.1 : Nat), .int .i64 0, .int .i64 (p.2.2.1 : Nat), .int .i64 (p.2.2.2 : Nat)]
/-- the object of a pair -/
def pairObj (p : PairD) : Obj := .cells #[.string p.1, .int .i64 (p.2.1 : Nat), .int .i64 0, .int .i64 (p.2.2.1 : Nat), .int .i64 (p.2.2.2 : Nat)] 138
/-- its cells -/
def PairAt (W : World) (g : Nat) (p : PairD) : Prop := W.cell? ⟨g, 0, none⟩ = some (.string p.1) ∧ W.cell? ⟨g, 1, none⟩ = some (.int .i64 (p.2.1 : Nat)) ∧ W.cell? ⟨g, 2, none⟩ = some (.int .i64 0) ∧ W.cell? ⟨g, 3, none⟩ = some (.int .i64 (p.2.2.1 : Nat)) ∧ W.cell? ⟨g, 4, none⟩ = some (.int .i64 (p.2.2.2 : Nat))
theorem pairAt_box {W W2 : World} {p : PairD} (hb : Below (W.alloc (pairObj p)).heap.size (W.alloc (pairObj p)) W2) : PairAt W2 W.heap.size p := by
  have h := (hb.block W.heap.size (by simp)).trans (alloc_at W _)
  unfold pairObj at h
  refine ⟨?_, ?_, ?_, ?_, ?_⟩ <;> simp [World.cell?, h]
set_option maxRecDepth 100000 in
set_option maxHeartbeats 2000000 in
theorem specSidesOf_any (k : Int) (R : List RulD) (a : Option Addr) (cap : Nat) (p : PairD) (w : World) (hl : RulesIn w a R) (hs : sysP k R) (hp : PairOk R k p) :
    Calls Tryz.prog 120 #[.agg #[.int .i64 k, .slice a R.length cap], pairVal p] w fun e w' => e = .returned (.tuple #[.string (leftP R p), .string (rightP R p), .bool true]) ∧ Below w.heap.size w w' := by
  have HL := Lib.hid hl
  have HSO := Lib.hid (fun W h => specSystemOk_any k R a cap W h (by have := hs.1.1.2; omega) (szR_of hs))
  have HYES := Lib.hid hs
  have H1 := Lib.hid (fun W h => specApplyStep_any k R a cap p.1 p.2.1 0 W h hs (wdP_of hp.word).len hp.one)
  have H2 := Lib.hid (fun W h => specApplyStep_any k R a cap p.1 p.2.2.1 p.2.2.2 W h hs (wdP_of hp.word).len hp.two)
  have HLP : Hid (applyF R p.1 (p.2.1, 0) = leftP R p) := Lib.hid rfl
  have HRP : Hid (applyF R p.1 (p.2.2.1, p.2.2.2) = rightP R p) := Lib.hid rfl
  rw [HLP.out] at H1
  rw [HRP.out] at H2
  have HPO : Hid (Obj.cells #[.string p.1, .int .i64 (p.2.1 : Nat), .int .i64 0, .int .i64 (p.2.2.1 : Nat), .int .i64 (p.2.2.2 : Nat)] 138 = pairObj p) := Lib.hid rfl
  clear hl hs hp HLP HRP
  unfold pairVal
  generalize leftP R p = lp at *
  generalize rightP R p = rp at *
  have e1 : (w.alloc (.cells #[.int .i64 k, .slice a R.length cap] 67)).heap.size = w.heap.size + 1 := by simp
  have hbb := alloc_belowS (w.alloc (.cells #[.int .i64 k, .slice a R.length cap] 67)) (pairObj p)
  have HB0 := Lib.hid (Below.now (alloc_belowS w (.cells #[.int .i64 k, .slice a R.length cap] 67)) hbb)
  have HBX := Lib.hid (fun W2 (h : Below ((w.alloc (.cells #[.int .i64 k, .slice a R.length cap] 67)).alloc (pairObj p)).heap.size ((w.alloc (.cells #[.int .i64 k, .slice a R.length cap] 67)).alloc (pairObj p)) W2) => And.intro (box_two (Below.now hbb h)) (pairAt_box h))
  rw [e1] at HBX
  unfold PairAt at HBX
  clear hbb e1
  go_enter Tryz.func120, Tryz.ntmps120
  go_wp2_with fail
  rw [HPO.out]
  generalize (w.alloc (.cells #[.int .i64 k, .slice a R.length cap] 67)).alloc (pairObj p) = w1 at *
  refine (HSO.out _ (HL.out.later HB0.out)).mono ?_
  rintro e w2 ⟨bb, hbb, rfl, hb2⟩
  obtain rfl := hbb.2 HYES.out
  have HW2 := Lib.hid (Below.now HB0.out hb2)
  have HB2 := Lib.hid hb2
  obtain ⟨⟨s0, s1⟩, q0, q1, q2, q3, q4⟩ := HBX.out w2 hb2
  clear hbb hb2 HSO HPO
  obtain ⟨u, x, y, z⟩ := p
  go_wp2_with fail
  refine (H1.out _ (HL.out.later HW2.out)).mono ?_
  rintro e w3 ⟨rfl, hb3⟩
  have HW3 := Lib.hid (Below.now HW2.out hb3)
  have HB3 := Lib.hid (Below.now HB2.out hb3)
  obtain ⟨⟨t0, t1⟩, p0, p1, p2, p3, p4⟩ := HBX.out w3 HB3.out
  clear hb3 s0 s1 q0 q1 q2 q3 q4
  go_wp2_with fail
  refine (H2.out _ (HL.out.later HW3.out)).mono ?_
  rintro e w4 ⟨rfl, hb4⟩
  have HW4 := Lib.hid (Below.now HW3.out hb4)
  have F : Hid (∀ W, Below w.heap.size w W → Ending.returned (.tuple #[.string lp, .string rp, .bool true]) = .returned (.tuple #[.string lp, .string rp, .bool true]) ∧ Below w.heap.size w W) := Lib.hid (fun W h => ⟨rfl, h⟩)
  clear hb4 t0 t1 p0 p1 p2 p3 p4
  go_wp2_with fail
  refine bodyPost_ret (v := .tuple #[.string lp, .string rp, .bool true]) ?_ rfl ⟨rfl, HW4.out⟩
  simp [results, Tryz.results120, go_sem]
theorem joined_iff {R : List RulD} {p : PairD} {x y : ByteArray} (hx : NormIs R (leftP R p) x) (hy : NormIs R (rightP R p) y) : Joined R p ↔ x = y :=
  ⟨fun ⟨z, h1, h2⟩ => (hx.uniq h1).trans (h2.uniq hy), fun e => ⟨x, hx, e ▸ hy⟩⟩
theorem left_word {k : Int} {R : List RulD} (hs : sysP k R) {p : PairD} (hp : PairOk R k p) : wordOkB k (leftP R p) = true := step_word hs hp.word hp.one
theorem right_word {k : Int} {R : List RulD} (hs : sysP k R) {p : PairD} (hp : PairOk R k p) : wordOkB k (rightP R p) = true := step_word hs hp.word hp.two
set_option maxRecDepth 100000 in
set_option maxHeartbeats 2000000 in
theorem specIsJoined_any (k : Int) (R : List RulD) (a : Option Addr) (cap : Nat) (p : PairD) (w : World) (hl : RulesIn w a R) (hs : sysP k R) (hp : PairOk R k p) :
    Calls Tryz.prog 113 #[.agg #[.int .i64 k, .slice a R.length cap], pairVal p] w (RetP (Joined R p) w) := by
  have HL := Lib.hid hl
  have HSD := Lib.hid (fun W h => specSidesOf_any k R a cap p W h hs hp)
  have HN1 := Lib.hid (fun W h => specNormalForm_ok k R a cap (leftP R p) W h hs (left_word hs hp))
  have HN2 := Lib.hid (fun W h => specNormalForm_ok k R a cap (rightP R p) W h hs (right_word hs hp))
  have HJ := Lib.hid (fun x y h1 h2 => joined_iff (R := R) (p := p) (x := x) (y := y) h1 h2)
  have HPO : Hid (Obj.cells #[.string p.1, .int .i64 (p.2.1 : Nat), .int .i64 0, .int .i64 (p.2.2.1 : Nat), .int .i64 (p.2.2.2 : Nat)] 138 = pairObj p) := Lib.hid rfl
  clear hl hs hp
  unfold pairVal at HSD
  unfold pairVal
  generalize leftP R p = lp at *
  generalize rightP R p = rp at *
  have e1 : (w.alloc (.cells #[.int .i64 k, .slice a R.length cap] 67)).heap.size = w.heap.size + 1 := by simp
  have hbb := alloc_belowS (w.alloc (.cells #[.int .i64 k, .slice a R.length cap] 67)) (pairObj p)
  have HB0 := Lib.hid (Below.now (alloc_belowS w (.cells #[.int .i64 k, .slice a R.length cap] 67)) hbb)
  have HBX := Lib.hid (fun W2 (h : Below ((w.alloc (.cells #[.int .i64 k, .slice a R.length cap] 67)).alloc (pairObj p)).heap.size ((w.alloc (.cells #[.int .i64 k, .slice a R.length cap] 67)).alloc (pairObj p)) W2) => (box_two (Below.now hbb h)))
  clear hbb e1
  go_enter Tryz.func113, Tryz.ntmps113
  go_wp2_with fail
  rw [HPO.out]
  generalize (w.alloc (.cells #[.int .i64 k, .slice a R.length cap] 67)).alloc (pairObj p) = w1 at *
  refine (HSD.out _ (HL.out.later HB0.out)).mono ?_
  rintro e w2 ⟨rfl, hb2⟩
  have HB2 := Lib.hid hb2
  obtain ⟨s0, s1⟩ := HBX.out w2 hb2
  clear hb2 HSD HPO
  go_wp2_with fail
  refine (HN1.out _ (HL.out.later (Below.now HB0.out HB2.out))).mono ?_
  rintro e w3 ⟨x, hx, rfl, hb3⟩
  have HX := Lib.hid hx
  have HB3 := Lib.hid (Below.now HB2.out hb3)
  obtain ⟨t0, t1⟩ := HBX.out w3 HB3.out
  clear hb3 hx s0 s1
  go_wp2_with fail
  refine (HN2.out _ (HL.out.later (Below.now HB0.out HB3.out))).mono ?_
  rintro e w4 ⟨y, hy, rfl, hb4⟩
  have F : Hid (RetP (Joined R p) w (.returned (.bool (x.toList == y.toList))) w4) := Lib.hid ⟨_, ⟨fun h => (HJ.out x y HX.out hy).2 (bytes_eq.1 h), fun h => bytes_eq.2 ((HJ.out x y HX.out hy).1 h)⟩, rfl, Below.now HB0.out (Below.now HB3.out hb4)⟩
  clear hb4 hy t0 t1
  go_wp2_with fail
  go_ret
  exact F.out
theorem openL_take {R : List RulD} {S : List PairD} {q : Nat} (h : q < S.length) : openL R (S.take (q + 1)) = openL R (S.take q) ++ openL R [S[q]] := by
  rw [List.take_succ_eq_append_getElem h, openL_app]
theorem openL_len (R : List RulD) (l : List PairD) : (openL R l).length ≤ l.length := by
  unfold openL
  exact List.length_filter_le _ _
set_option maxRecDepth 100000 in
set_option maxHeartbeats 2000000 in
theorem specOpenPairs_any (k : Int) (R : List RulD) (a : Option Addr) (cap : Nat) (w : World) (hl : RulesIn w a R) (hs : sysP k R) :
    Calls Tryz.prog 97 #[.agg #[.int .i64 k, .slice a R.length cap]] w (RetSl 138 5 (openF R).length (cellsL prV (openF R)) w) := by
  have HL := Lib.hid hl
  have HPF := Lib.hid (fun W h => specPairsOf_any k R a cap W h hs)
  have HIJ := Lib.hid (fun p W h (hm : p ∈ pairsF R) => specIsJoined_any k R a cap p W h hs (pairOk hs hm))
  have HSZ : (pairsF R).length ≤ 2496 := by
    have h := pairTo_len (left8 hs) hs.1.1.2 (i := R.length) (j := 0) hs.1.1.2 (by omega)
    rw [pairTo_done] at h
    exact h
  have HFE : Hid (openF R = openL R ((pairsF R).take (pairsF R).length)) := Lib.hid (by rw [List.take_length]; rfl)
  have hb1 := alloc_belowS w (.cells #[.int .i64 k, .slice a R.length cap] 67)
  have HBX := Lib.hid (fun W2 (h : Below (w.alloc (.cells #[.int .i64 k, .slice a R.length cap] 67)).heap.size (w.alloc (.cells #[.int .i64 k, .slice a R.length cap] 67)) W2) => box_two h)
  have HW1 := Lib.hid hb1
  clear hl hs
  go_enter Tryz.func97, Tryz.ntmps97
  have s0 := fun o => (HBX.out _ (alloc_belowS _ o)).1
  have s1 := fun o => (HBX.out _ (alloc_belowS _ o)).2
  go_wp2_with fail
  have HB0 : Hid (Bld 138 5 (w.alloc (.cells #[.int .i64 k, .slice a R.length cap] 67)) ((w.alloc (.cells #[.int .i64 k, .slice a R.length cap] 67)).alloc (.cells #[] 138)) (.slice (some ⟨(w.alloc (.cells #[.int .i64 k, .slice a R.length cap] 67)).heap.size, 0, none⟩) 0 0) 0 (cellsL prV [])) := Lib.hid (Bld.empty 138 5 _)
  have e1 : (w.alloc (.cells #[.int .i64 k, .slice a R.length cap] 67)).heap.size = w.heap.size + 1 := by simp
  rw [e1] at HB0
  clear s0 s1
  generalize hW1 : w.alloc (.cells #[.int .i64 k, .slice a R.length cap] 67) = w1 at *
  have hb3 := alloc_belowS w1 (.cells #[] 138)
  obtain ⟨w2, hw2⟩ : ∃ w2, w2 = w1.alloc (.cells #[] 138) := ⟨_, rfl⟩
  rw [← hw2] at hb3 HB0 ⊢
  have HB3 := Lib.hid hb3
  have hs12 : w1.heap.size = w.heap.size + 1 := by rw [← hW1]; simp
  have hs22 : w2.heap.size = w1.heap.size + 1 := by rw [hw2]; simp
  clear hb1 hb3 hw2 e1 hW1
  have HMM : Hid (∀ q (h : q < (pairsF R).length), (pairsF R)[q] ∈ pairsF R) := Lib.hid (fun q h => List.getElem_mem h)
  refine (HPF.out _ (HL.out.later (Below.now HW1.out HB3.out))).mono ?_
  rintro e wc ⟨a2, c2, rfl, ho6, hbc⟩
  have hba : ∀ x, a2 = some x → w2.heap.size ≤ x.block ∧ x.block < wc.heap.size := fun x hx => ho6.lt x.block (by rw [hx]; rfl)
  have HI : Hid (RowsIn prV wc a2 (pairsF R)) := Lib.hid (owns_rows ho6)
  have HB1 : Hid (Bld 138 5 w1 wc (.slice (some ⟨w.heap.size + 1, 0, none⟩) 0 0) (openL R ((pairsF R).take 0)).length (cellsL prV (openL R ((pairsF R).take 0)))) := Lib.hid (HB0.out.later hbc)
  have HA1 : Hid (Away wc a2 (.slice (some ⟨w.heap.size + 1, 0, none⟩) 0 0)) := Lib.hid (fun x hx => by
    obtain ⟨h1, h2⟩ := hba x hx
    exact ⟨h2, fun e => by have e2 : x.block = w.heap.size + 1 := Option.some.inj e; omega⟩)
  have HIJ2 : Hid (∀ q (h : q < (pairsF R).length) W, RulesIn W a R → Calls Tryz.prog 113 #[.agg #[.int .i64 k, .slice a R.length cap], pairVal (pairsF R)[q]] W (RetP (Joined R (pairsF R)[q]) W)) := Lib.hid (fun q h W hW => HIJ.out _ W hW (HMM.out q h))
  clear hbc ho6 HB0 HPF hba HIJ HMM
  generalize pairsF R = S at *
  go_wp2_with fail
  go_loopw [3, 10] (fun vo vq wr => ∃ q : Nat, q ≤ S.length ∧ vq = .int .i64 (q : Nat) ∧ Bld 138 5 w1 wr vo (openL R (S.take q)).length (cellsL prV (openL R (S.take q))) ∧ Hid (RowsIn prV wr a2 S) ∧ Hid (Away wr a2 vo)) (fun _ vq _ => S.length - (intOf vq).toNat)
  case atStart => exact ⟨0, Nat.zero_le _, rfl, HB1.out, HI, HA1⟩
  case round =>
    clear HB1 HI HA1
    obtain ⟨q, hq, rfl, hbd, HI, HAW⟩ := hrel
    obtain ⟨ao, co, rfl⟩ := owns_form hbd.1
    have HB := Lib.hid hbd
    have hil := openL_len R (S.take q)
    have htl : (S.take q).length ≤ 2496 := by rw [List.length_take]; omega
    by_cases hlt : q < S.length
    · obtain ⟨b2, off2, rfl, hb2, hcs⟩ := RowsIn.cell prV_len (by omega) HI.out hlt
      have HNX := Lib.hid (openL_take (R := R) hlt)
      have HC := Lib.hid (HIJ2.out q hlt)
      have c0 : wr.cell? ⟨b2, off2 + q * 5, none⟩ = some (.string S[q].1) := hcs q hlt 0 _ rfl
      have c1 : wr.cell? ⟨b2, off2 + q * 5 + 1, none⟩ = some (.int .i64 (S[q].2.1 : Nat)) := hcs q hlt 1 _ rfl
      have c2 : wr.cell? ⟨b2, off2 + q * 5 + 2, none⟩ = some (.int .i64 0) := hcs q hlt 2 _ rfl
      have c3 : wr.cell? ⟨b2, off2 + q * 5 + 3, none⟩ = some (.int .i64 (S[q].2.2.1 : Nat)) := hcs q hlt 3 _ rfl
      have c4 : wr.cell? ⟨b2, off2 + q * 5 + 4, none⟩ = some (.int .i64 (S[q].2.2.2 : Nat)) := hcs q hlt 4 _ rfl
      have HLR := Lib.hid (fun o => HL.out.later (Below.now HW1.out (Below.now hbd.2 (alloc_belowS wr o))))
      have s0 := fun o => (HBX.out _ (Below.now hbd.2 (alloc_belowS wr o))).1
      have s1 := fun o => (HBX.out _ (Below.now hbd.2 (alloc_belowS wr o))).2
      unfold pairVal at HC
      clear hcs hbd
      generalize S[q] = p at *
      obtain ⟨u, x, y, z⟩ := p
      go_wp2_with fail
      refine (HC.out _ (HLR.out _)).mono ?_
      rintro e w5 ⟨bb, hbb, rfl, hb5⟩
      have HB5 := Lib.hid (HB.out.later (Below.now (alloc_belowS wr _) hb5))
      have HI5 := Lib.hid (HI.out.later (Below.now (alloc_belowS wr _) hb5))
      have HA5 : Hid (Away w5 (some ⟨b2, off2, none⟩) (.slice ao (openL R (S.take q)).length co)) := Lib.hid (fun x hx => ⟨Nat.lt_of_lt_of_le (HAW.out x hx).1 (Below.now (alloc_belowS wr _) hb5).size, (HAW.out x hx).2⟩)
      obtain ⟨k0, k1, k2, k3, k4⟩ := pairAt_box (p := (u, x, y, z)) hb5
      have HBB := Lib.hid hbb
      clear hb5 hbb s0 s1 c0 c1 c2 c3 c4 HC HLR
      cases bb
      · have HNY : Hid (openL R (S.take (q + 1)) = openL R (S.take q) ++ [(u, x, y, z)]) := Lib.hid (by
          rw [HNX.out, openL_no (fun h => by have := HBB.out.2 h; cases this)])
        have HB6 := Lib.hid (HB5.out.later (alloc_belowS w5 (.cells #[.string u, .int .i64 (x : Nat), .int .i64 0, .int .i64 (y : Nat), .int .i64 (z : Nat)] 138)))
        have HN1 : Hid ([Value.string u, .int .i64 (x : Nat), .int .i64 0, .int .i64 (y : Nat), .int .i64 (z : Nat)].length = 1 * 5) := Lib.hid rfl
        have HN2 : Hid (∀ v ∈ [Value.string u, .int .i64 (x : Nat), .int .i64 0, .int .i64 (y : Nat), .int .i64 (z : Nat)], v.oneCell' = true) := Lib.hid (fun v hv => by simp at hv; rcases hv with rfl | rfl | rfl | rfl | rfl <;> rfl)
        generalize openL R (S.take q) = X at *
        go_wp2_with (at_builtin; refine wpList_appM rfl (.tmp 18) (.tmp 20) rfl Tryz.underlying115 Tryz.infoPair rfl (by decide) rfl HB6.out rfl (Src.lit _) HN1.out HN2.out ?a1 ?a2 ?a3)
        case a1 => unfold maxLen; omega
        case a2 => omega
        intro v4 w4 hb4 hg4 ho4
        have HB4 : Hid (Bld 138 5 w1 w4 v4 (openL R (S.take (q + 1))).length (cellsL prV (openL R (S.take (q + 1))))) := Lib.hid (by
          rw [HNY.out, List.length_append, cells_prV]; exact hb4)
        have HG4 := Lib.hid ((World.grownBy_alloc w5 _ (Value.slice ao X.length co).ownBlock).trans hg4)
        have HI4 : Hid (RowsIn prV w4 (some ⟨b2, off2, none⟩) S) := Lib.hid (CellsIn.grownC HI5.out HG4.out (fun x hx => (HA5.out x hx).2))
        have HA4 : Hid (Away w4 (some ⟨b2, off2, none⟩) v4) := Lib.hid (fun x hx => by
          obtain ⟨h1, h2⟩ := HA5.out x hx
          refine ⟨Nat.lt_of_lt_of_le h1 HG4.out.size, fun e => ?_⟩
          rcases ho4 with h | h
          · exact h2 (e.trans h)
          · have e4 := Option.some.inj (e.trans h)
            first | omega | (simp at e4; omega))
        obtain ⟨a4, c4, hv4⟩ := owns_form HB4.out.1
        subst hv4
        clear hb4 hg4 ho4
        go_wp2_with fail
        go_roundw
        case rel => exact ⟨q + 1, by omega, by go_num, HB4.out, HI4, HA4⟩
        case measure => simp [intOf]; omega
      · have HNY : Hid (openL R (S.take (q + 1)) = openL R (S.take q)) := Lib.hid (by
          rw [HNX.out, openL_yes (HBB.out.1 rfl), List.append_nil])
        generalize openL R (S.take q) = X at *
        go_wp2_with fail
        go_roundw
        case rel => exact ⟨q + 1, by omega, by go_num, by rw [HNY.out]; exact HB5.out, HI5, HA5⟩
        case measure => simp [intOf]; omega
    · obtain rfl : q = S.length := by omega
      have F : Hid (RetSl 138 5 (openF R).length (cellsL prV (openF R)) w (.returned (.slice ao (openL R (S.take S.length)).length co)) wr) := Lib.hid (by
        rw [HFE.out]
        exact (HB.out.since HW1.out).ret)
      clear hbd
      go_wp2_with fail
      go_ret
      exact F.out
end Go.Proofs.YtmgdglghjlggnaaGreat
namespace Go.Proofs.YtmgdglghjlggnaaGreat
open Go.RowKit
set_option linter.unusedVariables false
/-- what IsComplete is -/
def ComplP (k : Int) (R : List RulD) : Prop := sysP k R ∧ openF R = []
set_option maxRecDepth 100000 in
set_option maxHeartbeats 2000000 in
theorem specIsComplete_any (k : Int) (R : List RulD) (a : Option Addr) (cap : Nat) (w : World) (hl : RulesIn w a R) (hlen : R.length ≤ 2 ^ 40) (hz : SzR R) :
    Calls Tryz.prog 70 #[.agg #[.int .i64 k, .slice a R.length cap]] w (RetP (ComplP k R) w) := by
  have HSO := Lib.hid (fun W h => specSystemOk_any k R a cap W h hlen hz)
  have HO := Lib.hid (fun W h hs => specOpenPairs_any k R a cap W h hs)
  have hb1 := alloc_belowS w (.cells #[.int .i64 k, .slice a R.length cap] 67)
  have HBX := Lib.hid (fun W2 (h : Below (w.alloc (.cells #[.int .i64 k, .slice a R.length cap] 67)).heap.size (w.alloc (.cells #[.int .i64 k, .slice a R.length cap] 67)) W2) => box_two h)
  have HW1 := Lib.hid hb1
  have HL := Lib.hid (hl.later hb1)
  clear hl hb1 hz
  go_enter Tryz.func70, Tryz.ntmps70
  go_wp2_with fail
  generalize w.alloc (.cells #[.int .i64 k, .slice a R.length cap] 67) = w1 at *
  refine (HSO.out _ HL.out).mono ?_
  rintro e w2 ⟨bb, hbb, rfl, hb2⟩
  have HBB := Lib.hid hbb
  have HB2 := Lib.hid hb2
  obtain ⟨s0, s1⟩ := HBX.out w2 hb2
  clear hbb hb2
  cases bb
  · have F : Hid (RetP (ComplP k R) w (.returned (.bool false)) w2) := Lib.hid (RetP.no (fun h => by have := HBB.out.2 h.1; cases this) (Below.now HW1.out HB2.out))
    go_wp2_with fail
    go_ret
    exact F.out
  · have HSP := Lib.hid (HBB.out.1 rfl)
    go_wp2_with fail
    refine (HO.out _ (HL.out.later HB2.out) HSP.out).mono ?_
    rintro e w3 ⟨a3, c3, rfl, ho3, hb3⟩
    have HB3 := Lib.hid (Below.now HW1.out (Below.now HB2.out hb3))
    clear hb3 ho3 s0 s1
    by_cases h0 : (openF R).length = 0
    · have F : Hid (RetP (ComplP k R) w (.returned (.bool true)) w3) := Lib.hid (RetP.yes ⟨HSP.out, List.length_eq_zero_iff.1 h0⟩ HB3.out)
      have hb : (((openF R).length : Int) == 0) = true := by rw [h0]; rfl
      clear h0
      go_wp2_with fail
      go_ret
      exact F.out
    · have F : Hid (RetP (ComplP k R) w (.returned (.bool false)) w3) := Lib.hid (RetP.no (fun h => h0 (by rw [h.2]; rfl)) HB3.out)
      have hb : (((openF R).length : Int) == 0) = false := by rw [beq_eq_false_iff_ne]; omega
      clear h0
      go_wp2_with fail
      go_ret
      exact F.out
end Go.Proofs.YtmgdglghjlggnaaGreat
namespace Go.Proofs.YtmgdglghjlggnaaGreat
open Go.RowKit
set_option linter.unusedVariables false
/-- the rules of a system, as sides -/
def SR (R : List RulD) : Rs := fun l r => ∃ p ∈ R, p.1.data.toList = l ∧ p.2.data.toList = r
theorem lessS_wt {a b : ByteArray} (h : lessS a b = true) : wt a.data.toList < wt b.data.toList := by
  unfold lessS ltW blW at h
  rcases of_decide_eq_true h with h | ⟨h1, h2⟩
  · exact wt_short h
  · exact wt_lex h1 h2
theorem sys_dwn {k : Int} {R : List RulD} (hs : sysP k R) : Dwn (SR R) := by
  rintro _ _ ⟨p, hp, rfl, rfl⟩
  exact lessS_wt (hs.2 p hp)
theorem ba_lists {a b : ByteArray} (h : a.data.toList = b.data.toList) : a = b := by
  cases a; cases b
  simp only [ByteArray.mk.injEq] at h ⊢
  exact Array.ext' h
theorem step_stp {R : List RulD} {w : ByteArray} {s : Nat × Nat} (hm : s ∈ stepsF R w) : Stp (SR R) w.data.toList (applyF R w s).data.toList := by
  obtain ⟨h1, h2, h3⟩ := mem_stepsF.1 hm
  refine ⟨w.data.toList.take s.2, _, _, w.data.toList.drop (s.2 + (nthR R s.1).1.size), ⟨nthR R s.1, nthR_mem h2, rfl, rfl⟩, split_at h3, ?_⟩
  unfold applyF
  rw [replF_list]
/-- the word behind a step at a place that is told by what stands ahead of it -/
theorem apply_at {R : List RulD} {w : ByteArray} {i : Nat} {x y : List UInt8} (h : w.data.toList = x ++ ((nthR R i).1.data.toList ++ y)) :
    preAt w x.length (nthR R i).1 = true ∧ (applyF R w (i, x.length)).data.toList = x ++ ((nthR R i).2.data.toList ++ y) := by
  have e1 : (nthR R i).1.data.toList.length = (nthR R i).1.size := rfl
  constructor
  · unfold preAt
    rw [h, List.drop_left, List.isPrefixOf_iff_prefix]
    exact List.prefix_append _ _
  · unfold applyF
    rw [replF_list]
    show w.data.toList.take x.length ++ ((nthR R i).2.data.toList ++ w.data.toList.drop (x.length + (nthR R i).1.size)) = _
    rw [h, List.take_left, ← e1, ← List.drop_drop, List.drop_left, List.drop_left]
theorem stp_step {R : List RulD} (hne : ∀ r ∈ R, r.1.size ≠ 0) {w : ByteArray} {v : List UInt8} (h : Stp (SR R) w.data.toList v) : ∃ s ∈ stepsF R w, (applyF R w s).data.toList = v := by
  obtain ⟨x, _, _, y, ⟨p, hp, rfl, rfl⟩, h1, rfl⟩ := h
  obtain ⟨i, hi, rfl⟩ := mem_nthR hp
  obtain ⟨h2, h3⟩ := apply_at h1
  have e1 : (nthR R i).1.data.toList.length = (nthR R i).1.size := rfl
  have e2 : w.data.toList.length = w.size := rfl
  have h4 := hne _ hp
  rw [h1] at e2
  simp only [List.length_append] at e2
  exact ⟨(i, x.length), mem_stepsF.2 ⟨by show x.length < _; omega, hi, h2⟩, h3⟩
theorem sys_ne {k : Int} {R : List RulD} (hs : rulesP k R) : ∀ r ∈ R, r.1.size ≠ 0 := fun r hr => (hs.2 r hr).2
theorem norm_nf {R : List RulD} (hne : ∀ r ∈ R, r.1.size ≠ 0) {w x : ByteArray} (h : NormIs R w x) : Nf (SR R) w.data.toList x.data.toList := by
  induction h with
  | done h =>
    refine ⟨.refl _, fun v hv => ?_⟩
    obtain ⟨s, hs, _⟩ := stp_step hne hv
    rw [List.head?_eq_none_iff] at h
    rw [h] at hs
    cases hs
  | step h _ ih => exact ⟨.step (step_stp (head_mem h)) ih.1, ih.2⟩
/-- the pairs of a system are connected -/
def PairConn (R : List RulD) (E : Rs) (p : PairD) : Prop := Conn E (wt p.1.data.toList) (leftP R p).data.toList (rightP R p).data.toList
theorem mem_pairs {R : List RulD} {i j : Nat} (hi : i < R.length) (hj : j < R.length) {p : PairD} (h : p ∈ inF R i j ∨ p ∈ acF R i j) : p ∈ pairsF R := by
  unfold pairsF pairAt
  simp only [List.mem_flatMap, List.mem_range]
  exact ⟨i, hi, j, hj, List.mem_append.2 h⟩
/-- one rule inside of another one: the pair, and its sides -/
theorem pair_in {R : List RulD} {i j : Nat} (hij : i ≠ j) (hj : (nthR R j).1.size ≠ 0) {x y : List UInt8} (h : (nthR R i).1.data.toList = x ++ ((nthR R j).1.data.toList ++ y)) :
    inP R i j x.length ∈ inF R i j ∧ (leftP R (inP R i j x.length)).data.toList = (nthR R i).2.data.toList ∧ (rightP R (inP R i j x.length)).data.toList = x ++ ((nthR R j).2.data.toList ++ y) := by
  obtain ⟨h2, h3⟩ := apply_at h
  have e1 : (nthR R j).1.data.toList.length = (nthR R j).1.size := rfl
  have e2 : (nthR R i).1.data.toList.length = (nthR R i).1.size := rfl
  rw [h] at e2
  simp only [List.length_append] at e2
  refine ⟨?_, ?_, h3⟩
  · unfold inF
    rw [if_neg hij]
    exact List.mem_map.2 ⟨_, mem_places.2 ⟨by omega, h2⟩, rfl⟩
  · have h4 := (apply_at (R := R) (w := (nthR R i).1) (i := i) (x := []) (y := []) (by simp)).2
    simp only [List.nil_append, List.append_nil, List.length_nil] at h4
    exact h4
theorem pair_ac {R : List RulD} {i j : Nat} {x t y : List UInt8} (h1 : (nthR R i).1.data.toList = x ++ t) (h2 : (nthR R j).1.data.toList = t ++ y) (ht : t ≠ []) (hx : x ≠ []) (hy : y ≠ []) :
    acP R i j t.length ∈ acF R i j ∧ (acP R i j t.length).1.data.toList = x ++ (t ++ y) ∧ (leftP R (acP R i j t.length)).data.toList = (nthR R i).2.data.toList ++ y ∧ (rightP R (acP R i j t.length)).data.toList = x ++ (nthR R j).2.data.toList := by
  have e1 : (nthR R i).1.data.toList.length = (nthR R i).1.size := rfl
  have e2 : (nthR R j).1.data.toList.length = (nthR R j).1.size := rfl
  have f1 := e1
  have f2 := e2
  rw [h1] at f1
  rw [h2] at f2
  simp only [List.length_append] at f1 f2
  have lx : 0 < x.length := List.length_pos_iff.2 hx
  have lt : 0 < t.length := List.length_pos_iff.2 ht
  have ly : 0 < y.length := List.length_pos_iff.2 hy
  have ew : (acP R i j t.length).1.data.toList = x ++ (t ++ y) := by
    show ((nthR R i).1 ++ (nthR R j).1.extract t.length (nthR R j).1.size).data.toList = _
    rw [ByteArray.data_append, Array.toList_append, extract_lt, List.take_of_length_le (Nat.le_of_eq e2), h1, h2, List.drop_left, List.append_assoc]
  have ep : (acP R i j t.length).2.2.2 = x.length := by show (nthR R i).1.size - t.length = _; omega
  refine ⟨?_, ew, ?_, ?_⟩
  · unfold acF
    refine List.mem_map.2 ⟨_, mem_over.2 ⟨⟨by omega, by omega⟩, lt, ?_⟩, rfl⟩
    unfold ovAt
    rw [beq_iff_eq, h1, h2, show (nthR R i).1.size - t.length = x.length by omega, List.drop_left, List.take_left]
  · have h4 := (apply_at (R := R) (w := (acP R i j t.length).1) (i := i) (x := []) (y := y) (by rw [ew, h1]; simp)).2
    simp only [List.nil_append, List.length_nil] at h4
    exact h4
  · have h4 := (apply_at (R := R) (w := (acP R i j t.length).1) (i := j) (x := x) (y := []) (by rw [ew, h2]; simp)).2
    unfold rightP
    rw [ep]
    simp only [List.append_nil] at h4
    exact h4
/-- pairs that are connected make the rules critical ones -/
theorem crit_of_pairs {R : List RulD} (hne : ∀ r ∈ R, r.1.size ≠ 0) {E : Rs} (h : ∀ p ∈ pairsF R, PairConn R E p) : Crit (SR R) E := by
  refine ⟨?_, ?_⟩
  · rintro _ _ _ _ x y ⟨p1, hp1, rfl, rfl⟩ ⟨p2, hp2, rfl, rfl⟩ e
    obtain ⟨i, hi, rfl⟩ := mem_nthR hp1
    obtain ⟨j, hj, rfl⟩ := mem_nthR hp2
    by_cases hij : i = j
    · subst hij
      have := congrArg List.length e
      simp only [List.length_append] at this
      have hx : x = [] := List.eq_nil_of_length_eq_zero (by omega)
      have hy : y = [] := List.eq_nil_of_length_eq_zero (by omega)
      subst hx hy
      simpa using Conn.refl _
    · obtain ⟨h1, h2, h3⟩ := pair_in hij (hne _ hp2) e
      have h4 := h _ (mem_pairs hi hj (.inl h1))
      unfold PairConn at h4
      rw [h2, h3] at h4
      exact h4
  · rintro _ _ _ _ x t y ⟨p1, hp1, rfl, rfl⟩ ⟨p2, hp2, rfl, rfl⟩ e1 e2 ht hx hy
    obtain ⟨i, hi, rfl⟩ := mem_nthR hp1
    obtain ⟨j, hj, rfl⟩ := mem_nthR hp2
    obtain ⟨h1, h2, h3, h4⟩ := pair_ac e1 e2 ht hx hy
    have h5 := h _ (mem_pairs hi hj (.inr h1))
    unfold PairConn at h5
    rw [h2, h3, h4] at h5
    exact h5
theorem open_nil {R : List RulD} (h : openF R = []) {p : PairD} (hp : p ∈ pairsF R) : Joined R p := by
  refine Classical.byContradiction fun hn => ?_
  unfold openF openL at h
  rw [List.filter_eq_nil_iff] at h
  have := h p hp
  simp [hn] at this
theorem joined_conn {k : Int} {R : List RulD} (hs : sysP k R) {p : PairD} (hp : p ∈ pairsF R) (hj : Joined R p) : PairConn R (SR R) p := by
  obtain ⟨x, h1, h2⟩ := hj
  have hok := pairOk hs hp
  have hd := sys_dwn hs
  have n1 := norm_nf (sys_ne hs.1) h1
  have n2 := norm_nf (sys_ne hs.1) h2
  exact (Conn.red hd n1.1 (hd.stp (step_stp hok.one))).trans (Conn.red hd n2.1 (hd.stp (step_stp hok.two))).symm
theorem comp_crit {k : Int} {R : List RulD} (h : ComplP k R) : Crit (SR R) (SR R) :=
  crit_of_pairs (sys_ne h.1.1) fun p hp => joined_conn h.1 hp (open_nil h.2 hp)
end Go.Proofs.YtmgdglghjlggnaaGreat
namespace Go.Proofs.YtmgdglghjlggnaaGreat
open Go.RowKit
set_option linter.unusedVariables false
theorem ltW_wt {u v : List UInt8} (h : ltW u v = true) : wt u < wt v := by
  unfold ltW at h
  rcases of_decide_eq_true h with h | ⟨h1, h2⟩
  · exact wt_short h
  · exact wt_lex h1 h2
theorem wt_ltW {u v : List UInt8} (h : wt u < wt v) : ltW u v = true := by
  cases h1 : ltW u v
  · cases h2 : ltW v u
    · obtain rfl := ltW_total h1 h2
      omega
    · have := ltW_wt h2
      omega
  · rfl
theorem wt_lessS {a b : ByteArray} (h : wt a.data.toList < wt b.data.toList) : lessS a b = true := wt_ltW h
theorem lessS_size {a b : ByteArray} (h : lessS a b = true) : a.size ≤ b.size := by
  have := wt_len (lessS_wt h)
  exact this
theorem sysW_dwn {k : Int} {R : List RulD} (hs : sysW k R) : Dwn (SR R) := by
  rintro _ _ ⟨p, hp, rfl, rfl⟩
  exact lessS_wt (hs.2 p hp)
theorem sysW_ne {k : Int} {R : List RulD} (hs : sysW k R) : ∀ r ∈ R, r.1.size ≠ 0 := fun r hr => (hs.1.2 r hr).2
theorem nfC_is {k : Int} {R : List RulD} (hs : sysW k R) {u : ByteArray} (hw : wordOkB k u = true) : NormIs R u (nfC R u) := by
  obtain ⟨x, hx, _⟩ := NormIs.exW hs _ u (Nat.lt_succ_self _) hw
  rw [nfC_eq hx]; exact hx
theorem nfC_word {k : Int} {R : List RulD} (hs : sysW k R) {u : ByteArray} (hw : wordOkB k u = true) : wordOkB k (nfC R u) = true := (nfC_is hs hw).wordW hs hw
theorem nfC_red {k : Int} {R : List RulD} (hs : sysW k R) {u : ByteArray} (hw : wordOkB k u = true) : Nf (SR R) u.data.toList (nfC R u).data.toList := norm_nf (sysW_ne hs) (nfC_is hs hw)
theorem nfC_le {k : Int} {R : List RulD} (hs : sysW k R) {u : ByteArray} (hw : wordOkB k u = true) : wt (nfC R u).data.toList ≤ wt u.data.toList := (nfC_red hs hw).1.le (sysW_dwn hs)
/-- l lies somewhere in w -/
def hasB (w l : ByteArray) : Bool := !(placesF w l).isEmpty
/-- the rules that are kept beside a new left side, and those that are not -/
def keptF (R : List RulD) (x : ByteArray) : List RulD := R.filter fun p => !hasB p.1 x
def goneF (R : List RulD) (x : ByteArray) : List RulD := R.filter fun p => hasB p.1 x
def allF (R : List RulD) (r : RulD) : List RulD := keptF R r.1 ++ [r]
noncomputable def mapF (R : List RulD) (r : RulD) (l : List RulD) : List RulD := l.map fun p => (p.1, nfC (allF R r) p.2)
noncomputable def nextF (R : List RulD) (r : RulD) : List RulD := mapF R r (keptF R r.1) ++ [r]
/-- the sides of the pairs with the last rule -/
def lastP (N : List RulD) (p : PairD) : Bool := decide (p.2.1 = N.length - 1) || decide (p.2.2.1 = N.length - 1)
def sidesF (N : List RulD) (p : PairD) : RulD := (leftP N p, rightP N p)
def newQ (N : List RulD) : List RulD := ((pairsF N).filter (lastP N)).map (sidesF N)
/-- the rule that an equation of two words is made into -/
def orF2 (a b : ByteArray) : RulD := if lessS a b = true then (b, a) else (a, b)
/-- what a turn is: its code, the rules, the equations and the turns behind it -/
noncomputable def turnF (R Q : List RulD) (T : Nat) : Nat × List RulD × List RulD × Nat :=
  match Q with
  | [] => (0, R, [], T)
  | q :: Qt =>
    if T = 200 then (3, R, q :: Qt, T)
    else if nfC R q.1 = nfC R q.2 then (0, R, Qt, T + 1)
    else if 8 < (orF2 (nfC R q.1) (nfC R q.2)).1.size then (1, R, q :: Qt, T)
    else if 12 < (nextF R (orF2 (nfC R q.1) (nfC R q.2))).length then (2, R, q :: Qt, T)
    else if 400 < (Qt ++ goneF R (orF2 (nfC R q.1) (nfC R q.2)).1 ++ newQ (nextF R (orF2 (nfC R q.1) (nfC R q.2)))).length then (2, R, q :: Qt, T)
    else (0, nextF R (orF2 (nfC R q.1) (nfC R q.2)), Qt ++ goneF R (orF2 (nfC R q.1) (nfC R q.2)).1 ++ newQ (nextF R (orF2 (nfC R q.1) (nfC R q.2))), T + 1)
/-- rules, equations and turns that a completion may go on from -/
structure WorkP (k : Int) (R Q : List RulD) (T : Nat) : Prop where
  sys : sysP k R
  few : Q.length ≤ 400
  word : ∀ q ∈ Q, wordOkB k q.1 = true ∧ wordOkB k q.2 = true
  turns : T ≤ 200
theorem orF2_less {a b : ByteArray} (h : a ≠ b) : lessS (orF2 a b).2 (orF2 a b).1 = true := by
  unfold orF2
  split
  · assumption
  · rename_i h1
    cases h2 : lessS b a
    · have e := ltW_total (Bool.not_eq_true _ ▸ h1 : ltW (blW a) (blW b) = false) h2
      exact absurd (ba_lists e) h
    · rfl
theorem orF2_cases (a b : ByteArray) : orF2 a b = (b, a) ∨ orF2 a b = (a, b) := by
  unfold orF2
  split
  · exact .inl rfl
  · exact .inr rfl
/-- what is known of a rule that a turn makes -/
structure NewR (k : Int) (r : RulD) : Prop where
  left : wordOkB k r.1 = true
  right : wordOkB k r.2 = true
  less : lessS r.2 r.1 = true
  short : r.1.size ≤ 8
theorem less_ne {a b : ByteArray} (h : lessS a b = true) : b.size ≠ 0 := by
  intro h0
  have e : b.data.toList = [] := List.eq_nil_of_length_eq_zero h0
  have := lessS_wt h
  rw [e] at this
  simp [wt, wtL] at this
theorem NewR.rule {k : Int} {r : RulD} (h : NewR k r) : ruleP k r := ⟨⟨⟨h.left, h.right⟩, h.short, Nat.le_trans (lessS_size h.less) h.short⟩, less_ne h.less⟩
theorem allF_sys {k : Int} {R : List RulD} (hs : sysP k R) {r : RulD} (hr : NewR k r) : sysW k (allF R r) := by
  have key : ∀ p ∈ allF R r, p ∈ R ∨ p = r := fun p hp => by
    rcases List.mem_append.1 hp with hp | hp
    · exact .inl ((List.mem_filter.1 hp).1)
    · exact .inr (List.mem_singleton.1 hp)
  refine ⟨⟨hs.1.1.1, fun p hp => ?_⟩, fun p hp => ?_⟩
  · rcases key p hp with h | rfl
    · exact hs.1.2 p h
    · exact hr.rule
  · rcases key p hp with h | rfl
    · exact hs.2 p h
    · exact hr.less
theorem nextF_mem {R : List RulD} {r : RulD} {p : RulD} : p ∈ nextF R r ↔ (∃ q ∈ keptF R r.1, p = (q.1, nfC (allF R r) q.2)) ∨ p = r := by
  unfold nextF mapF
  rw [List.mem_append, List.mem_map, List.mem_singleton]
  constructor
  · rintro (⟨q, h1, h2⟩ | h)
    · exact .inl ⟨q, h1, h2.symm⟩
    · exact .inr h
  · rintro (⟨q, h1, h2⟩ | h)
    · exact .inl ⟨q, h1, h2.symm⟩
    · exact .inr h
theorem nextF_weak {k : Int} {R : List RulD} (hs : sysP k R) {r : RulD} (hr : NewR k r) : sysW k (nextF R r) := by
  have ha := allF_sys hs hr
  have key : ∀ p ∈ nextF R r, ruleP k p ∧ lessS p.2 p.1 = true := fun p hp => by
    rcases nextF_mem.1 hp with ⟨q, hq, rfl⟩ | rfl
    · have hq2 := (List.mem_filter.1 hq).1
      have h1 := hs.1.2 q hq2
      have h2 := nfC_le ha h1.1.1.2
      have h3 := lessS_wt (hs.2 q hq2)
      have h4 : lessS (nfC (allF R r) q.2) q.1 = true := wt_lessS (by omega)
      exact ⟨⟨⟨⟨h1.1.1.1, nfC_word ha h1.1.1.2⟩, h1.1.2.1, Nat.le_trans (lessS_size h4) h1.1.2.1⟩, h1.2⟩, h4⟩
    · exact ⟨hr.rule, hr.less⟩
  exact ⟨⟨hs.1.1.1, fun p hp => (key p hp).1⟩, fun p hp => (key p hp).2⟩
theorem nextF_sys {k : Int} {R : List RulD} (hs : sysP k R) {r : RulD} (hr : NewR k r) (hl : ¬ 12 < (nextF R r).length) : sysP k (nextF R r) :=
  ⟨⟨⟨hs.1.1.1, by omega⟩, (nextF_weak hs hr).1.2⟩, (nextF_weak hs hr).2⟩
theorem sides_word {k : Int} {N : List RulD} (hs : sysP k N) {p : PairD} (hp : p ∈ pairsF N) : wordOkB k (sidesF N p).1 = true ∧ wordOkB k (sidesF N p).2 = true := by
  have h := pairOk hs hp
  exact ⟨step_word hs h.word h.one, step_word hs h.word h.two⟩
theorem newQ_word {k : Int} {N : List RulD} (hs : sysP k N) : ∀ q ∈ newQ N, wordOkB k q.1 = true ∧ wordOkB k q.2 = true := fun q hq => by
  obtain ⟨p, hp, rfl⟩ := List.mem_map.1 hq
  exact sides_word hs ((List.mem_filter.1 hp).1)
theorem orF2_new {k : Int} {R : List RulD} (hs : sysP k R) {q : RulD} (hq : wordOkB k q.1 = true ∧ wordOkB k q.2 = true) (hne : ¬ nfC R q.1 = nfC R q.2) (h8 : ¬ 8 < (orF2 (nfC R q.1) (nfC R q.2)).1.size) : NewR k (orF2 (nfC R q.1) (nfC R q.2)) := by
  have h1 := nfC_word hs.weak hq.1
  have h2 := nfC_word hs.weak hq.2
  have h3 := orF2_less hne
  rcases orF2_cases (nfC R q.1) (nfC R q.2) with e | e <;> rw [e] at h3 h8 ⊢
  · exact ⟨h2, h1, h3, by omega⟩
  · exact ⟨h1, h2, h3, by omega⟩
/-- a turn that ends well leaves what a completion may go on from -/
theorem WorkP.turn {k : Int} {R Q : List RulD} {T : Nat} (h : WorkP k R Q T) (hc : (turnF R Q T).1 = 0) : WorkP k (turnF R Q T).2.1 (turnF R Q T).2.2.1 (turnF R Q T).2.2.2 := by
  cases Q with
  | nil => exact h
  | cons q Qt =>
    have hq := h.word q List.mem_cons_self
    have hf := h.few
    simp only [List.length_cons] at hf
    have ht := h.turns
    unfold turnF at hc ⊢
    simp only at hc ⊢
    by_cases c1 : T = 200
    · rw [if_pos c1] at hc; cases hc
    rw [if_neg c1] at hc ⊢
    by_cases c2 : nfC R q.1 = nfC R q.2
    · rw [if_pos c2]
      exact ⟨h.sys, by show Qt.length ≤ 400; omega, fun p hp => h.word p (List.mem_cons_of_mem _ hp), by show T + 1 ≤ 200; omega⟩
    rw [if_neg c2] at hc ⊢
    by_cases c3 : 8 < (orF2 (nfC R q.1) (nfC R q.2)).1.size
    · rw [if_pos c3] at hc; cases hc
    rw [if_neg c3] at hc ⊢
    by_cases c4 : 12 < (nextF R (orF2 (nfC R q.1) (nfC R q.2))).length
    · rw [if_pos c4] at hc; cases hc
    rw [if_neg c4] at hc ⊢
    by_cases c5 : 400 < (Qt ++ goneF R (orF2 (nfC R q.1) (nfC R q.2)).1 ++ newQ (nextF R (orF2 (nfC R q.1) (nfC R q.2)))).length
    · rw [if_pos c5] at hc; cases hc
    rw [if_neg c5]
    have hr := orF2_new h.sys hq c2 c3
    have hs2 := nextF_sys h.sys hr c4
    refine ⟨hs2, Nat.not_lt.1 c5, fun p hp => ?_, by show T + 1 ≤ 200; omega⟩
    rcases List.mem_append.1 hp with hp | hp
    · rcases List.mem_append.1 hp with hp | hp
      · exact h.word p (List.mem_cons_of_mem _ hp)
      · exact (h.sys.1.2 p ((List.mem_filter.1 hp).1)).1.1
    · exact newQ_word hs2 p hp
/-- a completion: turns one after the other, until no equation is left or a turn fails -/
inductive RunIs : List RulD → List RulD → Nat → Nat → List RulD → List RulD → Nat → Prop
  | done {R : List RulD} {T : Nat} : RunIs R [] T 0 R [] T
  | fail {R Q : List RulD} {T : Nat} : Q ≠ [] → (turnF R Q T).1 ≠ 0 → RunIs R Q T (turnF R Q T).1 R Q T
  | step {R Q : List RulD} {T c : Nat} {R' Q' : List RulD} {T' : Nat} : Q ≠ [] → (turnF R Q T).1 = 0 → RunIs (turnF R Q T).2.1 (turnF R Q T).2.2.1 (turnF R Q T).2.2.2 c R' Q' T' → RunIs R Q T c R' Q' T'
theorem RunIs.uniq {R Q : List RulD} {T c1 c2 : Nat} {R1 R2 Q1 Q2 : List RulD} {T1 T2 : Nat} (a : RunIs R Q T c1 R1 Q1 T1) (b : RunIs R Q T c2 R2 Q2 T2) : c1 = c2 ∧ R1 = R2 ∧ Q1 = Q2 ∧ T1 = T2 := by
  induction a generalizing c2 R2 Q2 T2 with
  | done =>
    cases b with
    | done => exact ⟨rfl, rfl, rfl, rfl⟩
    | fail h _ => exact absurd rfl h
    | step h _ _ => exact absurd rfl h
  | fail h1 h2 =>
    cases b with
    | done => exact absurd rfl h1
    | fail _ _ => exact ⟨rfl, rfl, rfl, rfl⟩
    | step _ h3 _ => exact absurd h3 h2
  | step h1 h2 _ ih =>
    cases b with
    | done => exact absurd rfl h1
    | fail _ h3 => exact absurd h2 h3
    | step _ _ b => exact ih b
end Go.Proofs.YtmgdglghjlggnaaGreat
