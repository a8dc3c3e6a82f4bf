/-
  AllReduced of the program.
-/
import Derived.Test.YtgoeadgpbidgiaaGreatClp11
import Derived.Test.YtgoeadgpbidgiaaGreatClp10
import Derived.DeepKeys4
import Derived.Test.YtgoeadgpbidgiaaGreatClp09
import Derived.Maps.OwnSet
import Derived.Deep.RegionHeld3
import Derived.Maps.OwnOps
import Derived.Deep.DeepCutAuto
namespace Go.Proofs.YtgoeadgpbidgiaaGreat
open Go.RowKit
set_option linter.unusedVariables false
theorem cells_one {l : List PairD} : ∀ u ∈ cellsL prV l, u.oneCell' = true := fun u hu => by
  unfold cellsL at hu
  obtain ⟨p, _, hp⟩ := List.mem_flatMap.1 hu
  simp only [prV, List.mem_cons, List.not_mem_nil, or_false] at hp
  rcases hp with rfl | rfl | rfl | rfl | rfl <;> rfl
theorem cells_five (l : List PairD) : (cellsL prV l).length = l.length * 5 := cellsL_len prV_len l
theorem szR_of {k : Int} {R : List RulD} (hs : sysP k R) : SzR R := fun j hj => by have := (hs.1.2 _ (nthR_mem hj)).1.2; unfold maxLen; omega
set_option maxRecDepth 100000 in
set_option maxHeartbeats 2000000 in
theorem specPairsOf_any (k : Int) (R : List RulD) (a : Option Addr) (cap : Nat) (w : World) (hl : RulesIn w a R) (hs : sysP k R) :
    Calls Tryz.prog 67 #[.agg #[.int .i64 k, .slice a R.length cap]] w (RetSl 114 5 (pairsF R).length (cellsL prV (pairsF R)) w) := by
  have h12 : R.length ≤ 12 := hs.1.1.2
  have h8 := left8 hs
  have HL := Lib.hid hl
  have HSO := Lib.hid (fun W h => specSystemOk_any k R a cap W h (by omega) (szR_of hs))
  have HYES := Lib.hid hs
  have HA := Lib.hid (fun o => alloc_belowS w o)
  have HBX : Hid (∀ W2, Below (w.alloc (.cells #[.int .i64 k, .slice a R.length cap] 25)).heap.size (w.alloc (.cells #[.int .i64 k, .slice a R.length cap] 25)) W2 → W2.cell? ⟨w.heap.size, 0, none⟩ = some (.int .i64 k) ∧ W2.cell? ⟨w.heap.size, 1, none⟩ = some (.slice a R.length cap)) := Lib.hid (fun W2 h => box_two h)
  have hpos : ∀ r, r < R.length → 0 < (nthR R r).1.size := fun r hr => by have := (hs.1.2 _ (nthR_mem hr)).2; omega
  have HIN := Lib.hid (fun i j W h hi hj => l05Inside_any k R a cap i j W h hi hj h8 hpos h12)
  have HAC := Lib.hid (fun i j W h hi hj => l05Across_any k R a cap i j W h hi hj h8 h12)
  have HLN := Lib.hid (fun i j (hi : i ≤ 12) (hj : j ≤ 12) => pairTo_len h8 h12 (i := i) (j := j) hi hj)
  have HL1' := Lib.hid (fun i j => inF_len h8 i j)
  have HL2' := Lib.hid (fun i j => acF_len h8 i j)
  clear hl hs h8 hpos
  go_enter Tryz.func67, Tryz.ntmps67
  go_wp2_with fail
  refine (HSO.out _ (HL.out.later (HA.out _))).mono ?_
  rintro e w1 ⟨bb, hbb, rfl, hb1⟩
  obtain rfl := hbb.2 HYES.out
  have HW1 := Lib.hid (Below.now (HA.out _) hb1)
  have HBX1 : Hid (∀ W2, Below w1.heap.size w1 W2 → W2.cell? ⟨w.heap.size, 0, none⟩ = some (.int .i64 k) ∧ W2.cell? ⟨w.heap.size, 1, none⟩ = some (.slice a R.length cap)) := Lib.hid (fun W2 hW2 => HBX.out W2 (Below.now hb1 hW2))
  have HL1 := Lib.hid (HL.out.later (Below.now (HA.out _) hb1))
  have HB0 : Hid (Bld 114 5 w1 (w1.alloc (.cells #[] 114)) (.slice (some ⟨w1.heap.size, 0, none⟩) 0 0) (pairTo R 0 0).length (cellsL prV (pairTo R 0 0))) := Lib.hid (Bld.empty 114 5 w1)
  have s0 := fun o => (HBX1.out _ (alloc_belowS w1 o)).1
  have s1 := fun o => (HBX1.out _ (alloc_belowS w1 o)).2
  clear hbb hb1 HSO HBX
  go_wp2_with fail
  go_loopw [3, 13] (fun vo vi wr => ∃ i : Nat, i ≤ R.length ∧ vi = .int .i64 (i : Nat) ∧ Bld 114 5 w1 wr vo (pairTo R i 0).length (cellsL prV (pairTo R i 0))) (fun _ vi _ => R.length - (intOf vi).toNat)
  case atStart => exact ⟨0, Nat.zero_le _, rfl, HB0.out⟩
  case round =>
    clear HB0 s0 s1
    obtain ⟨i, hi, rfl, hbd⟩ := hrel
    obtain ⟨ao, co, rfl⟩ := owns_form hbd.1
    have HB := Lib.hid hbd
    obtain ⟨s0, s1⟩ := HBX1.out wr hbd.2
    clear hbd
    by_cases hlt : i < R.length
    · have HXT := Lib.hid (pairTo_next R i)
      go_wp2_with fail
      generalize hW : wr = wr0 at *
      clear hW s0 s1
      go_loopw [3, 19] (fun vo vj wr => ∃ j : Nat, j ≤ R.length ∧ vj = .int .i64 (j : Nat) ∧ Bld 114 5 w1 wr vo (pairTo R i j).length (cellsL prV (pairTo R i j))) (fun _ vj _ => R.length - (intOf vj).toNat)
      case atStart => exact ⟨0, Nat.zero_le _, rfl, HB.out⟩
      case round =>
        clear HB
        obtain ⟨j, hj, rfl, hbd⟩ := hrel
        obtain ⟨a2, c2, rfl⟩ := owns_form hbd.1
        have HB := Lib.hid hbd
        obtain ⟨s0, s1⟩ := HBX1.out wr hbd.2
        have hln := HLN.out i j (by omega) (by omega)
        by_cases hlr : j < R.length
        · have hl1 := HL1'.out i j
          have hl2 := HL2'.out i j
          have HC1 := Lib.hid (HIN.out i j wr (HL1.out.later hbd.2) hlt hlr)
          have HC2 := Lib.hid (fun W h => HAC.out i j W h hlt hlr)
          have HNX := Lib.hid (pairTo_step R i j)
          clear hbd
          generalize pairTo R i j = X at *
          generalize inF R i j = Y at *
          generalize acF R i j = Z at *
          go_wp2_with fail
          refine HC1.out.mono ?_
          rintro e w6 ⟨a6, c6, rfl, ho6, hb6⟩
          have HB6 := Lib.hid (HB.out.later hb6)
          have HS6 := Lib.hid (Src.of_owns ho6)
          have HN6 := Lib.hid (cells_five Y)
          have HO6 := Lib.hid (cells_one (l := Y))
          clear ho6 hb6 s0 s1
          go_wp2_with (at_builtin; refine wpList_appM rfl (.tmp 22) (.tmp 26) rfl Tryz.underlying71 Tryz.infoPair rfl (by decide) rfl HB6.out rfl HS6.out HN6.out HO6.out ?a1 ?a2 ?a3)
          case a1 => unfold maxLen; omega
          case a2 => omega
          intro v7 w7 hb7 hg7 ho7
          have HB7 : Hid (Bld 114 5 w1 w7 v7 (X ++ Y).length (cellsL prV (X ++ Y))) := Lib.hid (by
            rw [List.length_append, cellsL_app]; exact hb7)
          obtain ⟨a7, c7, hv7⟩ := owns_form HB7.out.1
          subst hv7
          have hlx : (X ++ Y).length ≤ 2504 := by rw [List.length_append]; omega
          obtain ⟨t0, t1⟩ := HBX1.out w7 HB7.out.2
          have HC3 := Lib.hid (HC2.out w7 (HL1.out.later HB7.out.2))
          clear hb7 hg7 ho7
          have HNY : Hid (pairTo R i (j + 1) = (X ++ Y) ++ Z) := Lib.hid (by rw [HNX.out, List.append_assoc])
          generalize X ++ Y = X2 at *
          go_wp2_with fail
          refine HC3.out.mono ?_
          rintro e w8 ⟨a8, c8, rfl, ho8, hb8⟩
          have HB8 := Lib.hid (HB7.out.later hb8)
          have HS8 := Lib.hid (Src.of_owns ho8)
          have HN8 := Lib.hid (cells_five Z)
          have HO8 := Lib.hid (cells_one (l := Z))
          clear ho8 hb8 t0 t1
          go_wp2_with (at_builtin; refine wpList_appM rfl (.tmp 28) (.tmp 32) rfl Tryz.underlying71 Tryz.infoPair rfl (by decide) rfl HB8.out rfl HS8.out HN8.out HO8.out ?b1 ?b2 ?b3)
          case b1 => unfold maxLen; omega
          case b2 => omega
          intro v9 w9 hb9 hg9 ho9
          have HB9 : Hid (Bld 114 5 w1 w9 v9 (pairTo R i (j + 1)).length (cellsL prV (pairTo R i (j + 1)))) := Lib.hid (by
            rw [HNY.out, List.length_append, cellsL_app]; exact hb9)
          obtain ⟨a9, c9, hv9⟩ := owns_form HB9.out.1
          subst hv9
          clear hb9 hg9 ho9
          go_wp2_with fail
          go_roundw
          case rel => exact ⟨j + 1, by omega, by go_num, HB9.out⟩
          case measure => simp [intOf]; omega
        · obtain rfl : j = R.length := by omega
          have HB2 : Hid (Bld 114 5 w1 wr (.slice a2 (pairTo R i R.length).length c2) (pairTo R (i + 1) 0).length (cellsL prV (pairTo R (i + 1) 0))) := Lib.hid (by rw [← HXT.out]; exact HB.out)
          clear hbd
          go_wp2_with fail
          go_roundw
          case rel => exact ⟨i + 1, by omega, by go_num, HB2.out⟩
          case measure => simp [intOf]; omega
    · obtain rfl : i = R.length := by omega
      have F : Hid (RetSl 114 5 (pairsF R).length (cellsL prV (pairsF R)) w (.returned (.slice ao (pairTo R R.length 0).length co)) wr) := Lib.hid (by
        rw [pairTo_done] at HB ⊢
        exact ((HB.out.since HW1.out).ret))
      go_wp2_with fail
      go_ret
      exact F.out
end Go.Proofs.YtgoeadgpbidgiaaGreat
namespace Go.Proofs.YtgoeadgpbidgiaaGreat
open Go.RowKit
set_option linter.unusedVariables false
/-- the value of a pair -/
def pairVal (p : PairD) : Value := .agg #[.string p.1, .int .i64 (p.2.1 : Nat), .int .i64 0, .int .i64 (p.2.2.1 : Nat), .int .i64 (p.2.2.2 : Nat)]
/-- the object of a pair -/
def pairObj (p : PairD) : Obj := .cells #[.string p.1, .int .i64 (p.2.1 : Nat), .int .i64 0, .int .i64 (p.2.2.1 : Nat), .int .i64 (p.2.2.2 : Nat)] 114
/-- its cells -/
def PairAt (W : World) (g : Nat) (p : PairD) : Prop := W.cell? ⟨g, 0, none⟩ = some (.string p.1) ∧ W.cell? ⟨g, 1, none⟩ = some (.int .i64 (p.2.1 : Nat)) ∧ W.cell? ⟨g, 2, none⟩ = some (.int .i64 0) ∧ W.cell? ⟨g, 3, none⟩ = some (.int .i64 (p.2.2.1 : Nat)) ∧ W.cell? ⟨g, 4, none⟩ = some (.int .i64 (p.2.2.2 : Nat))
theorem pairAt_box {W W2 : World} {p : PairD} (hb : Below (W.alloc (pairObj p)).heap.size (W.alloc (pairObj p)) W2) : PairAt W2 W.heap.size p := by
  have h := (hb.block W.heap.size (by simp)).trans (alloc_at W _)
  unfold pairObj at h
  refine ⟨?_, ?_, ?_, ?_, ?_⟩ <;> simp [World.cell?, h]
set_option maxRecDepth 100000 in
set_option maxHeartbeats 2000000 in
theorem specSidesOf_any (k : Int) (R : List RulD) (a : Option Addr) (cap : Nat) (p : PairD) (w : World) (hl : RulesIn w a R) (hs : sysP k R) (hp : PairOk R k p) :
    Calls Tryz.prog 97 #[.agg #[.int .i64 k, .slice a R.length cap], pairVal p] w fun e w' => e = .returned (.tuple #[.string (leftP R p), .string (rightP R p), .bool true]) ∧ Below w.heap.size w w' := by
  have HL := Lib.hid hl
  have HSO := Lib.hid (fun W h => specSystemOk_any k R a cap W h (by have := hs.1.1.2; omega) (szR_of hs))
  have HYES := Lib.hid hs
  have H1 := Lib.hid (fun W h => specApplyStep_any k R a cap p.1 p.2.1 0 W h hs (wdP_of hp.word).len hp.one)
  have H2 := Lib.hid (fun W h => specApplyStep_any k R a cap p.1 p.2.2.1 p.2.2.2 W h hs (wdP_of hp.word).len hp.two)
  have HLP : Hid (applyF R p.1 (p.2.1, 0) = leftP R p) := Lib.hid rfl
  have HRP : Hid (applyF R p.1 (p.2.2.1, p.2.2.2) = rightP R p) := Lib.hid rfl
  rw [HLP.out] at H1
  rw [HRP.out] at H2
  have HPO : Hid (Obj.cells #[.string p.1, .int .i64 (p.2.1 : Nat), .int .i64 0, .int .i64 (p.2.2.1 : Nat), .int .i64 (p.2.2.2 : Nat)] 114 = pairObj p) := Lib.hid rfl
  clear hl hs hp HLP HRP
  unfold pairVal
  generalize leftP R p = lp at *
  generalize rightP R p = rp at *
  have e1 : (w.alloc (.cells #[.int .i64 k, .slice a R.length cap] 25)).heap.size = w.heap.size + 1 := by simp
  have hbb := alloc_belowS (w.alloc (.cells #[.int .i64 k, .slice a R.length cap] 25)) (pairObj p)
  have HB0 := Lib.hid (Below.now (alloc_belowS w (.cells #[.int .i64 k, .slice a R.length cap] 25)) hbb)
  have HBX := Lib.hid (fun W2 (h : Below ((w.alloc (.cells #[.int .i64 k, .slice a R.length cap] 25)).alloc (pairObj p)).heap.size ((w.alloc (.cells #[.int .i64 k, .slice a R.length cap] 25)).alloc (pairObj p)) W2) => And.intro (box_two (Below.now hbb h)) (pairAt_box h))
  rw [e1] at HBX
  unfold PairAt at HBX
  clear hbb e1
  go_enter Tryz.func97, Tryz.ntmps97
  go_wp2_with fail
  rw [HPO.out]
  generalize (w.alloc (.cells #[.int .i64 k, .slice a R.length cap] 25)).alloc (pairObj p) = w1 at *
  refine (HSO.out _ (HL.out.later HB0.out)).mono ?_
  rintro e w2 ⟨bb, hbb, rfl, hb2⟩
  obtain rfl := hbb.2 HYES.out
  have HW2 := Lib.hid (Below.now HB0.out hb2)
  have HB2 := Lib.hid hb2
  obtain ⟨⟨s0, s1⟩, q0, q1, q2, q3, q4⟩ := HBX.out w2 hb2
  clear hbb hb2 HSO HPO
  obtain ⟨u, x, y, z⟩ := p
  go_wp2_with fail
  refine (H1.out _ (HL.out.later HW2.out)).mono ?_
  rintro e w3 ⟨rfl, hb3⟩
  have HW3 := Lib.hid (Below.now HW2.out hb3)
  have HB3 := Lib.hid (Below.now HB2.out hb3)
  obtain ⟨⟨t0, t1⟩, p0, p1, p2, p3, p4⟩ := HBX.out w3 HB3.out
  clear hb3 s0 s1 q0 q1 q2 q3 q4
  go_wp2_with fail
  refine (H2.out _ (HL.out.later HW3.out)).mono ?_
  rintro e w4 ⟨rfl, hb4⟩
  have HW4 := Lib.hid (Below.now HW3.out hb4)
  have F : Hid (∀ W, Below w.heap.size w W → Ending.returned (.tuple #[.string lp, .string rp, .bool true]) = .returned (.tuple #[.string lp, .string rp, .bool true]) ∧ Below w.heap.size w W) := Lib.hid (fun W h => ⟨rfl, h⟩)
  clear hb4 t0 t1 p0 p1 p2 p3 p4
  go_wp2_with fail
  refine bodyPost_ret (v := .tuple #[.string lp, .string rp, .bool true]) ?_ rfl ⟨rfl, HW4.out⟩
  simp [results, Tryz.results97, go_sem]
theorem joined_iff {R : List RulD} {p : PairD} {x y : ByteArray} (hx : NormIs R (leftP R p) x) (hy : NormIs R (rightP R p) y) : Joined R p ↔ x = y :=
  ⟨fun ⟨z, h1, h2⟩ => (hx.uniq h1).trans (h2.uniq hy), fun e => ⟨x, hx, e ▸ hy⟩⟩
theorem left_word {k : Int} {R : List RulD} (hs : sysP k R) {p : PairD} (hp : PairOk R k p) : wordOkB k (leftP R p) = true := step_word hs hp.word hp.one
theorem right_word {k : Int} {R : List RulD} (hs : sysP k R) {p : PairD} (hp : PairOk R k p) : wordOkB k (rightP R p) = true := step_word hs hp.word hp.two
set_option maxRecDepth 100000 in
set_option maxHeartbeats 2000000 in
theorem specIsJoined_any (k : Int) (R : List RulD) (a : Option Addr) (cap : Nat) (p : PairD) (w : World) (hl : RulesIn w a R) (hs : sysP k R) (hp : PairOk R k p) :
    Calls Tryz.prog 68 #[.agg #[.int .i64 k, .slice a R.length cap], pairVal p] w (RetP (Joined R p) w) := by
  have HL := Lib.hid hl
  have HSD := Lib.hid (fun W h => specSidesOf_any k R a cap p W h hs hp)
  have HN1 := Lib.hid (fun W h => specNormalForm_ok k R a cap (leftP R p) W h hs (left_word hs hp))
  have HN2 := Lib.hid (fun W h => specNormalForm_ok k R a cap (rightP R p) W h hs (right_word hs hp))
  have HJ := Lib.hid (fun x y h1 h2 => joined_iff (R := R) (p := p) (x := x) (y := y) h1 h2)
  have HPO : Hid (Obj.cells #[.string p.1, .int .i64 (p.2.1 : Nat), .int .i64 0, .int .i64 (p.2.2.1 : Nat), .int .i64 (p.2.2.2 : Nat)] 114 = pairObj p) := Lib.hid rfl
  clear hl hs hp
  unfold pairVal at HSD
  unfold pairVal
  generalize leftP R p = lp at *
  generalize rightP R p = rp at *
  have e1 : (w.alloc (.cells #[.int .i64 k, .slice a R.length cap] 25)).heap.size = w.heap.size + 1 := by simp
  have hbb := alloc_belowS (w.alloc (.cells #[.int .i64 k, .slice a R.length cap] 25)) (pairObj p)
  have HB0 := Lib.hid (Below.now (alloc_belowS w (.cells #[.int .i64 k, .slice a R.length cap] 25)) hbb)
  have HBX := Lib.hid (fun W2 (h : Below ((w.alloc (.cells #[.int .i64 k, .slice a R.length cap] 25)).alloc (pairObj p)).heap.size ((w.alloc (.cells #[.int .i64 k, .slice a R.length cap] 25)).alloc (pairObj p)) W2) => (box_two (Below.now hbb h)))
  clear hbb e1
  go_enter Tryz.func68, Tryz.ntmps68
  go_wp2_with fail
  rw [HPO.out]
  generalize (w.alloc (.cells #[.int .i64 k, .slice a R.length cap] 25)).alloc (pairObj p) = w1 at *
  refine (HSD.out _ (HL.out.later HB0.out)).mono ?_
  rintro e w2 ⟨rfl, hb2⟩
  have HB2 := Lib.hid hb2
  obtain ⟨s0, s1⟩ := HBX.out w2 hb2
  clear hb2 HSD HPO
  go_wp2_with fail
  refine (HN1.out _ (HL.out.later (Below.now HB0.out HB2.out))).mono ?_
  rintro e w3 ⟨x, hx, rfl, hb3⟩
  have HX := Lib.hid hx
  have HB3 := Lib.hid (Below.now HB2.out hb3)
  obtain ⟨t0, t1⟩ := HBX.out w3 HB3.out
  clear hb3 hx s0 s1
  go_wp2_with fail
  refine (HN2.out _ (HL.out.later (Below.now HB0.out HB3.out))).mono ?_
  rintro e w4 ⟨y, hy, rfl, hb4⟩
  have F : Hid (RetP (Joined R p) w (.returned (.bool (x.toList == y.toList))) w4) := Lib.hid ⟨_, ⟨fun h => (HJ.out x y HX.out hy).2 (bytes_eq.1 h), fun h => bytes_eq.2 ((HJ.out x y HX.out hy).1 h)⟩, rfl, Below.now HB0.out (Below.now HB3.out hb4)⟩
  clear hb4 hy t0 t1
  go_wp2_with fail
  go_ret
  exact F.out
theorem openL_take {R : List RulD} {S : List PairD} {q : Nat} (h : q < S.length) : openL R (S.take (q + 1)) = openL R (S.take q) ++ openL R [S[q]] := by
  rw [List.take_succ_eq_append_getElem h, openL_app]
theorem openL_len (R : List RulD) (l : List PairD) : (openL R l).length ≤ l.length := by
  unfold openL
  exact List.length_filter_le _ _
set_option maxRecDepth 100000 in
set_option maxHeartbeats 2000000 in
theorem specOpenPairs_any (k : Int) (R : List RulD) (a : Option Addr) (cap : Nat) (w : World) (hl : RulesIn w a R) (hs : sysP k R) :
    Calls Tryz.prog 38 #[.agg #[.int .i64 k, .slice a R.length cap]] w (RetSl 114 5 (openF R).length (cellsL prV (openF R)) w) := by
  have HL := Lib.hid hl
  have HPF := Lib.hid (fun W h => specPairsOf_any k R a cap W h hs)
  have HIJ := Lib.hid (fun p W h (hm : p ∈ pairsF R) => specIsJoined_any k R a cap p W h hs (pairOk hs hm))
  have HSZ : (pairsF R).length ≤ 2496 := by
    have h := pairTo_len (left8 hs) hs.1.1.2 (i := R.length) (j := 0) hs.1.1.2 (by omega)
    rw [pairTo_done] at h
    exact h
  have HFE : Hid (openF R = openL R ((pairsF R).take (pairsF R).length)) := Lib.hid (by rw [List.take_length]; rfl)
  have hb1 := alloc_belowS w (.cells #[.int .i64 k, .slice a R.length cap] 25)
  have HBX := Lib.hid (fun W2 (h : Below (w.alloc (.cells #[.int .i64 k, .slice a R.length cap] 25)).heap.size (w.alloc (.cells #[.int .i64 k, .slice a R.length cap] 25)) W2) => box_two h)
  have HW1 := Lib.hid hb1
  clear hl hs
  go_enter Tryz.func38, Tryz.ntmps38
  have s0 := fun o => (HBX.out _ (alloc_belowS _ o)).1
  have s1 := fun o => (HBX.out _ (alloc_belowS _ o)).2
  go_wp2_with fail
  have HB0 : Hid (Bld 114 5 (w.alloc (.cells #[.int .i64 k, .slice a R.length cap] 25)) ((w.alloc (.cells #[.int .i64 k, .slice a R.length cap] 25)).alloc (.cells #[] 114)) (.slice (some ⟨(w.alloc (.cells #[.int .i64 k, .slice a R.length cap] 25)).heap.size, 0, none⟩) 0 0) 0 (cellsL prV [])) := Lib.hid (Bld.empty 114 5 _)
  have e1 : (w.alloc (.cells #[.int .i64 k, .slice a R.length cap] 25)).heap.size = w.heap.size + 1 := by simp
  rw [e1] at HB0
  clear s0 s1
  generalize hW1 : w.alloc (.cells #[.int .i64 k, .slice a R.length cap] 25) = w1 at *
  have hb3 := alloc_belowS w1 (.cells #[] 114)
  obtain ⟨w2, hw2⟩ : ∃ w2, w2 = w1.alloc (.cells #[] 114) := ⟨_, rfl⟩
  rw [← hw2] at hb3 HB0 ⊢
  have HB3 := Lib.hid hb3
  have hs12 : w1.heap.size = w.heap.size + 1 := by rw [← hW1]; simp
  have hs22 : w2.heap.size = w1.heap.size + 1 := by rw [hw2]; simp
  clear hb1 hb3 hw2 e1 hW1
  have HMM : Hid (∀ q (h : q < (pairsF R).length), (pairsF R)[q] ∈ pairsF R) := Lib.hid (fun q h => List.getElem_mem h)
  refine (HPF.out _ (HL.out.later (Below.now HW1.out HB3.out))).mono ?_
  rintro e wc ⟨a2, c2, rfl, ho6, hbc⟩
  have hba : ∀ x, a2 = some x → w2.heap.size ≤ x.block ∧ x.block < wc.heap.size := fun x hx => ho6.lt x.block (by rw [hx]; rfl)
  have HI : Hid (RowsIn prV wc a2 (pairsF R)) := Lib.hid (owns_rows ho6)
  have HB1 : Hid (Bld 114 5 w1 wc (.slice (some ⟨w.heap.size + 1, 0, none⟩) 0 0) (openL R ((pairsF R).take 0)).length (cellsL prV (openL R ((pairsF R).take 0)))) := Lib.hid (HB0.out.later hbc)
  have HA1 : Hid (Away wc a2 (.slice (some ⟨w.heap.size + 1, 0, none⟩) 0 0)) := Lib.hid (fun x hx => by
    obtain ⟨h1, h2⟩ := hba x hx
    exact ⟨h2, fun e => by have e2 : x.block = w.heap.size + 1 := Option.some.inj e; omega⟩)
  have HIJ2 : Hid (∀ q (h : q < (pairsF R).length) W, RulesIn W a R → Calls Tryz.prog 68 #[.agg #[.int .i64 k, .slice a R.length cap], pairVal (pairsF R)[q]] W (RetP (Joined R (pairsF R)[q]) W)) := Lib.hid (fun q h W hW => HIJ.out _ W hW (HMM.out q h))
  clear hbc ho6 HB0 HPF hba HIJ HMM
  generalize pairsF R = S at *
  go_wp2_with fail
  go_loopw [3, 10] (fun vo vq wr => ∃ q : Nat, q ≤ S.length ∧ vq = .int .i64 (q : Nat) ∧ Bld 114 5 w1 wr vo (openL R (S.take q)).length (cellsL prV (openL R (S.take q))) ∧ Hid (RowsIn prV wr a2 S) ∧ Hid (Away wr a2 vo)) (fun _ vq _ => S.length - (intOf vq).toNat)
  case atStart => exact ⟨0, Nat.zero_le _, rfl, HB1.out, HI, HA1⟩
  case round =>
    clear HB1 HI HA1
    obtain ⟨q, hq, rfl, hbd, HI, HAW⟩ := hrel
    obtain ⟨ao, co, rfl⟩ := owns_form hbd.1
    have HB := Lib.hid hbd
    have hil := openL_len R (S.take q)
    have htl : (S.take q).length ≤ 2496 := by rw [List.length_take]; omega
    by_cases hlt : q < S.length
    · obtain ⟨b2, off2, rfl, hb2, hcs⟩ := RowsIn.cell prV_len (by omega) HI.out hlt
      have HNX := Lib.hid (openL_take (R := R) hlt)
      have HC := Lib.hid (HIJ2.out q hlt)
      have c0 : wr.cell? ⟨b2, off2 + q * 5, none⟩ = some (.string S[q].1) := hcs q hlt 0 _ rfl
      have c1 : wr.cell? ⟨b2, off2 + q * 5 + 1, none⟩ = some (.int .i64 (S[q].2.1 : Nat)) := hcs q hlt 1 _ rfl
      have c2 : wr.cell? ⟨b2, off2 + q * 5 + 2, none⟩ = some (.int .i64 0) := hcs q hlt 2 _ rfl
      have c3 : wr.cell? ⟨b2, off2 + q * 5 + 3, none⟩ = some (.int .i64 (S[q].2.2.1 : Nat)) := hcs q hlt 3 _ rfl
      have c4 : wr.cell? ⟨b2, off2 + q * 5 + 4, none⟩ = some (.int .i64 (S[q].2.2.2 : Nat)) := hcs q hlt 4 _ rfl
      have HLR := Lib.hid (fun o => HL.out.later (Below.now HW1.out (Below.now hbd.2 (alloc_belowS wr o))))
      have s0 := fun o => (HBX.out _ (Below.now hbd.2 (alloc_belowS wr o))).1
      have s1 := fun o => (HBX.out _ (Below.now hbd.2 (alloc_belowS wr o))).2
      unfold pairVal at HC
      clear hcs hbd
      generalize S[q] = p at *
      obtain ⟨u, x, y, z⟩ := p
      go_wp2_with fail
      refine (HC.out _ (HLR.out _)).mono ?_
      rintro e w5 ⟨bb, hbb, rfl, hb5⟩
      have HB5 := Lib.hid (HB.out.later (Below.now (alloc_belowS wr _) hb5))
      have HI5 := Lib.hid (HI.out.later (Below.now (alloc_belowS wr _) hb5))
      have HA5 : Hid (Away w5 (some ⟨b2, off2, none⟩) (.slice ao (openL R (S.take q)).length co)) := Lib.hid (fun x hx => ⟨Nat.lt_of_lt_of_le (HAW.out x hx).1 (Below.now (alloc_belowS wr _) hb5).size, (HAW.out x hx).2⟩)
      obtain ⟨k0, k1, k2, k3, k4⟩ := pairAt_box (p := (u, x, y, z)) hb5
      have HBB := Lib.hid hbb
      clear hb5 hbb s0 s1 c0 c1 c2 c3 c4 HC HLR
      cases bb
      · have HNY : Hid (openL R (S.take (q + 1)) = openL R (S.take q) ++ [(u, x, y, z)]) := Lib.hid (by
          rw [HNX.out, openL_no (fun h => by have := HBB.out.2 h; cases this)])
        have HB6 := Lib.hid (HB5.out.later (alloc_belowS w5 (.cells #[.string u, .int .i64 (x : Nat), .int .i64 0, .int .i64 (y : Nat), .int .i64 (z : Nat)] 114)))
        have HN1 : Hid ([Value.string u, .int .i64 (x : Nat), .int .i64 0, .int .i64 (y : Nat), .int .i64 (z : Nat)].length = 1 * 5) := Lib.hid rfl
        have HN2 : Hid (∀ v ∈ [Value.string u, .int .i64 (x : Nat), .int .i64 0, .int .i64 (y : Nat), .int .i64 (z : Nat)], v.oneCell' = true) := Lib.hid (fun v hv => by simp at hv; rcases hv with rfl | rfl | rfl | rfl | rfl <;> rfl)
        generalize openL R (S.take q) = X at *
        go_wp2_with (at_builtin; refine wpList_appM rfl (.tmp 18) (.tmp 20) rfl Tryz.underlying71 Tryz.infoPair rfl (by decide) rfl HB6.out rfl (Src.lit _) HN1.out HN2.out ?a1 ?a2 ?a3)
        case a1 => unfold maxLen; omega
        case a2 => omega
        intro v4 w4 hb4 hg4 ho4
        have HB4 : Hid (Bld 114 5 w1 w4 v4 (openL R (S.take (q + 1))).length (cellsL prV (openL R (S.take (q + 1))))) := Lib.hid (by
          rw [HNY.out, List.length_append, cells_prV]; exact hb4)
        have HG4 := Lib.hid ((World.grownBy_alloc w5 _ (Value.slice ao X.length co).ownBlock).trans hg4)
        have HI4 : Hid (RowsIn prV w4 (some ⟨b2, off2, none⟩) S) := Lib.hid (CellsIn.grownC HI5.out HG4.out (fun x hx => (HA5.out x hx).2))
        have HA4 : Hid (Away w4 (some ⟨b2, off2, none⟩) v4) := Lib.hid (fun x hx => by
          obtain ⟨h1, h2⟩ := HA5.out x hx
          refine ⟨Nat.lt_of_lt_of_le h1 HG4.out.size, fun e => ?_⟩
          rcases ho4 with h | h
          · exact h2 (e.trans h)
          · have e4 := Option.some.inj (e.trans h)
            first | omega | (simp at e4; omega))
        obtain ⟨a4, c4, hv4⟩ := owns_form HB4.out.1
        subst hv4
        clear hb4 hg4 ho4
        go_wp2_with fail
        go_roundw
        case rel => exact ⟨q + 1, by omega, by go_num, HB4.out, HI4, HA4⟩
        case measure => simp [intOf]; omega
      · have HNY : Hid (openL R (S.take (q + 1)) = openL R (S.take q)) := Lib.hid (by
          rw [HNX.out, openL_yes (HBB.out.1 rfl), List.append_nil])
        generalize openL R (S.take q) = X at *
        go_wp2_with fail
        go_roundw
        case rel => exact ⟨q + 1, by omega, by go_num, by rw [HNY.out]; exact HB5.out, HI5, HA5⟩
        case measure => simp [intOf]; omega
    · obtain rfl : q = S.length := by omega
      have F : Hid (RetSl 114 5 (openF R).length (cellsL prV (openF R)) w (.returned (.slice ao (openL R (S.take S.length)).length co)) wr) := Lib.hid (by
        rw [HFE.out]
        exact (HB.out.since HW1.out).ret)
      clear hbd
      go_wp2_with fail
      go_ret
      exact F.out
end Go.Proofs.YtgoeadgpbidgiaaGreat
namespace Go.Proofs.YtgoeadgpbidgiaaGreat
open Go.RowKit
set_option linter.unusedVariables false
/-- what IsComplete is -/
def ComplP (k : Int) (R : List RulD) : Prop := sysP k R ∧ openF R = []
set_option maxRecDepth 100000 in
set_option maxHeartbeats 2000000 in
theorem specIsComplete_any (k : Int) (R : List RulD) (a : Option Addr) (cap : Nat) (w : World) (hl : RulesIn w a R) (hlen : R.length ≤ 2 ^ 40) (hz : SzR R) :
    Calls Tryz.prog 15 #[.agg #[.int .i64 k, .slice a R.length cap]] w (RetP (ComplP k R) w) := by
  have HSO := Lib.hid (fun W h => specSystemOk_any k R a cap W h hlen hz)
  have HO := Lib.hid (fun W h hs => specOpenPairs_any k R a cap W h hs)
  have hb1 := alloc_belowS w (.cells #[.int .i64 k, .slice a R.length cap] 25)
  have HBX := Lib.hid (fun W2 (h : Below (w.alloc (.cells #[.int .i64 k, .slice a R.length cap] 25)).heap.size (w.alloc (.cells #[.int .i64 k, .slice a R.length cap] 25)) W2) => box_two h)
  have HW1 := Lib.hid hb1
  have HL := Lib.hid (hl.later hb1)
  clear hl hb1 hz
  go_enter Tryz.func15, Tryz.ntmps15
  go_wp2_with fail
  generalize w.alloc (.cells #[.int .i64 k, .slice a R.length cap] 25) = w1 at *
  refine (HSO.out _ HL.out).mono ?_
  rintro e w2 ⟨bb, hbb, rfl, hb2⟩
  have HBB := Lib.hid hbb
  have HB2 := Lib.hid hb2
  obtain ⟨s0, s1⟩ := HBX.out w2 hb2
  clear hbb hb2
  cases bb
  · have F : Hid (RetP (ComplP k R) w (.returned (.bool false)) w2) := Lib.hid (RetP.no (fun h => by have := HBB.out.2 h.1; cases this) (Below.now HW1.out HB2.out))
    go_wp2_with fail
    go_ret
    exact F.out
  · have HSP := Lib.hid (HBB.out.1 rfl)
    go_wp2_with fail
    refine (HO.out _ (HL.out.later HB2.out) HSP.out).mono ?_
    rintro e w3 ⟨a3, c3, rfl, ho3, hb3⟩
    have HB3 := Lib.hid (Below.now HW1.out (Below.now HB2.out hb3))
    clear hb3 ho3 s0 s1
    by_cases h0 : (openF R).length = 0
    · have F : Hid (RetP (ComplP k R) w (.returned (.bool true)) w3) := Lib.hid (RetP.yes ⟨HSP.out, List.length_eq_zero_iff.1 h0⟩ HB3.out)
      have hb : (((openF R).length : Int) == 0) = true := by rw [h0]; rfl
      clear h0
      go_wp2_with fail
      go_ret
      exact F.out
    · have F : Hid (RetP (ComplP k R) w (.returned (.bool false)) w3) := Lib.hid (RetP.no (fun h => h0 (by rw [h.2]; rfl)) HB3.out)
      have hb : (((openF R).length : Int) == 0) = false := by rw [beq_eq_false_iff_ne]; omega
      clear h0
      go_wp2_with fail
      go_ret
      exact F.out
end Go.Proofs.YtgoeadgpbidgiaaGreat
namespace Go.Proofs.YtgoeadgpbidgiaaGreat
open Go.RowKit
set_option linter.unusedVariables false
/-- the first reduced word from w by m letters that is above the bound -/
def firstF (R : List RulD) (k : Nat) (bound : ByteArray) (m : Nat) (w : ByteArray) : Option ByteArray := (wordsF R k m w).find? fun u => ltB bound u
/-- none begins with w and one of the first x letters -/
def NoneTo (R : List RulD) (k : Nat) (bound : ByteArray) (m : Nat) (w : ByteArray) (x : Nat) : Prop := ∀ y, y < x → okX R w y = true → firstF R k bound m (w ++ letterN y) = none
theorem NoneTo.start (R : List RulD) (k : Nat) (bound : ByteArray) (m : Nat) (w : ByteArray) : NoneTo R k bound m w 0 := fun y hy => by omega
theorem NoneTo.no {R : List RulD} {k : Nat} {bound : ByteArray} {m : Nat} {w : ByteArray} {x : Nat} (h : NoneTo R k bound m w x) (hx : okX R w x = false) : NoneTo R k bound m w (x + 1) := fun y hy ho => by
  by_cases e : y = x
  · subst e; rw [hx] at ho; cases ho
  · exact h y (by omega) ho
theorem NoneTo.skip {R : List RulD} {k : Nat} {bound : ByteArray} {m : Nat} {w : ByteArray} {x : Nat} (h : NoneTo R k bound m w x) (hx : firstF R k bound m (w ++ letterN x) = none) : NoneTo R k bound m w (x + 1) := fun y hy ho => by
  by_cases e : y = x
  · subst e; exact hx
  · exact h y (by omega) ho
theorem find_flat {α β : Type} (p : β → Bool) (g : α → List β) : ∀ l : List α, (∀ a ∈ l, (g a).find? p = none) → (l.flatMap g).find? p = none := fun l h => by
  rw [List.find?_eq_none]
  intro b hb
  obtain ⟨a, ha, hb⟩ := List.mem_flatMap.1 hb
  exact List.find?_eq_none.1 (h a ha) b hb
theorem NoneTo.done {R : List RulD} {k : Nat} {bound : ByteArray} {m : Nat} {w : ByteArray} (h : NoneTo R k bound m w k) : firstF R k bound (m + 1) w = none := by
  unfold firstF
  refine find_flat _ _ _ fun x hx => ?_
  split
  · rename_i ho
    exact h x (List.mem_range.1 hx) ho
  · rfl
end Go.Proofs.YtgoeadgpbidgiaaGreat
namespace Go.Proofs.YtgoeadgpbidgiaaGreat
open Go.RowKit
set_option linter.unusedVariables false
theorem dec_ne (n : Nat) : Lib.decDigits n ≠ [] := by
  by_cases h : n < 10
  · rw [decDigits_small h]; simp
  · rw [decDigits_big (by omega)]; simp
theorem dig_inj {a b : Nat} (ha : a < 10) (hb : b < 10) (h : UInt8.ofNat (48 + a) = UInt8.ofNat (48 + b)) : a = b := by
  have h1 := congrArg UInt8.toNat h
  simp at h1
  omega
theorem dec_inj : ∀ (n m : Nat), Lib.decDigits n = Lib.decDigits m → n = m := by
  intro n
  induction n using Nat.strongRecOn with
  | ind n ih =>
    intro m h
    by_cases h1 : n < 10
    · by_cases h2 : m < 10
      · rw [decDigits_small h1, decDigits_small h2] at h
        exact dig_inj h1 h2 (by simpa using h)
      · rw [decDigits_small h1, decDigits_big (k := m) (by omega)] at h
        have h3 := congrArg List.length h
        have h4 : 0 < (Lib.decDigits (m / 10)).length := List.length_pos_iff.2 (dec_ne _)
        simp only [List.length_append, List.length_cons, List.length_nil] at h3
        omega
    · by_cases h2 : m < 10
      · rw [decDigits_small h2, decDigits_big (k := n) (by omega)] at h
        have h3 := congrArg List.length h
        have h4 : 0 < (Lib.decDigits (n / 10)).length := List.length_pos_iff.2 (dec_ne _)
        simp only [List.length_append, List.length_cons, List.length_nil] at h3
        omega
      · rw [decDigits_big (k := n) (by omega), decDigits_big (k := m) (by omega)] at h
        obtain ⟨h3, h4⟩ := List.append_inj' h rfl
        have h5 := ih (n / 10) (by omega) (m / 10) h3
        have h6 := dig_inj (Nat.mod_lt n (by omega)) (Nat.mod_lt m (by omega)) (by simpa using h4)
        omega
theorem numB_inj {n m : Nat} (h : numB (n : Int) = numB (m : Int)) : n = m := by
  apply dec_inj
  have h1 := congrArg (fun z : ByteArray => z.data.toList) h
  simp only [numB] at h1
  rw [itoa_nat, itoa_nat] at h1
  simpa using h1
end Go.Proofs.YtgoeadgpbidgiaaGreat
namespace Go.Proofs.YtgoeadgpbidgiaaGreat
open Go.RowKit Go.Maps
set_option linter.unusedVariables false
theorem keyed2 : Keyed Tryz.prog 181 := Keyed.of_law (deep_law_laid (m := 5) (by kernel_rfl) (by omega) (of_decide_eq_true (by kernel_rfl)) (by kernel_rfl) (by kernel_rfl))
/-- the key of two strings -/
def kl2 (a b : ByteArray) : Lit := .string (keyBytes [.string a.data.toList, .string b.data.toList])
theorem keyOf2 (a b : ByteArray) (ha : a.size ≤ maxLen) (hb : b.size ≤ maxLen) : keyOf Tryz.prog 181 (.agg #[.string a, .string b]) = some (kl2 a b) := by
  have h1 : Tryz.prog.cellsOf 181 = 2 := by kernel_rfl
  have h2 : Tryz.prog.cellsOf 9 = 1 := by kernel_rfl
  have h3 : 0 < Tryz.prog.types.size := of_decide_eq_true (by kernel_rfl)
  have h4 : Tryz.prog.keyType 181 = true := by kernel_rfl
  have h5 : (Value.agg #[.string a, .string b]).formed Tryz.prog 181 = true := by
    simp [Value.formed, Tryz.underlying181, h1]
  obtain ⟨d, hd⟩ : ∃ d, Tryz.prog.types.size = d + 1 := ⟨Tryz.prog.types.size - 1, by omega⟩
  unfold keyOf
  simp only [Tryz.underlying181]
  have hk : ∀ d, Tryz.prog.keyLits (d + 1 + 1) 181 [.string a, .string b] = some [.string a.data.toList, .string b.data.toList] := fun d => by
    simp [Program.keyLits, Tryz.underlying181, Tryz.underlying9, h1, h2, ha, hb, List.range_succ]
  rw [h4, h5, hd]
  simp only [Bool.and_self, if_true]
  rw [show (Value.agg #[Value.string a, .string b]).cells.toList = [.string a, .string b] by simp [Value.cells], hk]
  rfl
theorem kl2_inj {a b a' b' : ByteArray} (h1 : a.size ≤ maxLen) (h2 : b.size ≤ maxLen) (h3 : a'.size ≤ maxLen) (h4 : b'.size ≤ maxLen) (h : kl2 a b = kl2 a' b') : a = a' ∧ b = b' := by
  have e := keyed2.inj (keyOf2 a b h1 h2) (by rw [h]; exact keyOf2 a' b' h3 h4)
  simpa using e
end Go.Proofs.YtgoeadgpbidgiaaGreat
namespace Go.Proofs.YtgoeadgpbidgiaaGreat
open Go.RowKit Go.Maps
set_option linter.unusedVariables false
/-- the map of dead ends -/
abbrev OwnD (w : World) (b m : Nat) (D : DataW Unit) : Prop := w.ownsMap Tryz.prog 181 (plainElem (H := Unit) Tryz.prog 4) b m D
end Go.Proofs.YtgoeadgpbidgiaaGreat
namespace Go.Proofs.YtgoeadgpbidgiaaGreat
open Go.RowKit Go.Maps Go.WideShapes
set_option linter.unusedVariables false
/-- no reduced word goes on from there -/
def DEnt (R : List RulD) (k : Nat) (p : Lit × DataW Unit) : Prop := ∃ (e : ByteArray) (m : Nat), EndP k e ∧ m ≤ 300 ∧ p = (kl2 e (numB (m : Int)), .lit (.bool true)) ∧ paths R k m e = 0
def DMap (R : List RulD) (k : Nat) (D : DataW Unit) : Prop := ∃ es, D = .map es ∧ es.Pairwise (fun p q => p.1 ≠ q.1) ∧ ∀ p ∈ es, DEnt R k p
theorem DMap.start (R : List RulD) (k : Nat) : DMap R k (.map []) := ⟨[], rfl, List.Pairwise.nil, fun p hp => by cases hp⟩
theorem DMap.put {R : List RulD} {k : Nat} {D : DataW Unit} (h : DMap R k D) {e : ByteArray} {m : Nat} (he : EndP k e) (hm : m ≤ 300) (hp : paths R k m e = 0) : DMap R k (D.put (kl2 e (numB (m : Int))) (.lit (.bool true))) := by
  obtain ⟨es, rfl, h0, h1⟩ := h
  refine ⟨_, rfl, ?_, fun p hpm => ?_⟩
  · refine (insert_perm _ _).symm.pairwise ?_ (fun hab e => hab e.symm)
    rw [List.pairwise_cons]
    refine ⟨fun q hq e1 => ?_, h0.filter _⟩
    have h2 := (List.mem_filter.1 hq).2
    have h3 : q.1 = kl2 e (numB (m : Int)) := e1.symm
    rw [h3] at h2
    have h4 : (kl2 e (numB (m : Int))).sameKey (kl2 e (numB (m : Int))) = true := by unfold kl2 Lit.sameKey; simp
    rw [h4] at h2
    cases h2
  · rcases List.mem_cons.1 ((insert_perm _ _).mem_iff.1 hpm) with rfl | h2
    · exact ⟨e, m, he, hm, rfl, hp⟩
    · exact h1 p (List.mem_filter.1 h2).1
theorem numB_size {m : Nat} (h : m ≤ 30000) : (numB (m : Int)).size ≤ maxLen := by
  have h1 := decDigits_len (n := m) (by omega)
  have h2 : (numB (m : Int)).size = (Lib.decDigits m).length := by
    show (Lib.itoa (m : Int)).toArray.size = _
    rw [itoa_nat]; simp
  rw [h2]; unfold maxLen; omega
theorem DMap.look {R : List RulD} {k : Nat} {D : DataW Unit} (h : DMap R k D) {e : ByteArray} {m : Nat} (he : EndP k e) (hm : m ≤ 300) : (paths R k m e = 0 ∧ ∀ zd, D.atKey (kl2 e (numB (m : Int))) zd = .lit (.bool true)) ∨ ∀ zd, D.atKey (kl2 e (numB (m : Int))) zd = zd := by
  obtain ⟨es, rfl, _, h1⟩ := h
  cases hf : es.find? (fun p => p.1.sameKey (kl2 e (numB (m : Int)))) with
  | none =>
    right
    intro zd
    unfold DataW.atKey
    simp only []
    rw [hf]
  | some p =>
    left
    have h2 := List.find?_some hf
    obtain ⟨e', m', he', hm', rfl, hp⟩ := h1 p (List.mem_of_find?_eq_some hf)
    have h3 := WideAt.sameKey_eq h2
    have h4 := kl2_inj (by have := he'.1; unfold maxLen; omega) (numB_size (by omega)) (by have := he.1; unfold maxLen; omega) (numB_size (by omega)) h3
    obtain ⟨rfl, h5⟩ := h4
    have h6 := numB_inj h5
    subst h6
    refine ⟨hp, fun zd => ?_⟩
    unfold DataW.atKey
    simp only []
    rw [hf]
theorem sum_constW (l : List Wd) (c : Nat) : (l.map fun _ => c).sum = l.length * c := by
  induction l with
  | nil => simp
  | cons a l ih => simp only [List.map_cons, List.sum_cons, ih, List.length_cons, Nat.add_mul]; omega
open Classical in
theorem DMap.few {R : List RulD} {k : Nat} (hk : k ≤ 4) {D : DataW Unit} (h : DMap R k D) : Maps.size D ≤ 6575345 := by
  obtain ⟨es, rfl, h0, h1⟩ := h
  let T := (allUp k 7).flatMap fun v => (List.range 301).map fun m => (v, m)
  have hT : T.length = (allUp k 7).length * 301 := by
    show ((allUp k 7).flatMap _).length = _
    rw [List.length_flatMap]
    simp only [List.length_map, List.length_range]
    exact sum_constW _ _
  let g : Lit × DataW Unit → Wd × Nat := fun p => if h : DEnt R k p then ((Classical.choose h).data.toList, Classical.choose (Classical.choose_spec h)) else ([], 0)
  have hg : ∀ p ∈ es, ∃ (e : ByteArray) (m : Nat), EndP k e ∧ m ≤ 300 ∧ p.1 = kl2 e (numB (m : Int)) ∧ g p = (e.data.toList, m) := fun p hp => by
    have h2 := h1 p hp
    obtain ⟨h3, h4, h5, _⟩ := Classical.choose_spec (Classical.choose_spec h2)
    exact ⟨Classical.choose h2, Classical.choose (Classical.choose_spec h2), h3, h4, congrArg Prod.fst h5, by simp only [g, dif_pos h2]⟩
  have h2 := nodup_len (l := es.map g) (m := T) (by
    unfold List.Nodup
    rw [List.pairwise_map]
    refine h0.imp_of_mem fun {a b} ha hb hab e => hab ?_
    obtain ⟨e1, m1, _, _, a3, a4⟩ := hg a ha
    obtain ⟨e2, m2, _, _, b3, b4⟩ := hg b hb
    rw [a4, b4] at e
    simp only [Prod.mk.injEq] at e
    rw [a3, b3, ba_ext0 e.1, e.2]) (fun x hx => by
    obtain ⟨p, hp, rfl⟩ := List.mem_map.1 hx
    obtain ⟨e, m, c1, c2, _, c4⟩ := hg p hp
    rw [c4]
    exact List.mem_flatMap.2 ⟨e.data.toList, allUp_has c1.1 c1.2, List.mem_map.2 ⟨m, List.mem_range.2 (by omega), rfl⟩⟩)
  have h3 := allUp_len hk 7
  have h4 : (4 : Nat) ^ (7 + 1) = 65536 := by decide
  rw [List.length_map, hT] at h2
  rw [Maps.size_eq]
  omega
end Go.Proofs.YtgoeadgpbidgiaaGreat
namespace Go.Proofs.YtgoeadgpbidgiaaGreat
open Go.RowKit Go.Maps
set_option linter.unusedVariables false
theorem plainB_inv {P : Program} {e : TypeId} (he : P.underlying e = some .bool) {v : Value} {d : DataW Unit} {ps : List MemPlace} (h : plainElem (H := Unit) P e v = some (d, ps)) : ∃ c, v = .bool c ∧ d = .lit (.bool c) := by
  unfold plainElem at h
  rw [he] at h
  cases v <;> simp at h
  exact ⟨_, rfl, h.1.symm⟩
theorem plainBool_inv {v : Value} {d : DataW Unit} {ps : List MemPlace} (h : plainElem (H := Unit) Tryz.prog 4 v = some (d, ps)) : ∃ c, v = .bool c ∧ d = .lit (.bool c) := plainB_inv Tryz.underlying4 h
theorem ownD_tight {w : World} {b m : Nat} {D : DataW Unit} (h : OwnD w b m D) : OwnD w b (Maps.size D) D := by
  obtain ⟨es, clock, h1, h2, h3, rfl⟩ := h
  exact ⟨es, clock, h1, h2, by rw [Maps.size_eq, length_sorted, List.length_map, Array.length_toList]; exact Nat.le_refl _, rfl⟩
/-- the map of dead ends -/
def DeadAt (R : List RulD) (k b : Nat) (W : World) : Prop := ∃ m D, OwnD W b m D ∧ DMap R k D
theorem DeadAt.kept {R : List RulD} {k b : Nat} {W W' : World} (h : DeadAt R k b W) (hg : W.grownBy W' none) : DeadAt R k b W' := by
  obtain ⟨m, D, h1, h2⟩ := h
  exact ⟨m, D, h1.kept hg (by simp), h2⟩
/-- a dead end more -/
theorem DeadAt.store {R : List RulD} {k b : Nat} {W : World} (h : DeadAt R k b W) {e : ByteArray} {d : Nat} (he : EndP k e) (hd : d ≤ 300) (hp : paths R k d e = 0) (hk : k ≤ 4) (hkey : keyOf Tryz.prog 181 (.agg #[.string e, .string (numB (d : Int))]) = some (kl2 e (numB (d : Int)))) :
    ∃ w', (Instr.mapUpdate 123 (.map (some b)) (.agg #[.string e, .string (numB (d : Int))]) (.bool true)).run Tryz.prog W.drew = .ok () w' ∧ DeadAt R k b w' ∧ W.grownBy w' (some b) := by
  obtain ⟨m, D, h1, h2⟩ := h
  have hs : Maps.size D < maxLen := by have := h2.few hk; unfold maxLen; omega
  have h3 : OwnD W.drew b (Maps.size D) D := ownD_tight h1
  obtain ⟨w', r1, r2, r3⟩ := World.ownsMap.update h3 keyed2 Tryz.underlying123 hs hkey (plainElem_bool (H := Unit) Tryz.underlying4 true)
  exact ⟨w', r1, ⟨_, _, r2, h2.put he hd hp⟩, ⟨r3.os, r3.tape, r3.output, r3.size, r3.block⟩⟩
/-- the box of a key -/
def BoxK (W0 : World) (q : Nat) (x y : ByteArray) (W : World) : Prop := W0.heap.size ≤ q ∧ W.heap[q]? = some (.cells #[.string x, .string y] 181 (0, 0))
/-- the letters of a word -/
def LetW (k : Nat) (e : ByteArray) : Prop := ∀ y ∈ e.data.toList, ∃ x, x < k ∧ y = lt97 x
theorem LetW.on {k : Nat} {e : ByteArray} (h : LetW k e) {x : Nat} (hx : x < k) : LetW k (e ++ letterN x) := fun y hy => by
  rw [app_lt] at hy
  rcases List.mem_append.1 hy with h1 | h1
  · exact h y h1
  · exact ⟨x, hx, by simpa using h1⟩
/-- the key of w0 lies there still -/
theorem BoxK.kept {W0 W W' : World} {q b : Nat} {x y : ByteArray} (h : BoxK W0 q x y W) (hb : b < W0.heap.size) (hg : W.grownBy W' (some b)) : BoxK W0 q x y W' :=
  ⟨h.1, by rw [hg.block q (Array.getElem?_eq_some_iff.1 h.2).1 (fun e => by have := h.1; have := Option.some.inj e; omega)]; exact h.2⟩
end Go.Proofs.YtgoeadgpbidgiaaGreat
namespace Go.Proofs.YtgoeadgpbidgiaaGreat
open Go.RowKit Go.Maps
set_option linter.unusedVariables false
theorem DeadAt.lt {R : List RulD} {k b : Nat} {W : World} (h : DeadAt R k b W) : b < W.heap.size := by obtain ⟨_, _, h1, _⟩ := h; exact h1.lt
end Go.Proofs.YtgoeadgpbidgiaaGreat
namespace Go.Proofs.YtgoeadgpbidgiaaGreat
open Go.RowKit Go.Maps
set_option linter.unusedVariables false
end Go.Proofs.YtgoeadgpbidgiaaGreat
