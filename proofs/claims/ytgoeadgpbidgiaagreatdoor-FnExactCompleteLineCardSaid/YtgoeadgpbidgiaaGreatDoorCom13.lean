/-
  The steps of a system as rewriting of words; a complete system has one normal form for each word.
-/
import Derived.Test.YtgoeadgpbidgiaaGreatDoorCom12
import Derived.Test.YtgoeadgpbidgiaaGreatDoorCom10
namespace Go.Proofs.YtgoeadgpbidgiaaGreatDoor
open Go.RowKit
set_option linter.unusedVariables false
theorem cells_one {l : List PairD} : ∀ u ∈ cellsL prV l, u.oneCell' = true := fun u hu => by
  unfold cellsL at hu
  obtain ⟨p, _, hp⟩ := List.mem_flatMap.1 hu
  simp only [prV, List.mem_cons, List.not_mem_nil, or_false] at hp
  rcases hp with rfl | rfl | rfl | rfl | rfl <;> rfl
theorem cells_five (l : List PairD) : (cellsL prV l).length = l.length * 5 := cellsL_len prV_len l
theorem szR_of {k : Int} {R : List RulD} (hs : sysP k R) : SzR R := fun j hj => by have := (hs.1.2 _ (nthR_mem hj)).1.2; unfold maxLen; omega
set_option maxRecDepth 100000 in
set_option maxHeartbeats 2000000 in
theorem specPairsOf_any (k : Int) (R : List RulD) (a : Option Addr) (cap : Nat) (w : World) (hl : RulesIn w a R) (hs : sysP k R) :
    Calls Tryz.prog 143 #[.agg #[.int .i64 k, .slice a R.length cap]] w (RetSl 122 5 (pairsF R).length (cellsL prV (pairsF R)) w) := by
  have h12 : R.length ≤ 12 := hs.1.1.2
  have h8 := left8 hs
  have HL := Lib.hid hl
  have HSO := Lib.hid (fun W h => specSystemOk_any k R a cap W h (by omega) (szR_of hs))
  have HYES := Lib.hid hs
  have HA := Lib.hid (fun o => alloc_belowS w o)
  have HBX : Hid (∀ W2, Below (w.alloc (.cells #[.int .i64 k, .slice a R.length cap] 33)).heap.size (w.alloc (.cells #[.int .i64 k, .slice a R.length cap] 33)) W2 → W2.cell? ⟨w.heap.size, 0, none⟩ = some (.int .i64 k) ∧ W2.cell? ⟨w.heap.size, 1, none⟩ = some (.slice a R.length cap)) := Lib.hid (fun W2 h => box_two h)
  have hpos : ∀ r, r < R.length → 0 < (nthR R r).1.size := fun r hr => by have := (hs.1.2 _ (nthR_mem hr)).2; omega
  have HIN := Lib.hid (fun i j W h hi hj => l05Inside_any k R a cap i j W h hi hj h8 hpos h12)
  have HAC := Lib.hid (fun i j W h hi hj => l05Across_any k R a cap i j W h hi hj h8 h12)
  have HLN := Lib.hid (fun i j (hi : i ≤ 12) (hj : j ≤ 12) => pairTo_len h8 h12 (i := i) (j := j) hi hj)
  have HL1' := Lib.hid (fun i j => inF_len h8 i j)
  have HL2' := Lib.hid (fun i j => acF_len h8 i j)
  clear hl hs h8 hpos
  go_enter Tryz.func143, Tryz.ntmps143
  go_wp2_with fail
  refine (HSO.out _ (HL.out.later (HA.out _))).mono ?_
  rintro e w1 ⟨bb, hbb, rfl, hb1⟩
  obtain rfl := hbb.2 HYES.out
  have HW1 := Lib.hid (Below.now (HA.out _) hb1)
  have HBX1 : Hid (∀ W2, Below w1.heap.size w1 W2 → W2.cell? ⟨w.heap.size, 0, none⟩ = some (.int .i64 k) ∧ W2.cell? ⟨w.heap.size, 1, none⟩ = some (.slice a R.length cap)) := Lib.hid (fun W2 hW2 => HBX.out W2 (Below.now hb1 hW2))
  have HL1 := Lib.hid (HL.out.later (Below.now (HA.out _) hb1))
  have HB0 : Hid (Bld 122 5 w1 (w1.alloc (.cells #[] 122)) (.slice (some ⟨w1.heap.size, 0, none⟩) 0 0) (pairTo R 0 0).length (cellsL prV (pairTo R 0 0))) := Lib.hid (Bld.empty 122 5 w1)
  have s0 := fun o => (HBX1.out _ (alloc_belowS w1 o)).1
  have s1 := fun o => (HBX1.out _ (alloc_belowS w1 o)).2
  clear hbb hb1 HSO HBX
  go_wp2_with fail
  go_loopw [3, 13] (fun vo vi wr => ∃ i : Nat, i ≤ R.length ∧ vi = .int .i64 (i : Nat) ∧ Bld 122 5 w1 wr vo (pairTo R i 0).length (cellsL prV (pairTo R i 0))) (fun _ vi _ => R.length - (intOf vi).toNat)
  case atStart => exact ⟨0, Nat.zero_le _, rfl, HB0.out⟩
  case round =>
    clear HB0 s0 s1
    obtain ⟨i, hi, rfl, hbd⟩ := hrel
    obtain ⟨ao, co, rfl⟩ := owns_form hbd.1
    have HB := Lib.hid hbd
    obtain ⟨s0, s1⟩ := HBX1.out wr hbd.2
    clear hbd
    by_cases hlt : i < R.length
    · have HXT := Lib.hid (pairTo_next R i)
      go_wp2_with fail
      generalize hW : wr = wr0 at *
      clear hW s0 s1
      go_loopw [3, 19] (fun vo vj wr => ∃ j : Nat, j ≤ R.length ∧ vj = .int .i64 (j : Nat) ∧ Bld 122 5 w1 wr vo (pairTo R i j).length (cellsL prV (pairTo R i j))) (fun _ vj _ => R.length - (intOf vj).toNat)
      case atStart => exact ⟨0, Nat.zero_le _, rfl, HB.out⟩
      case round =>
        clear HB
        obtain ⟨j, hj, rfl, hbd⟩ := hrel
        obtain ⟨a2, c2, rfl⟩ := owns_form hbd.1
        have HB := Lib.hid hbd
        obtain ⟨s0, s1⟩ := HBX1.out wr hbd.2
        have hln := HLN.out i j (by omega) (by omega)
        by_cases hlr : j < R.length
        · have hl1 := HL1'.out i j
          have hl2 := HL2'.out i j
          have HC1 := Lib.hid (HIN.out i j wr (HL1.out.later hbd.2) hlt hlr)
          have HC2 := Lib.hid (fun W h => HAC.out i j W h hlt hlr)
          have HNX := Lib.hid (pairTo_step R i j)
          clear hbd
          generalize pairTo R i j = X at *
          generalize inF R i j = Y at *
          generalize acF R i j = Z at *
          go_wp2_with fail
          refine HC1.out.mono ?_
          rintro e w6 ⟨a6, c6, rfl, ho6, hb6⟩
          have HB6 := Lib.hid (HB.out.later hb6)
          have HS6 := Lib.hid (Src.of_owns ho6)
          have HN6 := Lib.hid (cells_five Y)
          have HO6 := Lib.hid (cells_one (l := Y))
          clear ho6 hb6 s0 s1
          go_wp2_with (at_builtin; refine wpList_appM rfl (.tmp 22) (.tmp 26) rfl Tryz.underlying77 Tryz.infoPair rfl (by decide) rfl HB6.out rfl HS6.out HN6.out HO6.out ?a1 ?a2 ?a3)
          case a1 => unfold maxLen; omega
          case a2 => omega
          intro v7 w7 hb7 hg7 ho7
          have HB7 : Hid (Bld 122 5 w1 w7 v7 (X ++ Y).length (cellsL prV (X ++ Y))) := Lib.hid (by
            rw [List.length_append, cellsL_app]; exact hb7)
          obtain ⟨a7, c7, hv7⟩ := owns_form HB7.out.1
          subst hv7
          have hlx : (X ++ Y).length ≤ 2504 := by rw [List.length_append]; omega
          obtain ⟨t0, t1⟩ := HBX1.out w7 HB7.out.2
          have HC3 := Lib.hid (HC2.out w7 (HL1.out.later HB7.out.2))
          clear hb7 hg7 ho7
          have HNY : Hid (pairTo R i (j + 1) = (X ++ Y) ++ Z) := Lib.hid (by rw [HNX.out, List.append_assoc])
          generalize X ++ Y = X2 at *
          go_wp2_with fail
          refine HC3.out.mono ?_
          rintro e w8 ⟨a8, c8, rfl, ho8, hb8⟩
          have HB8 := Lib.hid (HB7.out.later hb8)
          have HS8 := Lib.hid (Src.of_owns ho8)
          have HN8 := Lib.hid (cells_five Z)
          have HO8 := Lib.hid (cells_one (l := Z))
          clear ho8 hb8 t0 t1
          go_wp2_with (at_builtin; refine wpList_appM rfl (.tmp 28) (.tmp 32) rfl Tryz.underlying77 Tryz.infoPair rfl (by decide) rfl HB8.out rfl HS8.out HN8.out HO8.out ?b1 ?b2 ?b3)
          case b1 => unfold maxLen; omega
          case b2 => omega
          intro v9 w9 hb9 hg9 ho9
          have HB9 : Hid (Bld 122 5 w1 w9 v9 (pairTo R i (j + 1)).length (cellsL prV (pairTo R i (j + 1)))) := Lib.hid (by
            rw [HNY.out, List.length_append, cellsL_app]; exact hb9)
          obtain ⟨a9, c9, hv9⟩ := owns_form HB9.out.1
          subst hv9
          clear hb9 hg9 ho9
          go_wp2_with fail
          go_roundw
          case rel => exact ⟨j + 1, by omega, by go_num, HB9.out⟩
          case measure => simp [intOf]; omega
        · obtain rfl : j = R.length := by omega
          have HB2 : Hid (Bld 122 5 w1 wr (.slice a2 (pairTo R i R.length).length c2) (pairTo R (i + 1) 0).length (cellsL prV (pairTo R (i + 1) 0))) := Lib.hid (by rw [← HXT.out]; exact HB.out)
          clear hbd
          go_wp2_with fail
          go_roundw
          case rel => exact ⟨i + 1, by omega, by go_num, HB2.out⟩
          case measure => simp [intOf]; omega
    · obtain rfl : i = R.length := by omega
      have F : Hid (RetSl 122 5 (pairsF R).length (cellsL prV (pairsF R)) w (.returned (.slice ao (pairTo R R.length 0).length co)) wr) := Lib.hid (by
        rw [pairTo_done] at HB ⊢
        exact ((HB.out.since HW1.out).ret))
      go_wp2_with fail
      go_ret
      exact F.out
end Go.Proofs.YtgoeadgpbidgiaaGreatDoor
namespace Go.Proofs.YtgoeadgpbidgiaaGreatDoor
open Go.RowKit
set_option linter.unusedVariables false
/-- the value of a pair -/
def pairVal (p : PairD) : Value := .agg #[.string p.1, .int .i64 (p.2.1 : Nat), .int .i64 0, .int .i64 (p.2.2.1 : Nat), .int .i64 (p.2.2.2 : Nat)]
/-- the object of a pair -/
def pairObj (p : PairD) : Obj := .cells #[.string p.1, .int .i64 (p.2.1 : Nat), .int .i64 0, .int .i64 (p.2.2.1 : Nat), .int .i64 (p.2.2.2 : Nat)] 122
/-- its cells -/
def PairAt (W : World) (g : Nat) (p : PairD) : Prop := W.cell? ⟨g, 0, none⟩ = some (.string p.1) ∧ W.cell? ⟨g, 1, none⟩ = some (.int .i64 (p.2.1 : Nat)) ∧ W.cell? ⟨g, 2, none⟩ = some (.int .i64 0) ∧ W.cell? ⟨g, 3, none⟩ = some (.int .i64 (p.2.2.1 : Nat)) ∧ W.cell? ⟨g, 4, none⟩ = some (.int .i64 (p.2.2.2 : Nat))
theorem pairAt_box {W W2 : World} {p : PairD} (hb : Below (W.alloc (pairObj p)).heap.size (W.alloc (pairObj p)) W2) : PairAt W2 W.heap.size p := by
  have h := (hb.block W.heap.size (by simp)).trans (alloc_at W _)
  unfold pairObj at h
  refine ⟨?_, ?_, ?_, ?_, ?_⟩ <;> simp [World.cell?, h]
set_option maxRecDepth 100000 in
set_option maxHeartbeats 2000000 in
theorem specSidesOf_any (k : Int) (R : List RulD) (a : Option Addr) (cap : Nat) (p : PairD) (w : World) (hl : RulesIn w a R) (hs : sysP k R) (hp : PairOk R k p) :
    Calls Tryz.prog 177 #[.agg #[.int .i64 k, .slice a R.length cap], pairVal p] w fun e w' => e = .returned (.tuple #[.string (leftP R p), .string (rightP R p), .bool true]) ∧ Below w.heap.size w w' := by
  have HL := Lib.hid hl
  have HSO := Lib.hid (fun W h => specSystemOk_any k R a cap W h (by have := hs.1.1.2; omega) (szR_of hs))
  have HYES := Lib.hid hs
  have H1 := Lib.hid (fun W h => specApplyStep_any k R a cap p.1 p.2.1 0 W h hs (wdP_of hp.word).len hp.one)
  have H2 := Lib.hid (fun W h => specApplyStep_any k R a cap p.1 p.2.2.1 p.2.2.2 W h hs (wdP_of hp.word).len hp.two)
  have HLP : Hid (applyF R p.1 (p.2.1, 0) = leftP R p) := Lib.hid rfl
  have HRP : Hid (applyF R p.1 (p.2.2.1, p.2.2.2) = rightP R p) := Lib.hid rfl
  rw [HLP.out] at H1
  rw [HRP.out] at H2
  have HPO : Hid (Obj.cells #[.string p.1, .int .i64 (p.2.1 : Nat), .int .i64 0, .int .i64 (p.2.2.1 : Nat), .int .i64 (p.2.2.2 : Nat)] 122 = pairObj p) := Lib.hid rfl
  clear hl hs hp HLP HRP
  unfold pairVal
  generalize leftP R p = lp at *
  generalize rightP R p = rp at *
  have e1 : (w.alloc (.cells #[.int .i64 k, .slice a R.length cap] 33)).heap.size = w.heap.size + 1 := by simp
  have hbb := alloc_belowS (w.alloc (.cells #[.int .i64 k, .slice a R.length cap] 33)) (pairObj p)
  have HB0 := Lib.hid (Below.now (alloc_belowS w (.cells #[.int .i64 k, .slice a R.length cap] 33)) hbb)
  have HBX := Lib.hid (fun W2 (h : Below ((w.alloc (.cells #[.int .i64 k, .slice a R.length cap] 33)).alloc (pairObj p)).heap.size ((w.alloc (.cells #[.int .i64 k, .slice a R.length cap] 33)).alloc (pairObj p)) W2) => And.intro (box_two (Below.now hbb h)) (pairAt_box h))
  rw [e1] at HBX
  unfold PairAt at HBX
  clear hbb e1
  go_enter Tryz.func177, Tryz.ntmps177
  go_wp2_with fail
  rw [HPO.out]
  generalize (w.alloc (.cells #[.int .i64 k, .slice a R.length cap] 33)).alloc (pairObj p) = w1 at *
  refine (HSO.out _ (HL.out.later HB0.out)).mono ?_
  rintro e w2 ⟨bb, hbb, rfl, hb2⟩
  obtain rfl := hbb.2 HYES.out
  have HW2 := Lib.hid (Below.now HB0.out hb2)
  have HB2 := Lib.hid hb2
  obtain ⟨⟨s0, s1⟩, q0, q1, q2, q3, q4⟩ := HBX.out w2 hb2
  clear hbb hb2 HSO HPO
  obtain ⟨u, x, y, z⟩ := p
  go_wp2_with fail
  refine (H1.out _ (HL.out.later HW2.out)).mono ?_
  rintro e w3 ⟨rfl, hb3⟩
  have HW3 := Lib.hid (Below.now HW2.out hb3)
  have HB3 := Lib.hid (Below.now HB2.out hb3)
  obtain ⟨⟨t0, t1⟩, p0, p1, p2, p3, p4⟩ := HBX.out w3 HB3.out
  clear hb3 s0 s1 q0 q1 q2 q3 q4
  go_wp2_with fail
  refine (H2.out _ (HL.out.later HW3.out)).mono ?_
  rintro e w4 ⟨rfl, hb4⟩
  have HW4 := Lib.hid (Below.now HW3.out hb4)
  have F : Hid (∀ W, Below w.heap.size w W → Ending.returned (.tuple #[.string lp, .string rp, .bool true]) = .returned (.tuple #[.string lp, .string rp, .bool true]) ∧ Below w.heap.size w W) := Lib.hid (fun W h => ⟨rfl, h⟩)
  clear hb4 t0 t1 p0 p1 p2 p3 p4
  go_wp2_with fail
  refine bodyPost_ret (v := .tuple #[.string lp, .string rp, .bool true]) ?_ rfl ⟨rfl, HW4.out⟩
  simp [results, Tryz.results177, go_sem]
theorem joined_iff {R : List RulD} {p : PairD} {x y : ByteArray} (hx : NormIs R (leftP R p) x) (hy : NormIs R (rightP R p) y) : Joined R p ↔ x = y :=
  ⟨fun ⟨z, h1, h2⟩ => (hx.uniq h1).trans (h2.uniq hy), fun e => ⟨x, hx, e ▸ hy⟩⟩
theorem left_word {k : Int} {R : List RulD} (hs : sysP k R) {p : PairD} (hp : PairOk R k p) : wordOkB k (leftP R p) = true := step_word hs hp.word hp.one
theorem right_word {k : Int} {R : List RulD} (hs : sysP k R) {p : PairD} (hp : PairOk R k p) : wordOkB k (rightP R p) = true := step_word hs hp.word hp.two
set_option maxRecDepth 100000 in
set_option maxHeartbeats 2000000 in
theorem specIsJoined_any (k : Int) (R : List RulD) (a : Option Addr) (cap : Nat) (p : PairD) (w : World) (hl : RulesIn w a R) (hs : sysP k R) (hp : PairOk R k p) :
    Calls Tryz.prog 144 #[.agg #[.int .i64 k, .slice a R.length cap], pairVal p] w (RetP (Joined R p) w) := by
  have HL := Lib.hid hl
  have HSD := Lib.hid (fun W h => specSidesOf_any k R a cap p W h hs hp)
  have HN1 := Lib.hid (fun W h => specNormalForm_ok k R a cap (leftP R p) W h hs (left_word hs hp))
  have HN2 := Lib.hid (fun W h => specNormalForm_ok k R a cap (rightP R p) W h hs (right_word hs hp))
  have HJ := Lib.hid (fun x y h1 h2 => joined_iff (R := R) (p := p) (x := x) (y := y) h1 h2)
  have HPO : Hid (Obj.cells #[.string p.1, .int .i64 (p.2.1 : Nat), .int .i64 0, .int .i64 (p.2.2.1 : Nat), .int .i64 (p.2.2.2 : Nat)] 122 = pairObj p) := Lib.hid rfl
  clear hl hs hp
  unfold pairVal at HSD
  unfold pairVal
  generalize leftP R p = lp at *
  generalize rightP R p = rp at *
  have e1 : (w.alloc (.cells #[.int .i64 k, .slice a R.length cap] 33)).heap.size = w.heap.size + 1 := by simp
  have hbb := alloc_belowS (w.alloc (.cells #[.int .i64 k, .slice a R.length cap] 33)) (pairObj p)
  have HB0 := Lib.hid (Below.now (alloc_belowS w (.cells #[.int .i64 k, .slice a R.length cap] 33)) hbb)
  have HBX := Lib.hid (fun W2 (h : Below ((w.alloc (.cells #[.int .i64 k, .slice a R.length cap] 33)).alloc (pairObj p)).heap.size ((w.alloc (.cells #[.int .i64 k, .slice a R.length cap] 33)).alloc (pairObj p)) W2) => (box_two (Below.now hbb h)))
  clear hbb e1
  go_enter Tryz.func144, Tryz.ntmps144
  go_wp2_with fail
  rw [HPO.out]
  generalize (w.alloc (.cells #[.int .i64 k, .slice a R.length cap] 33)).alloc (pairObj p) = w1 at *
  refine (HSD.out _ (HL.out.later HB0.out)).mono ?_
  rintro e w2 ⟨rfl, hb2⟩
  have HB2 := Lib.hid hb2
  obtain ⟨s0, s1⟩ := HBX.out w2 hb2
  clear hb2 HSD HPO
  go_wp2_with fail
  refine (HN1.out _ (HL.out.later (Below.now HB0.out HB2.out))).mono ?_
  rintro e w3 ⟨x, hx, rfl, hb3⟩
  have HX := Lib.hid hx
  have HB3 := Lib.hid (Below.now HB2.out hb3)
  obtain ⟨t0, t1⟩ := HBX.out w3 HB3.out
  clear hb3 hx s0 s1
  go_wp2_with fail
  refine (HN2.out _ (HL.out.later (Below.now HB0.out HB3.out))).mono ?_
  rintro e w4 ⟨y, hy, rfl, hb4⟩
  have F : Hid (RetP (Joined R p) w (.returned (.bool (x.toList == y.toList))) w4) := Lib.hid ⟨_, ⟨fun h => (HJ.out x y HX.out hy).2 (bytes_eq.1 h), fun h => bytes_eq.2 ((HJ.out x y HX.out hy).1 h)⟩, rfl, Below.now HB0.out (Below.now HB3.out hb4)⟩
  clear hb4 hy t0 t1
  go_wp2_with fail
  go_ret
  exact F.out
theorem openL_take {R : List RulD} {S : List PairD} {q : Nat} (h : q < S.length) : openL R (S.take (q + 1)) = openL R (S.take q) ++ openL R [S[q]] := by
  rw [List.take_succ_eq_append_getElem h, openL_app]
theorem openL_len (R : List RulD) (l : List PairD) : (openL R l).length ≤ l.length := by
  unfold openL
  exact List.length_filter_le _ _
set_option maxRecDepth 100000 in
set_option maxHeartbeats 2000000 in
theorem specOpenPairs_any (k : Int) (R : List RulD) (a : Option Addr) (cap : Nat) (w : World) (hl : RulesIn w a R) (hs : sysP k R) :
    Calls Tryz.prog 99 #[.agg #[.int .i64 k, .slice a R.length cap]] w (RetSl 122 5 (openF R).length (cellsL prV (openF R)) w) := by
  have HL := Lib.hid hl
  have HPF := Lib.hid (fun W h => specPairsOf_any k R a cap W h hs)
  have HIJ := Lib.hid (fun p W h (hm : p ∈ pairsF R) => specIsJoined_any k R a cap p W h hs (pairOk hs hm))
  have HSZ : (pairsF R).length ≤ 2496 := by
    have h := pairTo_len (left8 hs) hs.1.1.2 (i := R.length) (j := 0) hs.1.1.2 (by omega)
    rw [pairTo_done] at h
    exact h
  have HFE : Hid (openF R = openL R ((pairsF R).take (pairsF R).length)) := Lib.hid (by rw [List.take_length]; rfl)
  have hb1 := alloc_belowS w (.cells #[.int .i64 k, .slice a R.length cap] 33)
  have HBX := Lib.hid (fun W2 (h : Below (w.alloc (.cells #[.int .i64 k, .slice a R.length cap] 33)).heap.size (w.alloc (.cells #[.int .i64 k, .slice a R.length cap] 33)) W2) => box_two h)
  have HW1 := Lib.hid hb1
  clear hl hs
  go_enter Tryz.func99, Tryz.ntmps99
  have s0 := fun o => (HBX.out _ (alloc_belowS _ o)).1
  have s1 := fun o => (HBX.out _ (alloc_belowS _ o)).2
  go_wp2_with fail
  have HB0 : Hid (Bld 122 5 (w.alloc (.cells #[.int .i64 k, .slice a R.length cap] 33)) ((w.alloc (.cells #[.int .i64 k, .slice a R.length cap] 33)).alloc (.cells #[] 122)) (.slice (some ⟨(w.alloc (.cells #[.int .i64 k, .slice a R.length cap] 33)).heap.size, 0, none⟩) 0 0) 0 (cellsL prV [])) := Lib.hid (Bld.empty 122 5 _)
  have e1 : (w.alloc (.cells #[.int .i64 k, .slice a R.length cap] 33)).heap.size = w.heap.size + 1 := by simp
  rw [e1] at HB0
  clear s0 s1
  generalize hW1 : w.alloc (.cells #[.int .i64 k, .slice a R.length cap] 33) = w1 at *
  have hb3 := alloc_belowS w1 (.cells #[] 122)
  obtain ⟨w2, hw2⟩ : ∃ w2, w2 = w1.alloc (.cells #[] 122) := ⟨_, rfl⟩
  rw [← hw2] at hb3 HB0 ⊢
  have HB3 := Lib.hid hb3
  have hs12 : w1.heap.size = w.heap.size + 1 := by rw [← hW1]; simp
  have hs22 : w2.heap.size = w1.heap.size + 1 := by rw [hw2]; simp
  clear hb1 hb3 hw2 e1 hW1
  have HMM : Hid (∀ q (h : q < (pairsF R).length), (pairsF R)[q] ∈ pairsF R) := Lib.hid (fun q h => List.getElem_mem h)
  refine (HPF.out _ (HL.out.later (Below.now HW1.out HB3.out))).mono ?_
  rintro e wc ⟨a2, c2, rfl, ho6, hbc⟩
  have hba : ∀ x, a2 = some x → w2.heap.size ≤ x.block ∧ x.block < wc.heap.size := fun x hx => ho6.lt x.block (by rw [hx]; rfl)
  have HI : Hid (RowsIn prV wc a2 (pairsF R)) := Lib.hid (owns_rows ho6)
  have HB1 : Hid (Bld 122 5 w1 wc (.slice (some ⟨w.heap.size + 1, 0, none⟩) 0 0) (openL R ((pairsF R).take 0)).length (cellsL prV (openL R ((pairsF R).take 0)))) := Lib.hid (HB0.out.later hbc)
  have HA1 : Hid (Away wc a2 (.slice (some ⟨w.heap.size + 1, 0, none⟩) 0 0)) := Lib.hid (fun x hx => by
    obtain ⟨h1, h2⟩ := hba x hx
    exact ⟨h2, fun e => by have e2 : x.block = w.heap.size + 1 := Option.some.inj e; omega⟩)
  have HIJ2 : Hid (∀ q (h : q < (pairsF R).length) W, RulesIn W a R → Calls Tryz.prog 144 #[.agg #[.int .i64 k, .slice a R.length cap], pairVal (pairsF R)[q]] W (RetP (Joined R (pairsF R)[q]) W)) := Lib.hid (fun q h W hW => HIJ.out _ W hW (HMM.out q h))
  clear hbc ho6 HB0 HPF hba HIJ HMM
  generalize pairsF R = S at *
  go_wp2_with fail
  go_loopw [3, 10] (fun vo vq wr => ∃ q : Nat, q ≤ S.length ∧ vq = .int .i64 (q : Nat) ∧ Bld 122 5 w1 wr vo (openL R (S.take q)).length (cellsL prV (openL R (S.take q))) ∧ Hid (RowsIn prV wr a2 S) ∧ Hid (Away wr a2 vo)) (fun _ vq _ => S.length - (intOf vq).toNat)
  case atStart => exact ⟨0, Nat.zero_le _, rfl, HB1.out, HI, HA1⟩
  case round =>
    clear HB1 HI HA1
    obtain ⟨q, hq, rfl, hbd, HI, HAW⟩ := hrel
    obtain ⟨ao, co, rfl⟩ := owns_form hbd.1
    have HB := Lib.hid hbd
    have hil := openL_len R (S.take q)
    have htl : (S.take q).length ≤ 2496 := by rw [List.length_take]; omega
    by_cases hlt : q < S.length
    · obtain ⟨b2, off2, rfl, hb2, hcs⟩ := RowsIn.cell prV_len (by omega) HI.out hlt
      have HNX := Lib.hid (openL_take (R := R) hlt)
      have HC := Lib.hid (HIJ2.out q hlt)
      have c0 : wr.cell? ⟨b2, off2 + q * 5, none⟩ = some (.string S[q].1) := hcs q hlt 0 _ rfl
      have c1 : wr.cell? ⟨b2, off2 + q * 5 + 1, none⟩ = some (.int .i64 (S[q].2.1 : Nat)) := hcs q hlt 1 _ rfl
      have c2 : wr.cell? ⟨b2, off2 + q * 5 + 2, none⟩ = some (.int .i64 0) := hcs q hlt 2 _ rfl
      have c3 : wr.cell? ⟨b2, off2 + q * 5 + 3, none⟩ = some (.int .i64 (S[q].2.2.1 : Nat)) := hcs q hlt 3 _ rfl
      have c4 : wr.cell? ⟨b2, off2 + q * 5 + 4, none⟩ = some (.int .i64 (S[q].2.2.2 : Nat)) := hcs q hlt 4 _ rfl
      have HLR := Lib.hid (fun o => HL.out.later (Below.now HW1.out (Below.now hbd.2 (alloc_belowS wr o))))
      have s0 := fun o => (HBX.out _ (Below.now hbd.2 (alloc_belowS wr o))).1
      have s1 := fun o => (HBX.out _ (Below.now hbd.2 (alloc_belowS wr o))).2
      unfold pairVal at HC
      clear hcs hbd
      generalize S[q] = p at *
      obtain ⟨u, x, y, z⟩ := p
      go_wp2_with fail
      refine (HC.out _ (HLR.out _)).mono ?_
      rintro e w5 ⟨bb, hbb, rfl, hb5⟩
      have HB5 := Lib.hid (HB.out.later (Below.now (alloc_belowS wr _) hb5))
      have HI5 := Lib.hid (HI.out.later (Below.now (alloc_belowS wr _) hb5))
      have HA5 : Hid (Away w5 (some ⟨b2, off2, none⟩) (.slice ao (openL R (S.take q)).length co)) := Lib.hid (fun x hx => ⟨Nat.lt_of_lt_of_le (HAW.out x hx).1 (Below.now (alloc_belowS wr _) hb5).size, (HAW.out x hx).2⟩)
      obtain ⟨k0, k1, k2, k3, k4⟩ := pairAt_box (p := (u, x, y, z)) hb5
      have HBB := Lib.hid hbb
      clear hb5 hbb s0 s1 c0 c1 c2 c3 c4 HC HLR
      cases bb
      · have HNY : Hid (openL R (S.take (q + 1)) = openL R (S.take q) ++ [(u, x, y, z)]) := Lib.hid (by
          rw [HNX.out, openL_no (fun h => by have := HBB.out.2 h; cases this)])
        have HB6 := Lib.hid (HB5.out.later (alloc_belowS w5 (.cells #[.string u, .int .i64 (x : Nat), .int .i64 0, .int .i64 (y : Nat), .int .i64 (z : Nat)] 122)))
        have HN1 : Hid ([Value.string u, .int .i64 (x : Nat), .int .i64 0, .int .i64 (y : Nat), .int .i64 (z : Nat)].length = 1 * 5) := Lib.hid rfl
        have HN2 : Hid (∀ v ∈ [Value.string u, .int .i64 (x : Nat), .int .i64 0, .int .i64 (y : Nat), .int .i64 (z : Nat)], v.oneCell' = true) := Lib.hid (fun v hv => by simp at hv; rcases hv with rfl | rfl | rfl | rfl | rfl <;> rfl)
        generalize openL R (S.take q) = X at *
        go_wp2_with (at_builtin; refine wpList_appM rfl (.tmp 18) (.tmp 20) rfl Tryz.underlying77 Tryz.infoPair rfl (by decide) rfl HB6.out rfl (Src.lit _) HN1.out HN2.out ?a1 ?a2 ?a3)
        case a1 => unfold maxLen; omega
        case a2 => omega
        intro v4 w4 hb4 hg4 ho4
        have HB4 : Hid (Bld 122 5 w1 w4 v4 (openL R (S.take (q + 1))).length (cellsL prV (openL R (S.take (q + 1))))) := Lib.hid (by
          rw [HNY.out, List.length_append, cells_prV]; exact hb4)
        have HG4 := Lib.hid ((World.grownBy_alloc w5 _ (Value.slice ao X.length co).ownBlock).trans hg4)
        have HI4 : Hid (RowsIn prV w4 (some ⟨b2, off2, none⟩) S) := Lib.hid (CellsIn.grownC HI5.out HG4.out (fun x hx => (HA5.out x hx).2))
        have HA4 : Hid (Away w4 (some ⟨b2, off2, none⟩) v4) := Lib.hid (fun x hx => by
          obtain ⟨h1, h2⟩ := HA5.out x hx
          refine ⟨Nat.lt_of_lt_of_le h1 HG4.out.size, fun e => ?_⟩
          rcases ho4 with h | h
          · exact h2 (e.trans h)
          · have e4 := Option.some.inj (e.trans h)
            first | omega | (simp at e4; omega))
        obtain ⟨a4, c4, hv4⟩ := owns_form HB4.out.1
        subst hv4
        clear hb4 hg4 ho4
        go_wp2_with fail
        go_roundw
        case rel => exact ⟨q + 1, by omega, by go_num, HB4.out, HI4, HA4⟩
        case measure => simp [intOf]; omega
      · have HNY : Hid (openL R (S.take (q + 1)) = openL R (S.take q)) := Lib.hid (by
          rw [HNX.out, openL_yes (HBB.out.1 rfl), List.append_nil])
        generalize openL R (S.take q) = X at *
        go_wp2_with fail
        go_roundw
        case rel => exact ⟨q + 1, by omega, by go_num, by rw [HNY.out]; exact HB5.out, HI5, HA5⟩
        case measure => simp [intOf]; omega
    · obtain rfl : q = S.length := by omega
      have F : Hid (RetSl 122 5 (openF R).length (cellsL prV (openF R)) w (.returned (.slice ao (openL R (S.take S.length)).length co)) wr) := Lib.hid (by
        rw [HFE.out]
        exact (HB.out.since HW1.out).ret)
      clear hbd
      go_wp2_with fail
      go_ret
      exact F.out
end Go.Proofs.YtgoeadgpbidgiaaGreatDoor
namespace Go.Proofs.YtgoeadgpbidgiaaGreatDoor
open Go.RowKit
set_option linter.unusedVariables false
/-- what IsComplete is -/
def ComplP (k : Int) (R : List RulD) : Prop := sysP k R ∧ openF R = []
set_option maxRecDepth 100000 in
set_option maxHeartbeats 2000000 in
theorem specIsComplete_any (k : Int) (R : List RulD) (a : Option Addr) (cap : Nat) (w : World) (hl : RulesIn w a R) (hlen : R.length ≤ 2 ^ 40) (hz : SzR R) :
    Calls Tryz.prog 51 #[.agg #[.int .i64 k, .slice a R.length cap]] w (RetP (ComplP k R) w) := by
  have HSO := Lib.hid (fun W h => specSystemOk_any k R a cap W h hlen hz)
  have HO := Lib.hid (fun W h hs => specOpenPairs_any k R a cap W h hs)
  have hb1 := alloc_belowS w (.cells #[.int .i64 k, .slice a R.length cap] 33)
  have HBX := Lib.hid (fun W2 (h : Below (w.alloc (.cells #[.int .i64 k, .slice a R.length cap] 33)).heap.size (w.alloc (.cells #[.int .i64 k, .slice a R.length cap] 33)) W2) => box_two h)
  have HW1 := Lib.hid hb1
  have HL := Lib.hid (hl.later hb1)
  clear hl hb1 hz
  go_enter Tryz.func51, Tryz.ntmps51
  go_wp2_with fail
  generalize w.alloc (.cells #[.int .i64 k, .slice a R.length cap] 33) = w1 at *
  refine (HSO.out _ HL.out).mono ?_
  rintro e w2 ⟨bb, hbb, rfl, hb2⟩
  have HBB := Lib.hid hbb
  have HB2 := Lib.hid hb2
  obtain ⟨s0, s1⟩ := HBX.out w2 hb2
  clear hbb hb2
  cases bb
  · have F : Hid (RetP (ComplP k R) w (.returned (.bool false)) w2) := Lib.hid (RetP.no (fun h => by have := HBB.out.2 h.1; cases this) (Below.now HW1.out HB2.out))
    go_wp2_with fail
    go_ret
    exact F.out
  · have HSP := Lib.hid (HBB.out.1 rfl)
    go_wp2_with fail
    refine (HO.out _ (HL.out.later HB2.out) HSP.out).mono ?_
    rintro e w3 ⟨a3, c3, rfl, ho3, hb3⟩
    have HB3 := Lib.hid (Below.now HW1.out (Below.now HB2.out hb3))
    clear hb3 ho3 s0 s1
    by_cases h0 : (openF R).length = 0
    · have F : Hid (RetP (ComplP k R) w (.returned (.bool true)) w3) := Lib.hid (RetP.yes ⟨HSP.out, List.length_eq_zero_iff.1 h0⟩ HB3.out)
      have hb : (((openF R).length : Int) == 0) = true := by rw [h0]; rfl
      clear h0
      go_wp2_with fail
      go_ret
      exact F.out
    · have F : Hid (RetP (ComplP k R) w (.returned (.bool false)) w3) := Lib.hid (RetP.no (fun h => h0 (by rw [h.2]; rfl)) HB3.out)
      have hb : (((openF R).length : Int) == 0) = false := by rw [beq_eq_false_iff_ne]; omega
      clear h0
      go_wp2_with fail
      go_ret
      exact F.out
end Go.Proofs.YtgoeadgpbidgiaaGreatDoor
namespace Go.Proofs.YtgoeadgpbidgiaaGreatDoor
open Go.RowKit
set_option linter.unusedVariables false
/-- the rules of a system, as sides -/
def SR (R : List RulD) : Rs := fun l r => ∃ p ∈ R, p.1.data.toList = l ∧ p.2.data.toList = r
theorem lessS_wt {a b : ByteArray} (h : lessS a b = true) : wt a.data.toList < wt b.data.toList := by
  unfold lessS ltW blW at h
  rcases of_decide_eq_true h with h | ⟨h1, h2⟩
  · exact wt_short h
  · exact wt_lex h1 h2
theorem sys_dwn {k : Int} {R : List RulD} (hs : sysP k R) : Dwn (SR R) := by
  rintro _ _ ⟨p, hp, rfl, rfl⟩
  exact lessS_wt (hs.2 p hp)
theorem ba_lists {a b : ByteArray} (h : a.data.toList = b.data.toList) : a = b := by
  cases a; cases b
  simp only [ByteArray.mk.injEq] at h ⊢
  exact Array.ext' h
theorem step_stp {R : List RulD} {w : ByteArray} {s : Nat × Nat} (hm : s ∈ stepsF R w) : Stp (SR R) w.data.toList (applyF R w s).data.toList := by
  obtain ⟨h1, h2, h3⟩ := mem_stepsF.1 hm
  refine ⟨w.data.toList.take s.2, _, _, w.data.toList.drop (s.2 + (nthR R s.1).1.size), ⟨nthR R s.1, nthR_mem h2, rfl, rfl⟩, split_at h3, ?_⟩
  unfold applyF
  rw [replF_list]
/-- the word behind a step at a place that is told by what stands ahead of it -/
theorem apply_at {R : List RulD} {w : ByteArray} {i : Nat} {x y : List UInt8} (h : w.data.toList = x ++ ((nthR R i).1.data.toList ++ y)) :
    preAt w x.length (nthR R i).1 = true ∧ (applyF R w (i, x.length)).data.toList = x ++ ((nthR R i).2.data.toList ++ y) := by
  have e1 : (nthR R i).1.data.toList.length = (nthR R i).1.size := rfl
  constructor
  · unfold preAt
    rw [h, List.drop_left, List.isPrefixOf_iff_prefix]
    exact List.prefix_append _ _
  · unfold applyF
    rw [replF_list]
    show w.data.toList.take x.length ++ ((nthR R i).2.data.toList ++ w.data.toList.drop (x.length + (nthR R i).1.size)) = _
    rw [h, List.take_left, ← e1, ← List.drop_drop, List.drop_left, List.drop_left]
theorem stp_step {R : List RulD} (hne : ∀ r ∈ R, r.1.size ≠ 0) {w : ByteArray} {v : List UInt8} (h : Stp (SR R) w.data.toList v) : ∃ s ∈ stepsF R w, (applyF R w s).data.toList = v := by
  obtain ⟨x, _, _, y, ⟨p, hp, rfl, rfl⟩, h1, rfl⟩ := h
  obtain ⟨i, hi, rfl⟩ := mem_nthR hp
  obtain ⟨h2, h3⟩ := apply_at h1
  have e1 : (nthR R i).1.data.toList.length = (nthR R i).1.size := rfl
  have e2 : w.data.toList.length = w.size := rfl
  have h4 := hne _ hp
  rw [h1] at e2
  simp only [List.length_append] at e2
  exact ⟨(i, x.length), mem_stepsF.2 ⟨by show x.length < _; omega, hi, h2⟩, h3⟩
theorem sys_ne {k : Int} {R : List RulD} (hs : rulesP k R) : ∀ r ∈ R, r.1.size ≠ 0 := fun r hr => (hs.2 r hr).2
theorem norm_nf {R : List RulD} (hne : ∀ r ∈ R, r.1.size ≠ 0) {w x : ByteArray} (h : NormIs R w x) : Nf (SR R) w.data.toList x.data.toList := by
  induction h with
  | done h =>
    refine ⟨.refl _, fun v hv => ?_⟩
    obtain ⟨s, hs, _⟩ := stp_step hne hv
    rw [List.head?_eq_none_iff] at h
    rw [h] at hs
    cases hs
  | step h _ ih => exact ⟨.step (step_stp (head_mem h)) ih.1, ih.2⟩
/-- the pairs of a system are connected -/
def PairConn (R : List RulD) (E : Rs) (p : PairD) : Prop := Conn E (wt p.1.data.toList) (leftP R p).data.toList (rightP R p).data.toList
theorem mem_pairs {R : List RulD} {i j : Nat} (hi : i < R.length) (hj : j < R.length) {p : PairD} (h : p ∈ inF R i j ∨ p ∈ acF R i j) : p ∈ pairsF R := by
  unfold pairsF pairAt
  simp only [List.mem_flatMap, List.mem_range]
  exact ⟨i, hi, j, hj, List.mem_append.2 h⟩
/-- one rule inside of another one: the pair, and its sides -/
theorem pair_in {R : List RulD} {i j : Nat} (hij : i ≠ j) (hj : (nthR R j).1.size ≠ 0) {x y : List UInt8} (h : (nthR R i).1.data.toList = x ++ ((nthR R j).1.data.toList ++ y)) :
    inP R i j x.length ∈ inF R i j ∧ (leftP R (inP R i j x.length)).data.toList = (nthR R i).2.data.toList ∧ (rightP R (inP R i j x.length)).data.toList = x ++ ((nthR R j).2.data.toList ++ y) := by
  obtain ⟨h2, h3⟩ := apply_at h
  have e1 : (nthR R j).1.data.toList.length = (nthR R j).1.size := rfl
  have e2 : (nthR R i).1.data.toList.length = (nthR R i).1.size := rfl
  rw [h] at e2
  simp only [List.length_append] at e2
  refine ⟨?_, ?_, h3⟩
  · unfold inF
    rw [if_neg hij]
    exact List.mem_map.2 ⟨_, mem_places.2 ⟨by omega, h2⟩, rfl⟩
  · have h4 := (apply_at (R := R) (w := (nthR R i).1) (i := i) (x := []) (y := []) (by simp)).2
    simp only [List.nil_append, List.append_nil, List.length_nil] at h4
    exact h4
theorem pair_ac {R : List RulD} {i j : Nat} {x t y : List UInt8} (h1 : (nthR R i).1.data.toList = x ++ t) (h2 : (nthR R j).1.data.toList = t ++ y) (ht : t ≠ []) (hx : x ≠ []) (hy : y ≠ []) :
    acP R i j t.length ∈ acF R i j ∧ (acP R i j t.length).1.data.toList = x ++ (t ++ y) ∧ (leftP R (acP R i j t.length)).data.toList = (nthR R i).2.data.toList ++ y ∧ (rightP R (acP R i j t.length)).data.toList = x ++ (nthR R j).2.data.toList := by
  have e1 : (nthR R i).1.data.toList.length = (nthR R i).1.size := rfl
  have e2 : (nthR R j).1.data.toList.length = (nthR R j).1.size := rfl
  have f1 := e1
  have f2 := e2
  rw [h1] at f1
  rw [h2] at f2
  simp only [List.length_append] at f1 f2
  have lx : 0 < x.length := List.length_pos_iff.2 hx
  have lt : 0 < t.length := List.length_pos_iff.2 ht
  have ly : 0 < y.length := List.length_pos_iff.2 hy
  have ew : (acP R i j t.length).1.data.toList = x ++ (t ++ y) := by
    show ((nthR R i).1 ++ (nthR R j).1.extract t.length (nthR R j).1.size).data.toList = _
    rw [ByteArray.data_append, Array.toList_append, extract_lt, List.take_of_length_le (Nat.le_of_eq e2), h1, h2, List.drop_left, List.append_assoc]
  have ep : (acP R i j t.length).2.2.2 = x.length := by show (nthR R i).1.size - t.length = _; omega
  refine ⟨?_, ew, ?_, ?_⟩
  · unfold acF
    refine List.mem_map.2 ⟨_, mem_over.2 ⟨⟨by omega, by omega⟩, lt, ?_⟩, rfl⟩
    unfold ovAt
    rw [beq_iff_eq, h1, h2, show (nthR R i).1.size - t.length = x.length by omega, List.drop_left, List.take_left]
  · have h4 := (apply_at (R := R) (w := (acP R i j t.length).1) (i := i) (x := []) (y := y) (by rw [ew, h1]; simp)).2
    simp only [List.nil_append, List.length_nil] at h4
    exact h4
  · have h4 := (apply_at (R := R) (w := (acP R i j t.length).1) (i := j) (x := x) (y := []) (by rw [ew, h2]; simp)).2
    unfold rightP
    rw [ep]
    simp only [List.append_nil] at h4
    exact h4
/-- pairs that are connected make the rules critical ones -/
theorem crit_of_pairs {R : List RulD} (hne : ∀ r ∈ R, r.1.size ≠ 0) {E : Rs} (h : ∀ p ∈ pairsF R, PairConn R E p) : Crit (SR R) E := by
  refine ⟨?_, ?_⟩
  · rintro _ _ _ _ x y ⟨p1, hp1, rfl, rfl⟩ ⟨p2, hp2, rfl, rfl⟩ e
    obtain ⟨i, hi, rfl⟩ := mem_nthR hp1
    obtain ⟨j, hj, rfl⟩ := mem_nthR hp2
    by_cases hij : i = j
    · subst hij
      have := congrArg List.length e
      simp only [List.length_append] at this
      have hx : x = [] := List.eq_nil_of_length_eq_zero (by omega)
      have hy : y = [] := List.eq_nil_of_length_eq_zero (by omega)
      subst hx hy
      simpa using Conn.refl _
    · obtain ⟨h1, h2, h3⟩ := pair_in hij (hne _ hp2) e
      have h4 := h _ (mem_pairs hi hj (.inl h1))
      unfold PairConn at h4
      rw [h2, h3] at h4
      exact h4
  · rintro _ _ _ _ x t y ⟨p1, hp1, rfl, rfl⟩ ⟨p2, hp2, rfl, rfl⟩ e1 e2 ht hx hy
    obtain ⟨i, hi, rfl⟩ := mem_nthR hp1
    obtain ⟨j, hj, rfl⟩ := mem_nthR hp2
    obtain ⟨h1, h2, h3, h4⟩ := pair_ac e1 e2 ht hx hy
    have h5 := h _ (mem_pairs hi hj (.inr h1))
    unfold PairConn at h5
    rw [h2, h3, h4] at h5
    exact h5
theorem open_nil {R : List RulD} (h : openF R = []) {p : PairD} (hp : p ∈ pairsF R) : Joined R p := by
  refine Classical.byContradiction fun hn => ?_
  unfold openF openL at h
  rw [List.filter_eq_nil_iff] at h
  have := h p hp
  simp [hn] at this
theorem joined_conn {k : Int} {R : List RulD} (hs : sysP k R) {p : PairD} (hp : p ∈ pairsF R) (hj : Joined R p) : PairConn R (SR R) p := by
  obtain ⟨x, h1, h2⟩ := hj
  have hok := pairOk hs hp
  have hd := sys_dwn hs
  have n1 := norm_nf (sys_ne hs.1) h1
  have n2 := norm_nf (sys_ne hs.1) h2
  exact (Conn.red hd n1.1 (hd.stp (step_stp hok.one))).trans (Conn.red hd n2.1 (hd.stp (step_stp hok.two))).symm
theorem comp_crit {k : Int} {R : List RulD} (h : ComplP k R) : Crit (SR R) (SR R) :=
  crit_of_pairs (sys_ne h.1.1) fun p hp => joined_conn h.1 hp (open_nil h.2 hp)
/-- in a complete system, all that a word is reduced to has its normal form -/
theorem comp_red {k : Int} {R : List RulD} (h : ComplP k R) {u v x y : ByteArray} (hr : Red (SR R) u.data.toList v.data.toList) (hx : NormIs R u x) (hy : NormIs R v y) : x = y :=
  ba_lists (conf_red (sys_dwn h.1) (comp_crit h) hr (norm_nf (sys_ne h.1.1) hx) (norm_nf (sys_ne h.1.1) hy))
/-- critical pairs that are connected by the rules are joined: the system is complete -/
theorem comp_of_crit {k : Int} {R : List RulD} (hs : sysP k R) (hc : Crit (SR R) (SR R)) : ComplP k R := by
  refine ⟨hs, ?_⟩
  unfold openF openL
  rw [List.filter_eq_nil_iff]
  intro p hp
  have hok := pairOk hs hp
  have hd := sys_dwn hs
  obtain ⟨x, hx, _⟩ := NormIs.ex hs _ _ (Nat.lt_succ_self _) (step_word hs hok.word hok.one)
  obtain ⟨y, hy, _⟩ := NormIs.ex hs _ _ (Nat.lt_succ_self _) (step_word hs hok.word hok.two)
  have c := local_all hd hc (step_stp hok.one) (step_stp hok.two)
  have e := ba_lists (conf_conn hd hc c (norm_nf (sys_ne hs.1) hx) (norm_nf (sys_ne hs.1) hy))
  subst e
  have : Joined R p := ⟨x, hx, hy⟩
  simp [this]
end Go.Proofs.YtgoeadgpbidgiaaGreatDoor
