/-
  StepsOf and ApplyStep of the program.
-/
import Derived.Test.YtgoeadgpbidgiaaGreatDoorMnp18
import Derived.Deep.RegionHeld3
namespace Go.Proofs.YtgoeadgpbidgiaaGreatDoor
open Go.RowKit
set_option linter.unusedVariables false
set_option maxRecDepth 100000 in
set_option maxHeartbeats 2000000 in
theorem implApply_any (k : Int) (R : List RulD) (a : Option Addr) (cap : Nat) (w0 : ByteArray) (x y : Nat) (w : World) (hl : RulesIn w a R) (hs : sysP k R) (hw : w0.size ≤ 16) (hm : (x, y) ∈ stepsF R w0) :
    Calls Tryz.prog 89 #[.agg #[.int .i64 k, .slice a R.length cap], .string w0, .agg #[.int .i64 (x : Nat), .int .i64 (y : Nat)]] w fun e w' => e = .returned (.tuple #[.string (applyF R w0 (x, y)), .bool true]) ∧ Below w.heap.size w w' := by
  have HL := Lib.hid hl
  obtain ⟨hm1, hm2, _⟩ := mem_stepsF.1 hm
  have hm2 : x < R.length := hm2
  have hok := apply_ok hs hw hm
  have h8 := left8 hs x
  have h8b : (nthR R x).2.size ≤ 8 := (hs.1.2 _ (nthR_mem hm2)).1.2.2
  have HRA := Lib.hid (fun W => implReplaceAt_ok w0 (nthR R x).2 y (nthR R x).1.size W hok.1 hok.2 (by omega) (by omega))
  have HAP : Hid (applyF R w0 (x, y) = replF w0 y (nthR R x).1.size (nthR R x).2) := Lib.hid rfl
  have HA2 := Lib.hid (fun o o2 => Below.now (alloc_belowS w o) (alloc_belowS (w.alloc o) o2))
  have e1 : (w.alloc (.cells #[.int .i64 k, .slice a R.length cap] 33)).heap.size = w.heap.size + 1 := by simp
  have HBX := Lib.hid (fun W2 (h : Below ((w.alloc (.cells #[.int .i64 k, .slice a R.length cap] 33)).alloc (.cells #[.int .i64 (x : Nat), .int .i64 (y : Nat)] 116)).heap.size ((w.alloc (.cells #[.int .i64 k, .slice a R.length cap] 33)).alloc (.cells #[.int .i64 (x : Nat), .int .i64 (y : Nat)] 116)) W2) => And.intro (box_two (Below.now (alloc_belowS (w.alloc (.cells #[.int .i64 k, .slice a R.length cap] 33)) _) h)) (box_facts h).1)
  rw [e1] at HBX
  have HW1 : Hid (Below w.heap.size w ((w.alloc (.cells #[.int .i64 k, .slice a R.length cap] 33)).alloc (.cells #[.int .i64 (x : Nat), .int .i64 (y : Nat)] 116))) := Lib.hid (HA2.out _ _)
  obtain ⟨rb, ro, ra, rlt, k0, k1⟩ := rule_at HL.out HW1.out hm2
  subst ra
  obtain ⟨⟨s0, s1⟩, b0, b1⟩ := HBX.out _ (Below.refl _ _)
  have s2 := fun o => (HBX.out _ (alloc_belowS _ o)).2.1
  have s3 := fun o => (HBX.out _ (alloc_belowS _ o)).2.2
  rw [← HAP.out] at HRA
  clear hl hs e1 hm hok HBX HA2
  generalize (nthR R x).1 = l at *
  generalize (nthR R x).2 = q at *
  generalize applyF R w0 (x, y) = v at *
  go_enter Tryz.func89, Tryz.ntmps89
  go_wp2_with fail
  generalize (w.alloc (.cells #[.int .i64 k, .slice (some ⟨rb, ro, none⟩) R.length cap] 33)).alloc (.cells #[.int .i64 (x : Nat), .int .i64 (y : Nat)] 116) = w1 at *
  refine (HRA.out _).mono ?_
  rintro e w9 ⟨rfl, hb9⟩
  have HB9 := Lib.hid (Below.now HW1.out (Below.now (alloc_belowS w1 _) hb9))
  clear hb9 s0 s1 s2 s3 b0 b1 k0 k1
  go_wp2_with fail
  go_ret2
  exact ⟨rfl, HB9.out⟩
/-- a box of a step -/
def BoxS (g x y : Nat) (W : World) : Prop := W.heap[g]? = some (.cells #[.int .i64 (x : Nat), .int .i64 (y : Nat)] 116 (0, 0))
theorem BoxS.facts {g x y : Nat} {W : World} (h : BoxS g x y W) : (W.cell? ⟨g, 0, none⟩ = some (.int .i64 (x : Nat)) ∧ W.cell? ⟨g, 1, none⟩ = some (.int .i64 (y : Nat))) ∧ W.frozen? ⟨g, 0, none⟩ = false ∧ W.frozen? ⟨g, 1, none⟩ = false := by
  unfold BoxS at h
  refine ⟨sys_cells h, ?_, ?_⟩ <;> simp [World.frozen?, h]
theorem BoxS.set {g x y : Nat} {W : World} (h : BoxS g x y W) (x2 y2 : Nat) : BoxS g x2 y2 ((W.setCell ⟨g, 0, none⟩ (.int .i64 (x2 : Nat))).setCell ⟨g, 1, none⟩ (.int .i64 (y2 : Nat))) := by
  unfold BoxS at *
  unfold World.setCell
  simp [Array.getElem?_modify, h]
theorem BoxS.later {g x y : Nat} {W W' : World} (h : BoxS g x y W) (hb : Below W.heap.size W W') : BoxS g x y W' := (hb.block g (Array.getElem?_eq_some_iff.1 h).1).trans h
/-- what is known of the first step -/
def FsP (R : List RulD) (v : ByteArray) (x y : Nat) (b : Bool) : Prop := (b = true ∧ (stepsF R v).head? = some (x, y)) ∨ (b = false ∧ (stepsF R v).head? = none ∧ x = 0 ∧ y = 0)
theorem RetFS.form {R : List RulD} {v : ByteArray} {w : World} {e : Ending} {w' : World} (h : RetFS R v w e w') : ∃ x y b, FsP R v x y b ∧ e = .returned (.tuple #[.agg #[.int .i64 (x : Nat), .int .i64 (y : Nat)], .bool b]) ∧ Below w.heap.size w w' := by
  obtain ⟨hb, ⟨s, hs, rfl⟩ | ⟨hs, rfl⟩⟩ := h
  · exact ⟨s.1, s.2, true, .inl ⟨rfl, hs⟩, rfl, hb⟩
  · exact ⟨0, 0, false, .inr ⟨rfl, hs, rfl, rfl⟩, rfl, hb⟩
/-- what normal hands back -/
def RetNo (R : List RulD) (w0 : ByteArray) (w : World) (e : Ending) (w' : World) : Prop := ∃ x, NormIs R w0 x ∧ e = .returned (.string x) ∧ Below w.heap.size w w'
set_option maxRecDepth 100000 in
set_option maxHeartbeats 2000000 in
theorem implNormal_any (k : Int) (R : List RulD) (a : Option Addr) (cap : Nat) (w0 : ByteArray) (w : World) (hl : RulesIn w a R) (hs : sysP k R) (hw : wordOkB k w0 = true) :
    Calls Tryz.prog 45 #[.agg #[.int .i64 k, .slice a R.length cap], .string w0] w (RetNo R w0 w) := by
  have HL := Lib.hid hl
  have HS := Lib.hid hs
  have HW := Lib.hid hw
  have HFS := Lib.hid (fun v W h (hv : v.size ≤ 16) => (implFirstStep_any k R a cap v W h hs hv).mono (fun _ _ h => h.form))
  have HAS := Lib.hid (fun v x y W h (hv : v.size ≤ 16) hm => implApply_any k R a cap v x y W h hs hv hm)
  have hb1 := alloc_belowS w (.cells #[.int .i64 k, .slice a R.length cap] 33)
  have HBX := Lib.hid (fun W2 (h : Below (w.alloc (.cells #[.int .i64 k, .slice a R.length cap] 33)).heap.size (w.alloc (.cells #[.int .i64 k, .slice a R.length cap] 33)) W2) => box_two h)
  have HW1 := Lib.hid hb1
  have h16 := (wdP_of hw).len
  clear hl hs hw hb1
  go_enter Tryz.func45, Tryz.ntmps45
  go_wp2_with fail
  generalize w.alloc (.cells #[.int .i64 k, .slice a R.length cap] 33) = w1 at *
  refine (HFS.out w0 w1 (HL.out.later HW1.out) h16).mono ?_
  rintro e w2 ⟨x0, y0, b0, hfs, rfl, hb2⟩
  have HB2 := Lib.hid hb2
  have HFP := Lib.hid hfs
  have HBS0 : Hid (BoxS w2.heap.size x0 y0 (w2.alloc (.cells #[.int .i64 (x0 : Nat), .int .i64 (y0 : Nat)] 116))) := Lib.hid (alloc_at _ _)
  have HB3 : Hid (Below w1.heap.size w1 (w2.alloc (.cells #[.int .i64 (x0 : Nat), .int .i64 (y0 : Nat)] 116))) := Lib.hid (Below.now hb2 (alloc_belowS _ _))
  have hlt0 : w1.heap.size ≤ w2.heap.size := hb2.size
  clear hfs hb2
  go_wp2_with fail
  go_loopw [1, 5, 6] (fun vw vp vb wr => ∃ (v : ByteArray) (g x y : Nat) (b : Bool), vw = .string v ∧ vp = .pointer (some ⟨g, 0, none⟩) ∧ vb = .bool b ∧ w1.heap.size ≤ g ∧ Hid (wordOkB k v = true) ∧ Hid (∀ z, NormIs R v z → NormIs R w0 z) ∧ Hid (FsP R v x y b) ∧ Hid (BoxS g x y wr) ∧ Hid (Below w1.heap.size w1 wr)) (fun vw _ _ _ => rkV vw)
  case atStart => exact ⟨w0, w2.heap.size, x0, y0, b0, rfl, rfl, rfl, hlt0, HW, Lib.hid (fun z h => h), HFP, HBS0, HB3⟩
  case round =>
    clear HBS0 HB3 HFP HB2 hlt0
    obtain ⟨v, g, x, y, b, rfl, rfl, rfl, hg, HV, HNI, HFP, HBS, HB⟩ := hrel
    obtain ⟨s0, s1⟩ := HBX.out wr HB.out
    obtain ⟨⟨c0, c1⟩, f0, f1⟩ := HBS.out.facts
    have hv16 := (wdP_of HV.out).len
    rcases HFP.out with ⟨rfl, hh⟩ | ⟨rfl, hh, rfl, rfl⟩
    · have hm := head_mem hh
      have HLESS := Lib.hid (step_less HS.out hm)
      have HWD : Hid (wordOkB k (applyF R v (x, y)) = true) := Lib.hid (step_word HS.out HV.out hm)
      have HNI2 : Hid (∀ z, NormIs R (applyF R v (x, y)) z → NormIs R w0 z) := Lib.hid (fun z hz => HNI.out z (.step hh hz))
      have HAC := Lib.hid (HAS.out v x y wr (HL.out.later (Below.now HW1.out HB.out)) hv16 hm)
      have hv2 := (wdP_of HWD.out).len
      have HFC := Lib.hid (fun W h => HFS.out (applyF R v (x, y)) W h hv2)
      clear hh hm HFP
      generalize applyF R v (x, y) = v2 at *
      go_wp2_with fail
      refine HAC.out.mono ?_
      rintro e w3 ⟨rfl, hb3⟩
      have HBN := Lib.hid (Below.now HB.out hb3)
      obtain ⟨⟨d0, d1⟩, _, _⟩ := (HBS.out.later hb3).facts
      have t0 := fun o => (HBX.out _ (Below.now HBN.out (alloc_belowS w3 o))).1
      have t1 := fun o => (HBX.out _ (Below.now HBN.out (alloc_belowS w3 o))).2
      have HLW := Lib.hid (fun o => HL.out.later (Below.now HW1.out (Below.now HBN.out (alloc_belowS w3 o))))
      clear hb3 s0 s1 c0 c1 f0 f1 HAC HBS
      go_wp2_with fail
      refine (HFC.out _ (HLW.out _)).mono ?_
      rintro e w4 ⟨x2, y2, b2, hfs, rfl, hb4⟩
      have HFP2 := Lib.hid hfs
      have hbx : BoxS w3.heap.size x y w4 := (hb4.block _ (by simp)).trans (alloc_at _ _)
      obtain ⟨⟨k0, k1⟩, m0, m1⟩ := hbx.facts
      have HBS2 := Lib.hid (hbx.set x2 y2)
      have hsz : w1.heap.size ≤ w3.heap.size := HBN.out.size
      have HB4 : Hid (Below w1.heap.size w1 ((w4.setCell ⟨w3.heap.size, 0, none⟩ (.int .i64 (x2 : Nat))).setCell ⟨w3.heap.size, 1, none⟩ (.int .i64 (y2 : Nat)))) := Lib.hid (((Below.now HBN.out (Below.now (alloc_belowS w3 _) hb4)).setCell hsz _).setCell hsz _)
      clear hfs hb4 hbx d0 d1 t0 t1 HLW HFC
      go_wp2_with fail
      go_roundw
      case rel => exact ⟨v2, w3.heap.size, x2, y2, b2, rfl, rfl, rfl, hsz, HWD, HNI2, HFP2, HBS2, HB4⟩
      case measure => exact HLESS.out
    · have F : Hid (RetNo R w0 w (.returned (.string v)) wr) := Lib.hid ⟨v, HNI.out v (.done hh), rfl, Below.now HW1.out HB.out⟩
      clear hh s0 s1 c0 c1 f0 f1
      go_wp2_with fail
      go_ret
      exact F.out
set_option maxHeartbeats 1000000 in
theorem implTakes_any (k : Int) (R : List RulD) (a : Option Addr) (cap : Nat) (w0 : ByteArray) (w : World) (hl : RulesIn w a R) (hlen : R.length ≤ 2 ^ 40) (hz : SzR R) (hw : w0.size ≤ maxLen) :
    Calls Tryz.prog 44 #[.agg #[.int .i64 k, .slice a R.length cap], .string w0] w (RetP (sysP k R ∧ wordOkB k w0 = true) w) := by
  have HL := Lib.hid hl
  have HSO := Lib.hid (fun W h => implSystemOk_any k R a cap W h hlen hz)
  have HWO := Lib.hid (fun W => implWordOk_any k w0 W hw)
  have HBX := Lib.hid (fun W2 (h : Below (w.alloc (.cells #[.int .i64 k, .slice a R.length cap] 33)).heap.size (w.alloc (.cells #[.int .i64 k, .slice a R.length cap] 33)) W2) => box_two h)
  have HA := Lib.hid (fun o => alloc_belowS w o)
  clear hl hz
  go_enter Tryz.func44, Tryz.ntmps44
  go_wp2_with fail
  refine (HSO.out _ (HL.out.later (HA.out _))).mono ?_
  rintro e w1 ⟨bb, hbb, rfl, hb1⟩
  obtain ⟨s0, s1⟩ := HBX.out _ hb1
  have HBB := Lib.hid hbb
  have HW1 := Lib.hid (Below.now (HA.out _) hb1)
  clear hbb hb1
  cases bb
  · have F : Hid (RetP (sysP k R ∧ wordOkB k w0 = true) w (.returned (.bool false)) w1) := Lib.hid (RetP.no (fun h => by have := HBB.out.2 h.1; cases this) HW1.out)
    go_wp2_with fail
    go_ret
    exact F.out
  · have F : Hid (RetP (sysP k R ∧ wordOkB k w0 = true) w (.returned (.bool (wordOkB k w0))) w1) := Lib.hid ⟨_, ⟨fun h => ⟨HBB.out.1 rfl, h⟩, fun h => h.2⟩, rfl, HW1.out⟩
    generalize wordOkB k w0 = ok at *
    go_wp2_with fail
    refine (HWO.out _).mono ?_
    rintro e w2 ⟨rfl, rfl⟩
    go_wp2_with fail
    go_ret
    exact F.out
set_option maxHeartbeats 1000000 in
theorem implNormalForm_ok (k : Int) (R : List RulD) (a : Option Addr) (cap : Nat) (w0 : ByteArray) (w : World) (hl : RulesIn w a R) (hs : sysP k R) (hw : wordOkB k w0 = true) :
    Calls Tryz.prog 15 #[.agg #[.int .i64 k, .slice a R.length cap], .string w0] w fun e w' => ∃ x, NormIs R w0 x ∧ e = .returned (.tuple #[.string x, .bool true]) ∧ Below w.heap.size w w' := by
  have HL := Lib.hid hl
  have hz : SzR R := fun j hj => by have := (hs.1.2 _ (nthR_mem hj)).1.2; unfold maxLen; omega
  have HOK := Lib.hid (fun W h => implTakes_any k R a cap w0 W h (by have := hs.1.1.2; omega) hz (by have := (wdP_of hw).len; unfold maxLen; omega))
  have HYES : Hid (sysP k R ∧ wordOkB k w0 = true) := Lib.hid ⟨hs, hw⟩
  have HTR := Lib.hid (fun W h => implNormal_any k R a cap w0 W h hs hw)
  have HBX := Lib.hid (fun W2 (h : Below (w.alloc (.cells #[.int .i64 k, .slice a R.length cap] 33)).heap.size (w.alloc (.cells #[.int .i64 k, .slice a R.length cap] 33)) W2) => box_two h)
  have HA := Lib.hid (fun o => alloc_belowS w o)
  clear hl hz hs hw
  go_enter Tryz.func15, Tryz.ntmps15
  go_wp2_with fail
  refine (HOK.out _ (HL.out.later (HA.out _))).mono ?_
  rintro e w1 ⟨bb, hbb, rfl, hb1⟩
  obtain rfl := hbb.2 HYES.out
  obtain ⟨s0, s1⟩ := HBX.out _ hb1
  have HW1 := Lib.hid (Below.now (HA.out _) hb1)
  clear hbb hb1
  go_wp2_with fail
  refine (HTR.out _ (HL.out.later HW1.out)).mono ?_
  rintro e w2 ⟨x, hx, rfl, hb2⟩
  have HX := Lib.hid hx
  have HW2 := Lib.hid (Below.now HW1.out hb2)
  clear hx hb2
  go_wp2_with fail
  go_ret2
  exact ⟨x, HX.out, rfl, HW2.out⟩
end Go.Proofs.YtgoeadgpbidgiaaGreatDoor
namespace Go.Proofs.YtgoeadgpbidgiaaGreatDoor
open Go.RowKit
set_option linter.unusedVariables false
set_option maxHeartbeats 1000000 in
theorem implStepsOf_any (k : Int) (R : List RulD) (a : Option Addr) (cap : Nat) (w0 : ByteArray) (w : World) (hl : RulesIn w a R) (hs : sysP k R) (hw : w0.size ≤ 16) :
    Calls Tryz.prog 201 #[.agg #[.int .i64 k, .slice a R.length cap], .string w0] w (RetSl 116 2 (stepsF R w0).length (cellsL stV (stepsF R w0)) w) := by
  have HL := Lib.hid hl
  have hz : SzR R := fun j hj => by have := (hs.1.2 _ (nthR_mem hj)).1.2; unfold maxLen; omega
  have HRO := Lib.hid (fun W h => implRulesOk_any k R a cap W h (by have := hs.1.1.2; omega) hz)
  have HRP := Lib.hid hs.1
  have HST := Lib.hid (fun W h => implSteps_any k R a cap w0 W h hs hw)
  have HBX := Lib.hid (fun W2 (h : Below (w.alloc (.cells #[.int .i64 k, .slice a R.length cap] 33)).heap.size (w.alloc (.cells #[.int .i64 k, .slice a R.length cap] 33)) W2) => box_two h)
  have HA := Lib.hid (fun o => alloc_belowS w o)
  clear hl hs hz
  go_enter Tryz.func201, Tryz.ntmps201
  go_wp2_with fail
  refine (HRO.out _ (HL.out.later (HA.out _))).mono ?_
  rintro e w1 ⟨bb, hbb, rfl, hb1⟩
  obtain rfl := hbb.2 HRP.out
  obtain ⟨s0, s1⟩ := HBX.out _ hb1
  have HW1 := Lib.hid (Below.now (HA.out _) hb1)
  clear hbb hb1
  go_wp2_with fail
  refine (HST.out _ (HL.out.later HW1.out)).mono ?_
  rintro e w2 ⟨a2, c2, rfl, ho, hb2⟩
  have F : Hid (RetSl 116 2 (stepsF R w0).length (cellsL stV (stepsF R w0)) w (.returned (.slice a2 (stepsF R w0).length c2)) w2) := Lib.hid ⟨a2, c2, rfl, owns_mono ho HW1.out.size, Below.now HW1.out hb2⟩
  clear ho hb2
  go_wp2_with fail
  go_ret
  exact F.out
set_option maxRecDepth 100000 in
set_option maxHeartbeats 2000000 in
theorem indexStep_any (S : List (Nat × Nat)) (a : Option Addr) (cap : Nat) (x y : Nat) (w : World) (hl : RowsIn stV w a S) (hlen : S.length ≤ 1000) (hm : (x, y) ∈ S) :
    Calls Tryz.prog 219 #[.slice a S.length cap, .agg #[.int .i64 (x : Nat), .int .i64 (y : Nat)]] w fun e w' => ∃ j : Nat, e = .returned (.int .i64 (j : Nat)) ∧ Below w.heap.size w w' := by
  have HM := Lib.hid hm
  have hb1 := alloc_belowS w (.cells #[.int .i64 (x : Nat), .int .i64 (y : Nat)] 116)
  have HBX := Lib.hid (fun W2 (h : Below (w.alloc (.cells #[.int .i64 (x : Nat), .int .i64 (y : Nat)] 116)).heap.size (w.alloc (.cells #[.int .i64 (x : Nat), .int .i64 (y : Nat)] 116)) W2) => box_two h)
  have HW1 := Lib.hid hb1
  have HI : Hid (RowsIn stV (w.alloc (.cells #[.int .i64 (x : Nat), .int .i64 (y : Nat)] 116)) a S) := Lib.hid (hl.later hb1)
  clear hl hm hb1
  go_enter Tryz.func219, Tryz.ntmps219
  go_wp2_with fail
  generalize w.alloc (.cells #[.int .i64 (x : Nat), .int .i64 (y : Nat)] 116) = w1 at *
  go_loopw [8] (fun vj wr => ∃ j : Nat, j ≤ S.length ∧ vj = .int .i64 (j : Nat) ∧ Hid (∀ i (h : i < S.length), i < j → S[i] ≠ (x, y)) ∧ Below w1.heap.size w1 wr) (fun vj _ => S.length - (intOf vj).toNat)
  case atStart => exact ⟨0, Nat.zero_le _, rfl, Lib.hid (fun i _ h => absurd h (Nat.not_lt_zero _)), Below.refl _ _⟩
  case round =>
    obtain ⟨j, hj, rfl, HNO, hbw⟩ := hrel
    have HBW := Lib.hid hbw
    by_cases hlt : j < S.length
    · obtain ⟨b, off, rfl, hb, hc⟩ := RowsIn.cell stV_len (by omega) (HI.out.later hbw) hlt
      have c0 : wr.cell? ⟨b, off + j * 2, none⟩ = some (.int .i64 (S[j].1 : Nat)) := hc j hlt 0 _ rfl
      have c1 : wr.cell? ⟨b, off + j * 2 + 1, none⟩ = some (.int .i64 (S[j].2 : Nat)) := hc j hlt 1 _ rfl
      have HST : Hid (S[j] ≠ (x, y) → ∀ i (h : i < S.length), i < j + 1 → S[i] ≠ (x, y)) := Lib.hid (fun h i hi hij => by
        by_cases e : i = j
        · subst e; exact h
        · exact HNO.out i hi (by omega))
      obtain ⟨d0, d1⟩ := HBX.out wr hbw
      clear hc hbw
      generalize S[j] = z at *
      obtain ⟨z1, z2⟩ := z
      by_cases hx : z1 = x
      · subst hx
        by_cases hy : z2 = y
        · subst hy
          go_wp2_with fail
          go_quiet (fail)
          have HB2 := Lib.hid (Below.now HW1.out (Below.now HBW.out (below_drewN (Below.refl _ _) nq)))
          go_wp2_with fail
          go_ret
          exact ⟨j, rfl, HB2.out⟩
        · have F := Lib.hid (HST.out (by simp; exact hy))
          have g1 : ¬ (y : Int) = (z2 : Int) := by omega
          go_wp2_with fail
          go_quiet (fail)
          have HB2 := Lib.hid (Below.now HBW.out (below_drewN (Below.refl _ _) nq))
          go_wp2_with fail
          go_roundw
          case rel => exact ⟨j + 1, by omega, by go_num, F, HB2.out⟩
          case measure => simp [intOf]; omega
      · have F := Lib.hid (HST.out (by simp; intro h; exact absurd h hx))
        have g1 : ¬ (x : Int) = (z1 : Int) := by omega
        go_wp2_with fail
        go_quiet (fail)
        have HB2 := Lib.hid (Below.now HBW.out (below_drewN (Below.refl _ _) nq))
        go_wp2_with fail
        go_roundw
        case rel => exact ⟨j + 1, by omega, by go_num, F, HB2.out⟩
        case measure => simp [intOf]; omega
    · exfalso
      obtain ⟨i, hi, he⟩ := List.getElem_of_mem HM.out
      exact HNO.out i hi (by omega) he
set_option maxHeartbeats 1000000 in
theorem containsStep_any (S : List (Nat × Nat)) (a : Option Addr) (cap : Nat) (x y : Nat) (w : World) (hl : RowsIn stV w a S) (hlen : S.length ≤ 1000) (hm : (x, y) ∈ S) :
    Calls Tryz.prog 200 #[.slice a S.length cap, .agg #[.int .i64 (x : Nat), .int .i64 (y : Nat)]] w fun e w' => e = .returned (.bool true) ∧ Below w.heap.size w w' := by
  have hb1 := alloc_belowS w (.cells #[.int .i64 (x : Nat), .int .i64 (y : Nat)] 116)
  have HI := Lib.hid (indexStep_any S a cap x y (w.alloc (.cells #[.int .i64 (x : Nat), .int .i64 (y : Nat)] 116)) (hl.later hb1) hlen hm)
  have HW1 := Lib.hid hb1
  clear hl hm hb1
  go_enter Tryz.func200, Tryz.ntmps200
  go_wp2_with fail
  refine HI.out.mono ?_
  rintro e w2 ⟨j, rfl, hb2⟩
  have HB2 := Lib.hid (Below.now HW1.out hb2)
  have hj : (0 : Int) ≤ (j : Int) := by omega
  clear hb2
  go_wp2_with fail
  go_ret
  exact ⟨rfl, HB2.out⟩
set_option maxRecDepth 100000 in
set_option maxHeartbeats 2000000 in
theorem implApplyStep_any (k : Int) (R : List RulD) (a : Option Addr) (cap : Nat) (w0 : ByteArray) (x y : Nat) (w : World) (hl : RulesIn w a R) (hs : sysP k R) (hw : w0.size ≤ 16) (hm : (x, y) ∈ stepsF R w0) :
    Calls Tryz.prog 168 #[.agg #[.int .i64 k, .slice a R.length cap], .string w0, .agg #[.int .i64 (x : Nat), .int .i64 (y : Nat)]] w fun e w' => e = .returned (.tuple #[.string (applyF R w0 (x, y)), .bool true]) ∧ Below w.heap.size w w' := by
  have HL := Lib.hid hl
  have HSO := Lib.hid (fun W h => implStepsOf_any k R a cap w0 W h hs hw)
  have HAP := Lib.hid (fun W h => implApply_any k R a cap w0 x y W h hs hw hm)
  have hlen := stepsF_len R w0
  have hlb : w0.size * R.length ≤ 16 * 12 := Nat.mul_le_mul hw hs.1.1.2
  have HCT := Lib.hid (fun a c W h => containsStep_any (stepsF R w0) a c x y W h (by omega) hm)
  have HA2 := Lib.hid (fun o o2 => Below.now (alloc_belowS w o) (alloc_belowS (w.alloc o) o2))
  have e1 : (w.alloc (.cells #[.int .i64 k, .slice a R.length cap] 33)).heap.size = w.heap.size + 1 := by simp
  have HBX := Lib.hid (fun W2 (h : Below ((w.alloc (.cells #[.int .i64 k, .slice a R.length cap] 33)).alloc (.cells #[.int .i64 (x : Nat), .int .i64 (y : Nat)] 116)).heap.size ((w.alloc (.cells #[.int .i64 k, .slice a R.length cap] 33)).alloc (.cells #[.int .i64 (x : Nat), .int .i64 (y : Nat)] 116)) W2) => And.intro (box_two (Below.now (alloc_belowS (w.alloc (.cells #[.int .i64 k, .slice a R.length cap] 33)) _) h)) (box_facts h).1)
  rw [e1] at HBX
  have HW1 : Hid (Below w.heap.size w ((w.alloc (.cells #[.int .i64 k, .slice a R.length cap] 33)).alloc (.cells #[.int .i64 (x : Nat), .int .i64 (y : Nat)] 116))) := Lib.hid (HA2.out _ _)
  clear hl hs hm e1 HA2 hlen hlb
  go_enter Tryz.func168, Tryz.ntmps168
  go_wp2_with fail
  generalize (w.alloc (.cells #[.int .i64 k, .slice a R.length cap] 33)).alloc (.cells #[.int .i64 (x : Nat), .int .i64 (y : Nat)] 116) = w1 at *
  have HL1 := Lib.hid (HL.out.later HW1.out)
  obtain ⟨⟨r0, r1⟩, r2, r3⟩ := HBX.out w1 (Below.refl _ _)
  generalize stepsF R w0 = S at *
  generalize hv : applyF R w0 (x, y) = v at *
  have HV := Lib.hid hv
  clear hv
  go_region_held3 (fun w' => w'.cell? ⟨w.heap.size, 0, none⟩ = some (.int .i64 k) ∧ w'.cell? ⟨w.heap.size, 1, none⟩ = some (.slice a R.length cap) ∧ w'.cell? ⟨w.heap.size + 1, 0, none⟩ = some (.int .i64 (x : Nat)) ∧ w'.cell? ⟨w.heap.size + 1, 1, none⟩ = some (.int .i64 (y : Nat))) (go_keep) (first
    | (go_at_call 201; refine (HSO.out _ (HL1.out.later (by repeat (first | exact Below.refl _ _ | refine Below.drew ?_ | refine below_drewN ?_ _)))).mono ?_; rintro e w5 ⟨a5, c5, rfl, ho5, hb5⟩; have K5 : Hid (Below w1.heap.size w1 w5) := Lib.hid (Below.now (by repeat (first | exact Below.refl _ _ | refine Below.drew ?_ | refine below_drewN ?_ _)) hb5); have I5 := Lib.hid (owns_rows ho5); have t0 := (HBX.out w5 K5.out).1.1; have t1 := (HBX.out w5 K5.out).1.2; have t2 := (HBX.out w5 K5.out).2.1; have t3 := (HBX.out w5 K5.out).2.2; clear hb5 ho5)
    | (go_at_call 200; refine (HCT.out _ _ _ (I5.out.later (by repeat (first | exact Below.refl _ _ | refine Below.drew ?_ | refine below_drewN ?_ _)))).mono ?_; rintro e w6 ⟨rfl, hb6⟩; have K6 : Hid (Below w1.heap.size w1 w6) := Lib.hid (Below.now K5.out (Below.now (by repeat (first | exact Below.refl _ _ | refine Below.drew ?_ | refine below_drewN ?_ _)) hb6)); have u0 := (HBX.out w6 K6.out).1.1; have u1 := (HBX.out w6 K6.out).1.2; have u2 := (HBX.out w6 K6.out).2.1; have u3 := (HBX.out w6 K6.out).2.2; clear hb6))
  all_goals
    clear r0 r1 r2 r3 t0 t1 t2 t3
    have HLW := Lib.hid (HL1.out.later K6.out)
    go_wp2_with fail
    refine (HAP.out _ HLW.out).mono ?_
    rintro e w9 ⟨rfl, hb9⟩
    have HB9 := Lib.hid (Below.now HW1.out (Below.now K6.out hb9))
    clear hb9 u0 u1 u2 u3
    go_wp2_with fail
    refine bodyPost_ret (v := .tuple #[.string v, .bool true]) ?_ rfl ⟨by rw [HV.out], HB9.out⟩
    simp [results, Tryz.results168, go_sem]
end Go.Proofs.YtgoeadgpbidgiaaGreatDoor
