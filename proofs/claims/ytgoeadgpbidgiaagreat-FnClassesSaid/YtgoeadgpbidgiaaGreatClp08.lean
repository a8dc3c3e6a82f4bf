/-
  The bound at twelve words of at most eight letters out of four: some of them are short.
-/
import Derived.Test.YtgoeadgpbidgiaaGreatClp07
import Derived.Test.YtgoeadgpbidgiaaGreatClp04
import Derived.Laws.BytesArg
import Derived.Test.YtgoeadgpbidgiaaGreatClp05
import Derived.Maps.Own
import Derived.Maps.OwnOps
import Derived.Maps.RangeWalk
import Derived.Maps.Views
import Derived.Test.YtgoeadgpbidgiaaGreatClp01
namespace Go.Proofs.YtgoeadgpbidgiaaGreat
open Go.RowKit
set_option linter.unusedVariables false
set_option maxRecDepth 100000 in
set_option maxHeartbeats 2000000 in
theorem implApply_any (k : Int) (R : List RulD) (a : Option Addr) (cap : Nat) (w0 : ByteArray) (x y : Nat) (w : World) (hl : RulesIn w a R) (hs : sysP k R) (hw : w0.size ≤ 16) (hm : (x, y) ∈ stepsF R w0) :
    Calls Tryz.prog 57 #[.agg #[.int .i64 k, .slice a R.length cap], .string w0, .agg #[.int .i64 (x : Nat), .int .i64 (y : Nat)]] w fun e w' => e = .returned (.tuple #[.string (applyF R w0 (x, y)), .bool true]) ∧ Below w.heap.size w w' := by
  have HL := Lib.hid hl
  obtain ⟨hm1, hm2, _⟩ := mem_stepsF.1 hm
  have hm2 : x < R.length := hm2
  have hok := apply_ok hs hw hm
  have h8 := left8 hs x
  have h8b : (nthR R x).2.size ≤ 8 := (hs.1.2 _ (nthR_mem hm2)).1.2.2
  have HRA := Lib.hid (fun W => implReplaceAt_ok w0 (nthR R x).2 y (nthR R x).1.size W hok.1 hok.2 (by omega) (by omega))
  have HAP : Hid (applyF R w0 (x, y) = replF w0 y (nthR R x).1.size (nthR R x).2) := Lib.hid rfl
  have HA2 := Lib.hid (fun o o2 => Below.now (alloc_belowS w o) (alloc_belowS (w.alloc o) o2))
  have e1 : (w.alloc (.cells #[.int .i64 k, .slice a R.length cap] 25)).heap.size = w.heap.size + 1 := by simp
  have HBX := Lib.hid (fun W2 (h : Below ((w.alloc (.cells #[.int .i64 k, .slice a R.length cap] 25)).alloc (.cells #[.int .i64 (x : Nat), .int .i64 (y : Nat)] 103)).heap.size ((w.alloc (.cells #[.int .i64 k, .slice a R.length cap] 25)).alloc (.cells #[.int .i64 (x : Nat), .int .i64 (y : Nat)] 103)) W2) => And.intro (box_two (Below.now (alloc_belowS (w.alloc (.cells #[.int .i64 k, .slice a R.length cap] 25)) _) h)) (box_facts h).1)
  rw [e1] at HBX
  have HW1 : Hid (Below w.heap.size w ((w.alloc (.cells #[.int .i64 k, .slice a R.length cap] 25)).alloc (.cells #[.int .i64 (x : Nat), .int .i64 (y : Nat)] 103))) := Lib.hid (HA2.out _ _)
  obtain ⟨rb, ro, ra, rlt, k0, k1⟩ := rule_at HL.out HW1.out hm2
  subst ra
  obtain ⟨⟨s0, s1⟩, b0, b1⟩ := HBX.out _ (Below.refl _ _)
  have s2 := fun o => (HBX.out _ (alloc_belowS _ o)).2.1
  have s3 := fun o => (HBX.out _ (alloc_belowS _ o)).2.2
  rw [← HAP.out] at HRA
  clear hl hs e1 hm hok HBX HA2
  generalize (nthR R x).1 = l at *
  generalize (nthR R x).2 = q at *
  generalize applyF R w0 (x, y) = v at *
  go_enter Tryz.func57, Tryz.ntmps57
  go_wp2_with fail
  generalize (w.alloc (.cells #[.int .i64 k, .slice (some ⟨rb, ro, none⟩) R.length cap] 25)).alloc (.cells #[.int .i64 (x : Nat), .int .i64 (y : Nat)] 103) = w1 at *
  refine (HRA.out _).mono ?_
  rintro e w9 ⟨rfl, hb9⟩
  have HB9 := Lib.hid (Below.now HW1.out (Below.now (alloc_belowS w1 _) hb9))
  clear hb9 s0 s1 s2 s3 b0 b1 k0 k1
  go_wp2_with fail
  go_ret2
  exact ⟨rfl, HB9.out⟩
/-- a box of a step -/
def BoxS (g x y : Nat) (W : World) : Prop := W.heap[g]? = some (.cells #[.int .i64 (x : Nat), .int .i64 (y : Nat)] 103 (0, 0))
theorem BoxS.facts {g x y : Nat} {W : World} (h : BoxS g x y W) : (W.cell? ⟨g, 0, none⟩ = some (.int .i64 (x : Nat)) ∧ W.cell? ⟨g, 1, none⟩ = some (.int .i64 (y : Nat))) ∧ W.frozen? ⟨g, 0, none⟩ = false ∧ W.frozen? ⟨g, 1, none⟩ = false := by
  unfold BoxS at h
  refine ⟨sys_cells h, ?_, ?_⟩ <;> simp [World.frozen?, h]
theorem BoxS.set {g x y : Nat} {W : World} (h : BoxS g x y W) (x2 y2 : Nat) : BoxS g x2 y2 ((W.setCell ⟨g, 0, none⟩ (.int .i64 (x2 : Nat))).setCell ⟨g, 1, none⟩ (.int .i64 (y2 : Nat))) := by
  unfold BoxS at *
  unfold World.setCell
  simp [Array.getElem?_modify, h]
theorem BoxS.later {g x y : Nat} {W W' : World} (h : BoxS g x y W) (hb : Below W.heap.size W W') : BoxS g x y W' := (hb.block g (Array.getElem?_eq_some_iff.1 h).1).trans h
/-- what is known of the first step -/
def FsP (R : List RulD) (v : ByteArray) (x y : Nat) (b : Bool) : Prop := (b = true ∧ (stepsF R v).head? = some (x, y)) ∨ (b = false ∧ (stepsF R v).head? = none ∧ x = 0 ∧ y = 0)
theorem RetFS.form {R : List RulD} {v : ByteArray} {w : World} {e : Ending} {w' : World} (h : RetFS R v w e w') : ∃ x y b, FsP R v x y b ∧ e = .returned (.tuple #[.agg #[.int .i64 (x : Nat), .int .i64 (y : Nat)], .bool b]) ∧ Below w.heap.size w w' := by
  obtain ⟨hb, ⟨s, hs, rfl⟩ | ⟨hs, rfl⟩⟩ := h
  · exact ⟨s.1, s.2, true, .inl ⟨rfl, hs⟩, rfl, hb⟩
  · exact ⟨0, 0, false, .inr ⟨rfl, hs, rfl, rfl⟩, rfl, hb⟩
/-- what normal hands back -/
def RetNo (R : List RulD) (w0 : ByteArray) (w : World) (e : Ending) (w' : World) : Prop := ∃ x, NormIs R w0 x ∧ e = .returned (.string x) ∧ Below w.heap.size w w'
set_option maxRecDepth 100000 in
set_option maxHeartbeats 2000000 in
theorem implNormal_any (k : Int) (R : List RulD) (a : Option Addr) (cap : Nat) (w0 : ByteArray) (w : World) (hl : RulesIn w a R) (hs : sysP k R) (hw : wordOkB k w0 = true) :
    Calls Tryz.prog 29 #[.agg #[.int .i64 k, .slice a R.length cap], .string w0] w (RetNo R w0 w) := by
  have HL := Lib.hid hl
  have HS := Lib.hid hs
  have HW := Lib.hid hw
  have HFS := Lib.hid (fun v W h (hv : v.size ≤ 16) => (implFirstStep_any k R a cap v W h hs hv).mono (fun _ _ h => h.form))
  have HAS := Lib.hid (fun v x y W h (hv : v.size ≤ 16) hm => implApply_any k R a cap v x y W h hs hv hm)
  have hb1 := alloc_belowS w (.cells #[.int .i64 k, .slice a R.length cap] 25)
  have HBX := Lib.hid (fun W2 (h : Below (w.alloc (.cells #[.int .i64 k, .slice a R.length cap] 25)).heap.size (w.alloc (.cells #[.int .i64 k, .slice a R.length cap] 25)) W2) => box_two h)
  have HW1 := Lib.hid hb1
  have h16 := (wdP_of hw).len
  clear hl hs hw hb1
  go_enter Tryz.func29, Tryz.ntmps29
  go_wp2_with fail
  generalize w.alloc (.cells #[.int .i64 k, .slice a R.length cap] 25) = w1 at *
  refine (HFS.out w0 w1 (HL.out.later HW1.out) h16).mono ?_
  rintro e w2 ⟨x0, y0, b0, hfs, rfl, hb2⟩
  have HB2 := Lib.hid hb2
  have HFP := Lib.hid hfs
  have HBS0 : Hid (BoxS w2.heap.size x0 y0 (w2.alloc (.cells #[.int .i64 (x0 : Nat), .int .i64 (y0 : Nat)] 103))) := Lib.hid (alloc_at _ _)
  have HB3 : Hid (Below w1.heap.size w1 (w2.alloc (.cells #[.int .i64 (x0 : Nat), .int .i64 (y0 : Nat)] 103))) := Lib.hid (Below.now hb2 (alloc_belowS _ _))
  have hlt0 : w1.heap.size ≤ w2.heap.size := hb2.size
  clear hfs hb2
  go_wp2_with fail
  go_loopw [1, 5, 6] (fun vw vp vb wr => ∃ (v : ByteArray) (g x y : Nat) (b : Bool), vw = .string v ∧ vp = .pointer (some ⟨g, 0, none⟩) ∧ vb = .bool b ∧ w1.heap.size ≤ g ∧ Hid (wordOkB k v = true) ∧ Hid (∀ z, NormIs R v z → NormIs R w0 z) ∧ Hid (FsP R v x y b) ∧ Hid (BoxS g x y wr) ∧ Hid (Below w1.heap.size w1 wr)) (fun vw _ _ _ => rkV vw)
  case atStart => exact ⟨w0, w2.heap.size, x0, y0, b0, rfl, rfl, rfl, hlt0, HW, Lib.hid (fun z h => h), HFP, HBS0, HB3⟩
  case round =>
    clear HBS0 HB3 HFP HB2 hlt0
    obtain ⟨v, g, x, y, b, rfl, rfl, rfl, hg, HV, HNI, HFP, HBS, HB⟩ := hrel
    obtain ⟨s0, s1⟩ := HBX.out wr HB.out
    obtain ⟨⟨c0, c1⟩, f0, f1⟩ := HBS.out.facts
    have hv16 := (wdP_of HV.out).len
    rcases HFP.out with ⟨rfl, hh⟩ | ⟨rfl, hh, rfl, rfl⟩
    · have hm := head_mem hh
      have HLESS := Lib.hid (step_less HS.out hm)
      have HWD : Hid (wordOkB k (applyF R v (x, y)) = true) := Lib.hid (step_word HS.out HV.out hm)
      have HNI2 : Hid (∀ z, NormIs R (applyF R v (x, y)) z → NormIs R w0 z) := Lib.hid (fun z hz => HNI.out z (.step hh hz))
      have HAC := Lib.hid (HAS.out v x y wr (HL.out.later (Below.now HW1.out HB.out)) hv16 hm)
      have hv2 := (wdP_of HWD.out).len
      have HFC := Lib.hid (fun W h => HFS.out (applyF R v (x, y)) W h hv2)
      clear hh hm HFP
      generalize applyF R v (x, y) = v2 at *
      go_wp2_with fail
      refine HAC.out.mono ?_
      rintro e w3 ⟨rfl, hb3⟩
      have HBN := Lib.hid (Below.now HB.out hb3)
      obtain ⟨⟨d0, d1⟩, _, _⟩ := (HBS.out.later hb3).facts
      have t0 := fun o => (HBX.out _ (Below.now HBN.out (alloc_belowS w3 o))).1
      have t1 := fun o => (HBX.out _ (Below.now HBN.out (alloc_belowS w3 o))).2
      have HLW := Lib.hid (fun o => HL.out.later (Below.now HW1.out (Below.now HBN.out (alloc_belowS w3 o))))
      clear hb3 s0 s1 c0 c1 f0 f1 HAC HBS
      go_wp2_with fail
      refine (HFC.out _ (HLW.out _)).mono ?_
      rintro e w4 ⟨x2, y2, b2, hfs, rfl, hb4⟩
      have HFP2 := Lib.hid hfs
      have hbx : BoxS w3.heap.size x y w4 := (hb4.block _ (by simp)).trans (alloc_at _ _)
      obtain ⟨⟨k0, k1⟩, m0, m1⟩ := hbx.facts
      have HBS2 := Lib.hid (hbx.set x2 y2)
      have hsz : w1.heap.size ≤ w3.heap.size := HBN.out.size
      have HB4 : Hid (Below w1.heap.size w1 ((w4.setCell ⟨w3.heap.size, 0, none⟩ (.int .i64 (x2 : Nat))).setCell ⟨w3.heap.size, 1, none⟩ (.int .i64 (y2 : Nat)))) := Lib.hid (((Below.now HBN.out (Below.now (alloc_belowS w3 _) hb4)).setCell hsz _).setCell hsz _)
      clear hfs hb4 hbx d0 d1 t0 t1 HLW HFC
      go_wp2_with fail
      go_roundw
      case rel => exact ⟨v2, w3.heap.size, x2, y2, b2, rfl, rfl, rfl, hsz, HWD, HNI2, HFP2, HBS2, HB4⟩
      case measure => exact HLESS.out
    · have F : Hid (RetNo R w0 w (.returned (.string v)) wr) := Lib.hid ⟨v, HNI.out v (.done hh), rfl, Below.now HW1.out HB.out⟩
      clear hh s0 s1 c0 c1 f0 f1
      go_wp2_with fail
      go_ret
      exact F.out
set_option maxHeartbeats 1000000 in
theorem implTakes_any (k : Int) (R : List RulD) (a : Option Addr) (cap : Nat) (w0 : ByteArray) (w : World) (hl : RulesIn w a R) (hlen : R.length ≤ 2 ^ 40) (hz : SzR R) (hw : w0.size ≤ maxLen) :
    Calls Tryz.prog 28 #[.agg #[.int .i64 k, .slice a R.length cap], .string w0] w (RetP (sysP k R ∧ wordOkB k w0 = true) w) := by
  have HL := Lib.hid hl
  have HSO := Lib.hid (fun W h => implSystemOk_any k R a cap W h hlen hz)
  have HWO := Lib.hid (fun W => implWordOk_any k w0 W hw)
  have HBX := Lib.hid (fun W2 (h : Below (w.alloc (.cells #[.int .i64 k, .slice a R.length cap] 25)).heap.size (w.alloc (.cells #[.int .i64 k, .slice a R.length cap] 25)) W2) => box_two h)
  have HA := Lib.hid (fun o => alloc_belowS w o)
  clear hl hz
  go_enter Tryz.func28, Tryz.ntmps28
  go_wp2_with fail
  refine (HSO.out _ (HL.out.later (HA.out _))).mono ?_
  rintro e w1 ⟨bb, hbb, rfl, hb1⟩
  obtain ⟨s0, s1⟩ := HBX.out _ hb1
  have HBB := Lib.hid hbb
  have HW1 := Lib.hid (Below.now (HA.out _) hb1)
  clear hbb hb1
  cases bb
  · have F : Hid (RetP (sysP k R ∧ wordOkB k w0 = true) w (.returned (.bool false)) w1) := Lib.hid (RetP.no (fun h => by have := HBB.out.2 h.1; cases this) HW1.out)
    go_wp2_with fail
    go_ret
    exact F.out
  · have F : Hid (RetP (sysP k R ∧ wordOkB k w0 = true) w (.returned (.bool (wordOkB k w0))) w1) := Lib.hid ⟨_, ⟨fun h => ⟨HBB.out.1 rfl, h⟩, fun h => h.2⟩, rfl, HW1.out⟩
    generalize wordOkB k w0 = ok at *
    go_wp2_with fail
    refine (HWO.out _).mono ?_
    rintro e w2 ⟨rfl, rfl⟩
    go_wp2_with fail
    go_ret
    exact F.out
set_option maxHeartbeats 1000000 in
theorem implNormalForm_ok (k : Int) (R : List RulD) (a : Option Addr) (cap : Nat) (w0 : ByteArray) (w : World) (hl : RulesIn w a R) (hs : sysP k R) (hw : wordOkB k w0 = true) :
    Calls Tryz.prog 10 #[.agg #[.int .i64 k, .slice a R.length cap], .string w0] w fun e w' => ∃ x, NormIs R w0 x ∧ e = .returned (.tuple #[.string x, .bool true]) ∧ Below w.heap.size w w' := by
  have HL := Lib.hid hl
  have hz : SzR R := fun j hj => by have := (hs.1.2 _ (nthR_mem hj)).1.2; unfold maxLen; omega
  have HOK := Lib.hid (fun W h => implTakes_any k R a cap w0 W h (by have := hs.1.1.2; omega) hz (by have := (wdP_of hw).len; unfold maxLen; omega))
  have HYES : Hid (sysP k R ∧ wordOkB k w0 = true) := Lib.hid ⟨hs, hw⟩
  have HTR := Lib.hid (fun W h => implNormal_any k R a cap w0 W h hs hw)
  have HBX := Lib.hid (fun W2 (h : Below (w.alloc (.cells #[.int .i64 k, .slice a R.length cap] 25)).heap.size (w.alloc (.cells #[.int .i64 k, .slice a R.length cap] 25)) W2) => box_two h)
  have HA := Lib.hid (fun o => alloc_belowS w o)
  clear hl hz hs hw
  go_enter Tryz.func10, Tryz.ntmps10
  go_wp2_with fail
  refine (HOK.out _ (HL.out.later (HA.out _))).mono ?_
  rintro e w1 ⟨bb, hbb, rfl, hb1⟩
  obtain rfl := hbb.2 HYES.out
  obtain ⟨s0, s1⟩ := HBX.out _ hb1
  have HW1 := Lib.hid (Below.now (HA.out _) hb1)
  clear hbb hb1
  go_wp2_with fail
  refine (HTR.out _ (HL.out.later HW1.out)).mono ?_
  rintro e w2 ⟨x, hx, rfl, hb2⟩
  have HX := Lib.hid hx
  have HW2 := Lib.hid (Below.now HW1.out hb2)
  clear hx hb2
  go_wp2_with fail
  go_ret2
  exact ⟨x, HX.out, rfl, HW2.out⟩
end Go.Proofs.YtgoeadgpbidgiaaGreat
namespace Go.Proofs.YtgoeadgpbidgiaaGreat
open Go.RowKit
set_option linter.unusedVariables false
/-- a text of one byte -/
def oneC (x : Int) : ByteArray := ⟨#[UInt8.ofNat x.toNat]⟩
theorem convC (w : World) (x : Int) :
    (convert 22 9 (.slice (some ⟨w.heap.size, 0, none⟩) 1 1)).run Tryz.prog (w.alloc (.cells #[.int .u8 x] 5)) = .ok (.string (oneC x)) (w.alloc (.cells #[.int .u8 x] 5)) :=
  run_convert_bytes_arg (P := Tryz.prog) (w.alloc (.cells #[.int .u8 x] 5)) 22 5 Tryz.underlying22 Tryz.underlying5 w.heap.size 0 1 1 [x] rfl (fun i hi => by
    obtain rfl : i = 0 := by omega
    simp) 9 Tryz.underlying9
/-- the letter of a number -/
def letterN (x : Nat) : ByteArray := oneC (97 + (x : Int))
theorem letterN_size (x : Nat) : (letterN x).size = 1 := rfl
theorem letterOf_any (x : Nat) (w : World) (hx : x < 26) : Calls Tryz.prog 71 #[.int .i64 (x : Nat)] w fun e w' => e = .returned (.string (letterN x)) ∧ Below w.heap.size w w' := by
  have kc := convC
  have hu : IntKind.u8.wrap (97 + (x : Int)) = 97 + (x : Int) := by simp [IntKind.wrap, IntKind.signed, IntKind.bits]; omega
  have HL : Hid (oneC (97 + (x : Int)) = letterN x) := Lib.hid rfl
  go_enter Tryz.func71, Tryz.ntmps71
  go_wp2_with fail
  go_ret
  exact ⟨rfl, (Below.refl _ _).alloc (Nat.le_refl _) _⟩
end Go.Proofs.YtgoeadgpbidgiaaGreat
namespace Go.Proofs.YtgoeadgpbidgiaaGreat
open Go.RowKit
set_option linter.unusedVariables false
theorem ba_ext0 {a b : ByteArray} (h : a.data.toList = b.data.toList) : a = b := blW_inj h
def sufBB (x p : ByteArray) : Bool := p.data.toList.isSuffixOf x.data.toList
/-- a Left of a rule ends v -/
def endsR (R : List RulD) (v : ByteArray) : Bool := R.any fun r => sufBB v r.1
theorem endsR_iff {R : List RulD} {v : ByteArray} : endsR R v = true ↔ ∃ r ∈ R, sufBB v r.1 = true := by simp [endsR, List.any_eq_true]
def keepR (R : List RulD) : Nat := lsL R - 1
/-- the letters that are kept -/
def cutR (R : List RulD) (v : ByteArray) : ByteArray := v.extract (v.size - keepR R) v.size
theorem cutR_size (R : List RulD) (v : ByteArray) : (cutR R v).size ≤ keepR R := by unfold cutR; rw [ByteArray.size_extract]; omega
def okX (R : List RulD) (e : ByteArray) (x : Nat) : Bool := !endsR R (e ++ letterN x)
def nxtX (R : List RulD) (e : ByteArray) (x : Nat) : ByteArray := cutR R (e ++ letterN x)
/-- the number of ways to go on from an end by m letters -/
def paths (R : List RulD) (k : Nat) : Nat → ByteArray → Nat
  | 0, _ => 1
  | m + 1, e => ((List.range k).map fun x => if okX R e x = true then paths R k m (nxtX R e x) else 0).sum
/-- .. that begin with one of the first j letters -/
def pTo (R : List RulD) (k m : Nat) (e : ByteArray) (j : Nat) : Nat := ((List.range j).map fun x => if okX R e x = true then paths R k m (nxtX R e x) else 0).sum
theorem paths_succ (R : List RulD) (k m : Nat) (e : ByteArray) : paths R k (m + 1) e = pTo R k m e k := rfl
theorem pTo_zero (R : List RulD) (k m : Nat) (e : ByteArray) : pTo R k m e 0 = 0 := rfl
theorem pTo_yes {R : List RulD} {k m : Nat} {e : ByteArray} {j : Nat} (h : okX R e j = true) : pTo R k m e (j + 1) = pTo R k m e j + paths R k m (nxtX R e j) := by
  unfold pTo; rw [List.range_succ, List.map_append, List.sum_append]; simp [h]
theorem pTo_no {R : List RulD} {k m : Nat} {e : ByteArray} {j : Nat} (h : okX R e j = false) : pTo R k m e (j + 1) = pTo R k m e j := by
  unfold pTo; rw [List.range_succ, List.map_append, List.sum_append]; simp [h]
theorem paths_le {R : List RulD} {k : Nat} (hk : k ≤ 4) : ∀ (m : Nat) (e : ByteArray), paths R k m e ≤ 4 ^ m
  | 0, e => Nat.le_refl _
  | m + 1, e => by
    rw [paths_succ]
    have key : ∀ j, pTo R k m e j ≤ j * 4 ^ m := fun j => by
      induction j with
      | zero => rw [pTo_zero]; omega
      | succ j ih =>
        have := paths_le (R := R) hk m (nxtX R e j)
        rw [Nat.succ_mul]
        cases h : okX R e j
        · rw [pTo_no h]; omega
        · rw [pTo_yes h]; omega
    have h1 := key k
    have h2 : k * 4 ^ m ≤ 4 * 4 ^ m := Nat.mul_le_mul_right _ hk
    rw [Nat.pow_succ, Nat.mul_comm (4 ^ m) 4]
    omega
theorem pTo_mono (R : List RulD) (k m : Nat) (e : ByteArray) {i j : Nat} (h : i ≤ j) : pTo R k m e i ≤ pTo R k m e j := by
  induction h with
  | refl => exact Nat.le_refl _
  | @step j _ ih =>
    cases h : okX R e j
    · rw [pTo_no h]; exact ih
    · rw [pTo_yes h]; omega
/-- ends, and how many words have each of them -/
abbrev WayD := List (ByteArray × Nat)
/-- the words that they become by m letters more -/
def wsum (R : List RulD) (k m : Nat) (W : WayD) : Nat := (W.map fun p => p.2 * paths R k m p.1).sum
theorem wsum_app (R : List RulD) (k m : Nat) (W V : WayD) : wsum R k m (W ++ V) = wsum R k m W + wsum R k m V := by unfold wsum; rw [List.map_append, List.sum_append]
theorem wsum_one (R : List RulD) (k m : Nat) (v : ByteArray) (c : Nat) : wsum R k m [(v, c)] = c * paths R k m v := by simp [wsum]
theorem wsum_take (R : List RulD) (k m : Nat) (W : WayD) {i : Nat} (h : i < W.length) : wsum R k m (W.take (i + 1)) = wsum R k m (W.take i) + W[i].2 * paths R k m W[i].1 := by
  rw [List.take_succ_eq_append_getElem h, wsum_app, wsum_one]
theorem wsum_take_le (R : List RulD) (k m : Nat) (W : WayD) (i : Nat) : wsum R k m (W.take i) ≤ wsum R k m W := by
  have h := wsum_app R k m (W.take i) (W.drop i)
  rw [List.take_append_drop] at h
  omega
/-- more words with an end that is there -/
def addW (W : WayD) (i c : Nat) : WayD := W.modify i fun p => (p.1, p.2 + c)
theorem addW_split {W : WayD} {i c : Nat} (h : i < W.length) : addW W i c = W.take i ++ [(W[i].1, W[i].2 + c)] ++ W.drop (i + 1) := by
  unfold addW
  rw [List.modify_eq_take_cons_drop h]
  simp
theorem wsum_add {R : List RulD} {k m : Nat} {W : WayD} {i c : Nat} (h : i < W.length) : wsum R k m (addW W i c) = wsum R k m W + c * paths R k m W[i].1 := by
  have e : W = W.take i ++ [W[i]] ++ W.drop (i + 1) := by
    conv => lhs; rw [← List.take_append_drop i W, List.drop_eq_getElem_cons h]
    simp
  have h1 : wsum R k m W = wsum R k m (W.take i) + W[i].2 * paths R k m W[i].1 + wsum R k m (W.drop (i + 1)) := by
    conv => lhs; rw [e]
    rw [wsum_app, wsum_app]
    congr 2
  rw [addW_split h, wsum_app, wsum_app, wsum_one, h1, Nat.add_mul]
  omega
/-- each number is at least one -/
def PosW (W : WayD) : Prop := ∀ p ∈ W, 1 ≤ p.2
theorem PosW.len {R : List RulD} {k : Nat} : ∀ {W : WayD}, PosW W → W.length ≤ wsum R k 0 W
  | [], _ => Nat.le_refl _
  | p :: W, h => by
    have ih := PosW.len (R := R) (k := k) (W := W) (fun q hq => h q (List.mem_cons_of_mem _ hq))
    have h1 := h p List.mem_cons_self
    have e : wsum R k 0 (p :: W) = p.2 * 1 + wsum R k 0 W := by simp [wsum, paths]
    rw [e, List.length_cons]; omega
theorem PosW.add {W : WayD} (h : PosW W) (i c : Nat) : PosW (addW W i c) := fun p hp => by
  unfold addW at hp
  obtain ⟨j, hj, he⟩ := List.getElem_of_mem hp
  rw [List.getElem_modify] at he
  have h1 := h _ (List.getElem_mem (show j < W.length by simpa using hj))
  split at he
  · rw [← he]; show 1 ≤ _ + c; omega
  · rw [← he]; exact h1
theorem PosW.push {W : WayD} (h : PosW W) {v : ByteArray} {c : Nat} (hc : 1 ≤ c) : PosW (W ++ [(v, c)]) := fun p hp => by
  rcases List.mem_append.1 hp with hp | hp
  · exact h p hp
  · rw [List.mem_singleton.1 hp]; exact hc
/-- the ends are short -/
def ShortW (n : Nat) (W : WayD) : Prop := ∀ p ∈ W, p.1.size ≤ n
theorem ShortW.add {n : Nat} {W : WayD} (h : ShortW n W) (i c : Nat) : ShortW n (addW W i c) := fun p hp => by
  unfold addW at hp
  obtain ⟨j, hj, he⟩ := List.getElem_of_mem hp
  rw [List.getElem_modify] at he
  have h1 := h _ (List.getElem_mem (show j < W.length by simpa using hj))
  split at he
  · rw [← he]; exact h1
  · rw [← he]; exact h1
theorem ShortW.push {n : Nat} {W : WayD} (h : ShortW n W) {v : ByteArray} {c : Nat} (hv : v.size ≤ n) : ShortW n (W ++ [(v, c)]) := fun p hp => by
  rcases List.mem_append.1 hp with hp | hp
  · exact h p hp
  · rw [List.mem_singleton.1 hp]; exact hv
/-- the numbers of reduced words of the lengths from 0 to n -/
def growL (R : List RulD) (k n : Nat) : List Int := (List.range (n + 1)).map fun i => ((paths R k i ⟨#[]⟩ : Nat) : Int)
theorem growL_len (R : List RulD) (k n : Nat) : (growL R k n).length = n + 1 := by simp [growL]
theorem growL_succ (R : List RulD) (k n : Nat) : growL R k (n + 1) = growL R k n ++ [((paths R k (n + 1) ⟨#[]⟩ : Nat) : Int)] := by
  unfold growL; rw [List.range_succ, List.map_append]; rfl
/-- the ways of a length -/
structure WayAt (R : List RulD) (k i : Nat) (W : WayD) : Prop where
  eq : ∀ m, wsum R k m W = paths R k (i + m) ⟨#[]⟩
  pos : PosW W
  short : ShortW (keepR R) W
theorem WayAt.start (R : List RulD) (k : Nat) : WayAt R k 0 [(⟨#[]⟩, 1)] := by
  refine ⟨fun m => by rw [wsum_one, Nat.zero_add]; omega, fun p hp => ?_, fun p hp => ?_⟩
  · rw [List.mem_singleton.1 hp]; exact Nat.le_refl _
  · rw [List.mem_singleton.1 hp]; exact Nat.zero_le _
/-- behind i ends and j letters of the next one -/
structure WayTo (R : List RulD) (k : Nat) (W : WayD) (i j : Nat) (e : ByteArray) (c : Nat) (V : WayD) : Prop where
  eq : ∀ m, wsum R k m V = wsum R k (m + 1) (W.take i) + c * pTo R k m e j
  pos : PosW V
  short : ShortW (keepR R) V
theorem WayTo.start (R : List RulD) (k : Nat) (W : WayD) (e : ByteArray) (c : Nat) : WayTo R k W 0 0 e c [] :=
  ⟨fun m => by rw [pTo_zero]; simp [wsum], fun p hp => (by cases hp), fun p hp => (by cases hp)⟩
theorem WayTo.no {R : List RulD} {k : Nat} {W V : WayD} {i j c : Nat} {e : ByteArray} (h : WayTo R k W i j e c V) (hx : okX R e j = false) : WayTo R k W i (j + 1) e c V :=
  ⟨fun m => by rw [pTo_no hx]; exact h.eq m, h.pos, h.short⟩
theorem WayTo.old {R : List RulD} {k : Nat} {W V : WayD} {i j c a : Nat} {e : ByteArray} (h : WayTo R k W i j e c V) (hx : okX R e j = true) (ha : a < V.length) (he : V[a].1 = nxtX R e j) : WayTo R k W i (j + 1) e c (addW V a c) :=
  ⟨fun m => by rw [wsum_add ha, he, h.eq m, pTo_yes hx, Nat.mul_add]; omega, h.pos.add _ _, h.short.add _ _⟩
theorem WayTo.new {R : List RulD} {k : Nat} {W V : WayD} {i j c : Nat} {e : ByteArray} (h : WayTo R k W i j e c V) (hx : okX R e j = true) (hc : 1 ≤ c) : WayTo R k W i (j + 1) e c (V ++ [(nxtX R e j, c)]) :=
  ⟨fun m => by rw [wsum_app, wsum_one, h.eq m, pTo_yes hx, Nat.mul_add]; omega, h.pos.push hc, h.short.push (cutR_size _ _)⟩
theorem WayTo.row {R : List RulD} {k : Nat} {W V : WayD} {i : Nat} (hi : i < W.length) (h : WayTo R k W i k W[i].1 W[i].2 V) (e : ByteArray) (c : Nat) : WayTo R k W (i + 1) 0 e c V :=
  ⟨fun m => by rw [h.eq m, wsum_take _ _ _ _ hi, paths_succ, pTo_zero]; omega, h.pos, h.short⟩
theorem WayTo.other {R : List RulD} {k : Nat} {W V : WayD} {i : Nat} {e e' : ByteArray} {c c' : Nat} (h : WayTo R k W i 0 e c V) : WayTo R k W i 0 e' c' V := ⟨fun m => by rw [h.eq m, pTo_zero, pTo_zero]; omega, h.pos, h.short⟩
theorem WayTo.done {R : List RulD} {k n : Nat} {W V : WayD} {e : ByteArray} {c : Nat} (hW : WayAt R k n W) (h : WayTo R k W W.length 0 e c V) : WayAt R k (n + 1) V :=
  ⟨fun m => by rw [h.eq m, List.take_length, hW.eq, pTo_zero, show n + (m + 1) = n + 1 + m by omega]; omega, h.pos, h.short⟩
/-- the numbers stay small -/
theorem WayTo.le {R : List RulD} {k n : Nat} (hk : k ≤ 4) {W V : WayD} {i j : Nat} (hW : WayAt R k n W) (hi : i < W.length) (hj : j ≤ k) (h : WayTo R k W i j W[i].1 W[i].2 V) : wsum R k 0 V ≤ 4 ^ (n + 1) := by
  rw [h.eq 0]
  have h1 := wsum_take_le R k (0 + 1) W (i + 1)
  rw [wsum_take _ _ _ _ hi, paths_succ] at h1
  have h2 := pTo_mono R k 0 W[i].1 hj
  have h3 : W[i].2 * pTo R k 0 W[i].1 j ≤ W[i].2 * pTo R k 0 W[i].1 k := Nat.mul_le_mul_left _ h2
  have h4 := hW.eq (0 + 1)
  have h5 := paths_le (R := R) hk (n + (0 + 1)) ⟨#[]⟩
  rw [← h4] at h5
  have h6 : n + (0 + 1) = n + 1 := by omega
  rw [h6] at h5
  omega
theorem pow16 {n : Nat} (h : n ≤ 17) : 4 ^ n ≤ 17179869184 := Nat.le_trans (Nat.pow_le_pow_right (by omega) h) (by decide)
end Go.Proofs.YtgoeadgpbidgiaaGreat
namespace Go.Proofs.YtgoeadgpbidgiaaGreat
open Go.RowKit Go.Maps Go.WideShapes
set_option linter.unusedVariables false
def keyL (e : ByteArray) : Lit := .string e.data.toList
theorem keyL_inj {a b : ByteArray} (h : keyL a = keyL b) : a = b := by
  unfold keyL at h
  exact ba_ext0 (by simpa using h)
theorem keyL_same {a b : ByteArray} : (keyL a).sameKey (keyL b) = true ↔ a = b := by
  unfold keyL Lit.sameKey
  constructor
  · intro h; exact ba_ext0 (by simpa using h)
  · intro h; subst h; simp
def encW (p : ByteArray × Nat) : Lit × DataW Unit := (keyL p.1, .lit (.int .i64 (p.2 : Int)))
/-- the ends are different ones -/
def ApartW (V : WayD) : Prop := V.Pairwise (fun p q => p.1 ≠ q.1)
/-- a map holds these ways -/
def RepM (D : DataW Unit) (V : WayD) : Prop := ApartW V ∧ ∃ es, D = .map es ∧ es.Perm (V.map encW)
theorem RepM.nil : RepM (.map []) [] := ⟨List.Pairwise.nil, [], rfl, .refl _⟩
theorem ApartW.eq {V : WayD} (h : ApartW V) {i j : Nat} (hi : i < V.length) (hj : j < V.length) (he : V[i].1 = V[j].1) : i = j := by
  rcases Nat.lt_trichotomy i j with e | e | e
  · exact absurd he ((List.pairwise_iff_getElem.1 h) i j hi hj e)
  · exact e
  · exact absurd he.symm ((List.pairwise_iff_getElem.1 h) j i hj hi e)
theorem RepM.look {D : DataW Unit} {V : WayD} (h : RepM D V) (v : ByteArray) : (∃ i, ∃ hi : i < V.length, V[i].1 = v ∧ ∀ zd, D.atKey (keyL v) zd = .lit (.int .i64 (V[i].2 : Int))) ∨ ((∀ p ∈ V, p.1 ≠ v) ∧ ∀ zd, D.atKey (keyL v) zd = zd) := by
  obtain ⟨hap, es, rfl, hp⟩ := h
  by_cases hex : ∃ p ∈ V, p.1 = v
  · left
    obtain ⟨p, hpV, rfl⟩ := hex
    obtain ⟨i, hi, rfl⟩ := List.getElem_of_mem hpV
    refine ⟨i, hi, rfl, fun zd => ?_⟩
    have hm : encW V[i] ∈ es := hp.mem_iff.2 (List.mem_map_of_mem (List.getElem_mem hi))
    unfold DataW.atKey
    simp only []
    cases hf : es.find? (fun p => p.1.sameKey (keyL V[i].1)) with
    | none =>
      have := (List.find?_eq_none.1 hf) _ hm
      exact absurd (keyL_same.2 rfl) this
    | some q =>
      have h1 := List.find?_some hf
      have h2 := List.mem_of_find?_eq_some hf
      obtain ⟨r, hr, rfl⟩ := List.mem_map.1 (hp.mem_iff.1 h2)
      obtain ⟨j, hj, rfl⟩ := List.getElem_of_mem hr
      have h3 := keyL_same.1 h1
      have := hap.eq hj hi h3
      subst this
      rfl
  · right
    have hne : ∀ p ∈ V, p.1 ≠ v := fun p hp e => hex ⟨p, hp, e⟩
    refine ⟨hne, fun zd => ?_⟩
    unfold DataW.atKey
    simp only []
    cases hf : es.find? (fun p => p.1.sameKey (keyL v)) with
    | none => rfl
    | some q =>
      have h1 := List.find?_some hf
      have h2 := List.mem_of_find?_eq_some hf
      obtain ⟨r, hr, rfl⟩ := List.mem_map.1 (hp.mem_iff.1 h2)
      exact absurd (keyL_same.1 h1) (hne r hr)
theorem filter_enc (V : WayD) (v : ByteArray) : (V.map encW).filter (fun p => !p.1.sameKey (keyL v)) = (V.filter fun p => !decide (p.1 = v)).map encW := by
  rw [List.filter_map]
  congr 1
  apply List.filter_congr
  intro p _
  show (!(keyL p.1).sameKey (keyL v)) = _
  congr 1
  rw [Bool.eq_iff_iff, keyL_same, decide_eq_true_iff]
theorem RepM.new {D : DataW Unit} {V : WayD} (h : RepM D V) {v : ByteArray} (c : Nat) (hv : ∀ p ∈ V, p.1 ≠ v) : RepM (D.put (keyL v) (.lit (.int .i64 (c : Int)))) (V ++ [(v, c)]) := by
  obtain ⟨hap, es, rfl, hp⟩ := h
  refine ⟨?_, _, rfl, ?_⟩
  · unfold ApartW
    rw [List.pairwise_append]
    exact ⟨hap, List.pairwise_singleton _ _, fun p hp q hq => by rw [List.mem_singleton.1 hq]; exact hv p hp⟩
  · refine (insert_perm _ _).trans ?_
    have h1 := hp.filter (fun p => !p.1.sameKey (keyL v))
    have h2 : V.filter (fun p => !decide (p.1 = v)) = V := List.filter_eq_self.2 (fun p hp => by simpa using hv p hp)
    rw [filter_enc, h2] at h1
    refine (h1.cons _).trans ?_
    rw [List.map_append]
    exact (List.perm_append_singleton _ _).symm
theorem apart_split {V : WayD} (hap : ApartW V) {a : Nat} (ha : a < V.length) : V.filter (fun p => !decide (p.1 = V[a].1)) = V.take a ++ V.drop (a + 1) := by
  have e : V = V.take a ++ V[a] :: V.drop (a + 1) := by
    conv => lhs; rw [← List.take_append_drop a V, List.drop_eq_getElem_cons ha]
  have h1 : (V.take a).filter (fun p => !decide (p.1 = V[a].1)) = V.take a := List.filter_eq_self.2 (fun p hp => by
    obtain ⟨i, hi, rfl⟩ := List.getElem_of_mem hp
    rw [List.length_take] at hi
    rw [List.getElem_take]
    have : V[i].1 ≠ V[a].1 := fun e => by have := hap.eq (show i < V.length by omega) ha e; omega
    simpa using this)
  have h2 : (V.drop (a + 1)).filter (fun p => !decide (p.1 = V[a].1)) = V.drop (a + 1) := List.filter_eq_self.2 (fun p hp => by
    obtain ⟨i, hi, rfl⟩ := List.getElem_of_mem hp
    rw [List.length_drop] at hi
    rw [List.getElem_drop]
    have : V[a + 1 + i].1 ≠ V[a].1 := fun e => by have := hap.eq (show a + 1 + i < V.length by omega) ha e; omega
    simpa using this)
  have h3 : V.filter (fun p => !decide (p.1 = V[a].1)) = (V.take a ++ V[a] :: V.drop (a + 1)).filter (fun p => !decide (p.1 = V[a].1)) := by rw [← e]
  rw [h3, List.filter_append, List.filter_cons, h1, h2]
  simp
theorem RepM.old {D : DataW Unit} {V : WayD} (h : RepM D V) {a : Nat} (ha : a < V.length) (c : Nat) : RepM (D.put (keyL V[a].1) (.lit (.int .i64 ((V[a].2 + c : Nat) : Int)))) (addW V a c) := by
  obtain ⟨hap, es, rfl, hp⟩ := h
  refine ⟨?_, _, rfl, ?_⟩
  · unfold ApartW addW
    rw [List.pairwise_iff_getElem]
    intro i j hi hj hij
    have h1 := (List.pairwise_iff_getElem.1 hap) i j (by simpa using hi) (by simpa using hj) hij
    rw [List.getElem_modify, List.getElem_modify]
    split <;> split <;> exact h1
  · refine (insert_perm _ _).trans ?_
    have h1 := hp.filter (fun p => !p.1.sameKey (keyL V[a].1))
    rw [filter_enc, apart_split hap ha] at h1
    refine (h1.cons _).trans ?_
    rw [addW_split ha]
    simp only [List.map_append, List.map_cons, List.append_assoc, List.cons_append, List.nil_append]
    exact (List.perm_middle).symm
theorem RepM.has {D : DataW Unit} {V : WayD} (h : RepM D V) {p : ByteArray × Nat} (hp : p ∈ V) : Maps.has D (keyL p.1) = true := by
  obtain ⟨hap, es, rfl, hpm⟩ := h
  rw [has_eq, List.any_eq_true]
  exact ⟨encW p, hpm.mem_iff.2 (List.mem_map_of_mem hp), keyL_same.2 rfl⟩
/-- the ways that have come up -/
def doneW (left : Lit → Bool) (W : WayD) : WayD := W.filter fun p => !left (keyL p.1)
theorem doneW_start {D : DataW Unit} {W : WayD} (h : RepM D W) : doneW (Maps.has D) W = [] := by
  unfold doneW
  rw [List.filter_eq_nil_iff]
  intro p hp
  simp [h.has hp]
theorem doneW_end {left : Lit → Bool} {W : WayD} (h : ∀ kl, left kl = false) : doneW left W = W := by
  unfold doneW
  rw [List.filter_eq_self]
  intro p _
  simp [h]
theorem doneW_le (R : List RulD) (k m : Nat) (left : Lit → Bool) : ∀ W : WayD, wsum R k m (doneW left W) ≤ wsum R k m W
  | [] => Nat.le_refl _
  | p :: W => by
    have ih := doneW_le R k m left W
    unfold doneW at *
    rw [List.filter_cons]
    have e : ∀ V : WayD, wsum R k m (p :: V) = p.2 * paths R k m p.1 + wsum R k m V := fun V => by simp [wsum]
    split
    · rw [e, e]; omega
    · rw [e]; omega
theorem doneW_stepX (R : List RulD) (k m : Nat) {A B : WayD} {x : ByteArray × Nat} (hA : ∀ p ∈ A, p.1 ≠ x.1) (hB : ∀ p ∈ B, p.1 ≠ x.1) {left : Lit → Bool} (hl : left (keyL x.1) = true) :
    wsum R k m (doneW (fun z => left z && !z.sameKey (keyL x.1)) (A ++ x :: B)) = wsum R k m (doneW left (A ++ x :: B)) + x.2 * paths R k m x.1 := by
  have key : ∀ p : ByteArray × Nat, p.1 ≠ x.1 → (!(left (keyL p.1) && !(keyL p.1).sameKey (keyL x.1))) = !left (keyL p.1) := fun p hp => by
    have h1 : (keyL p.1).sameKey (keyL x.1) = false := by
      cases h : (keyL p.1).sameKey (keyL x.1)
      · rfl
      · exact absurd (keyL_same.1 h) hp
    rw [h1]; simp
  have h1 : A.filter (fun p => !(left (keyL p.1) && !(keyL p.1).sameKey (keyL x.1))) = A.filter (fun p => !left (keyL p.1)) := List.filter_congr (fun p hp => key _ (hA p hp))
  have h2 : B.filter (fun p => !(left (keyL p.1) && !(keyL p.1).sameKey (keyL x.1))) = B.filter (fun p => !left (keyL p.1)) := List.filter_congr (fun p hp => key _ (hB p hp))
  have hs : (keyL x.1).sameKey (keyL x.1) = true := keyL_same.2 rfl
  have e1 : doneW (fun z => left z && !z.sameKey (keyL x.1)) (A ++ x :: B) = A.filter (fun p => !left (keyL p.1)) ++ x :: B.filter (fun p => !left (keyL p.1)) := by
    unfold doneW
    rw [List.filter_append, List.filter_cons, h1, h2]
    simp [hs]
  have e2 : doneW left (A ++ x :: B) = A.filter (fun p => !left (keyL p.1)) ++ B.filter (fun p => !left (keyL p.1)) := by
    unfold doneW
    rw [List.filter_append, List.filter_cons]
    simp [hl]
  have e3 : ∀ (p : ByteArray × Nat) (V : WayD), wsum R k m (p :: V) = p.2 * paths R k m p.1 + wsum R k m V := fun p V => by simp [wsum]
  rw [e1, e2, wsum_app, wsum_app, e3]
  omega
theorem doneW_step (R : List RulD) (k m : Nat) {W : WayD} (hap : ApartW W) {i : Nat} (hi : i < W.length) {left : Lit → Bool} (hl : left (keyL W[i].1) = true) :
    wsum R k m (doneW (fun z => left z && !z.sameKey (keyL W[i].1)) W) = wsum R k m (doneW left W) + W[i].2 * paths R k m W[i].1 := by
  have hA : ∀ p ∈ W.take i, p.1 ≠ W[i].1 := fun p hp e => by
    obtain ⟨j, hj, rfl⟩ := List.getElem_of_mem hp
    rw [List.length_take] at hj
    rw [List.getElem_take] at e
    have := hap.eq (show j < W.length by omega) hi e; omega
  have hB : ∀ p ∈ W.drop (i + 1), p.1 ≠ W[i].1 := fun p hp e => by
    obtain ⟨j, hj, rfl⟩ := List.getElem_of_mem hp
    rw [List.length_drop] at hj
    rw [List.getElem_drop] at e
    have := hap.eq (show i + 1 + j < W.length by omega) hi e; omega
  have h := doneW_stepX R k m hA hB hl
  have e : W.take i ++ W[i] :: W.drop (i + 1) = W := by rw [← List.drop_eq_getElem_cons hi, List.take_append_drop]
  rwa [e] at h
/-- behind the ways that have come up, and j letters of the next one -/
structure WayG (R : List RulD) (k : Nat) (T : WayD) (j : Nat) (e : ByteArray) (c : Nat) (V : WayD) : Prop where
  eq : ∀ m, wsum R k m V = wsum R k (m + 1) T + c * pTo R k m e j
  pos : PosW V
  short : ShortW (keepR R) V
theorem WayG.start (R : List RulD) (k : Nat) (e : ByteArray) (c : Nat) : WayG R k [] 0 e c [] :=
  ⟨fun m => by rw [pTo_zero]; simp [wsum], fun p hp => (by cases hp), fun p hp => (by cases hp)⟩
theorem WayG.no {R : List RulD} {k : Nat} {T V : WayD} {j c : Nat} {e : ByteArray} (h : WayG R k T j e c V) (hx : okX R e j = false) : WayG R k T (j + 1) e c V :=
  ⟨fun m => by rw [pTo_no hx]; exact h.eq m, h.pos, h.short⟩
theorem WayG.old {R : List RulD} {k : Nat} {T V : WayD} {j c a : Nat} {e : ByteArray} (h : WayG R k T j e c V) (hx : okX R e j = true) (ha : a < V.length) (he : V[a].1 = nxtX R e j) : WayG R k T (j + 1) e c (addW V a c) :=
  ⟨fun m => by rw [wsum_add ha, he, h.eq m, pTo_yes hx, Nat.mul_add]; omega, h.pos.add _ _, h.short.add _ _⟩
theorem WayG.new {R : List RulD} {k : Nat} {T V : WayD} {j c : Nat} {e : ByteArray} (h : WayG R k T j e c V) (hx : okX R e j = true) (hc : 1 ≤ c) : WayG R k T (j + 1) e c (V ++ [(nxtX R e j, c)]) :=
  ⟨fun m => by rw [wsum_app, wsum_one, h.eq m, pTo_yes hx, Nat.mul_add]; omega, h.pos.push hc, h.short.push (cutR_size _ _)⟩
theorem WayG.other {R : List RulD} {k : Nat} {T V : WayD} {e e' : ByteArray} {c c' : Nat} (h : WayG R k T 0 e c V) : WayG R k T 0 e' c' V := ⟨fun m => by rw [h.eq m, pTo_zero, pTo_zero]; omega, h.pos, h.short⟩
theorem WayG.row {R : List RulD} {k : Nat} {W V : WayD} (hap : ApartW W) {i : Nat} (hi : i < W.length) {left : Lit → Bool} (hl : left (keyL W[i].1) = true) (h : WayG R k (doneW left W) k W[i].1 W[i].2 V) (e : ByteArray) (c : Nat) :
    WayG R k (doneW (fun z => left z && !z.sameKey (keyL W[i].1)) W) 0 e c V :=
  ⟨fun m => by rw [h.eq m, doneW_step R k (m + 1) hap hi hl, paths_succ, pTo_zero]; omega, h.pos, h.short⟩
theorem WayG.done {R : List RulD} {k n : Nat} {W V : WayD} {e : ByteArray} {c : Nat} (hW : WayAt R k n W) {left : Lit → Bool} (hl : ∀ kl, left kl = false) (h : WayG R k (doneW left W) 0 e c V) : WayAt R k (n + 1) V :=
  ⟨fun m => by rw [h.eq m, doneW_end hl, hW.eq, pTo_zero, show n + (m + 1) = n + 1 + m by omega]; omega, h.pos, h.short⟩
theorem WayG.le {R : List RulD} {k n : Nat} (hk : k ≤ 4) {W V : WayD} (hap : ApartW W) {i j : Nat} (hW : WayAt R k n W) (hi : i < W.length) {left : Lit → Bool} (hl : left (keyL W[i].1) = true) (hj : j ≤ k) (h : WayG R k (doneW left W) j W[i].1 W[i].2 V) : wsum R k 0 V ≤ 4 ^ (n + 1) := by
  rw [h.eq 0]
  have h1 := doneW_step R k (0 + 1) hap hi hl
  have h0 := doneW_le R k (0 + 1) (fun z => left z && !z.sameKey (keyL W[i].1)) W
  rw [h1, paths_succ] at h0
  have h2 := pTo_mono R k 0 W[i].1 hj
  have h3 : W[i].2 * pTo R k 0 W[i].1 j ≤ W[i].2 * pTo R k 0 W[i].1 k := Nat.mul_le_mul_left _ h2
  have h4 := hW.eq (0 + 1)
  have h5 := paths_le (R := R) hk (n + (0 + 1)) ⟨#[]⟩
  rw [← h4] at h5
  have h6 : n + (0 + 1) = n + 1 := by omega
  rw [h6] at h5
  omega
theorem WayG.le0 {R : List RulD} {k n : Nat} (hk : k ≤ 4) {W V : WayD} (hW : WayAt R k n W) {left : Lit → Bool} {e : ByteArray} {c : Nat} (h : WayG R k (doneW left W) 0 e c V) : wsum R k 0 V ≤ 4 ^ (n + 1) := by
  rw [h.eq 0, pTo_zero]
  have h0 := doneW_le R k (0 + 1) left W
  have h4 := hW.eq (0 + 1)
  have h5 := paths_le (R := R) hk (n + (0 + 1)) ⟨#[]⟩
  rw [← h4] at h5
  have h6 : n + (0 + 1) = n + 1 := by omega
  rw [h6] at h5
  omega
theorem paths0 (R : List RulD) (k : Nat) (e : ByteArray) : paths R k 0 e = 1 := rfl
end Go.Proofs.YtgoeadgpbidgiaaGreat
namespace Go.Proofs.YtgoeadgpbidgiaaGreat
open Go.RowKit
set_option linter.unusedVariables false
abbrev Wd := List UInt8
def lt97 (x : Nat) : UInt8 := UInt8.ofNat (97 + x)
/-- one of the words ends v -/
def endsL (L : List Wd) (v : Wd) : Bool := L.any fun r => r.isSuffixOf v
theorem endsL_iff {L : List Wd} {v : Wd} : endsL L v = true ↔ ∃ r ∈ L, r <:+ v := by simp [endsL, List.any_eq_true]
def okL (L : List Wd) (v : Wd) (x : Nat) : Bool := !endsL L (v ++ [lt97 x])
/-- the number of ways to go on by m letters -/
def pwA (L : List Wd) (k : Nat) : Nat → Wd → Nat
  | 0, _ => 1
  | m + 1, v => ((List.range k).map fun x => if okL L v x = true then pwA L k m (v ++ [lt97 x]) else 0).sum
theorem suf_snoc {p v : Wd} {x : UInt8} (h : p <:+ v ++ [x]) : p = [] ∨ ∃ p', p = p' ++ [x] ∧ p' <:+ v := by
  rcases List.eq_nil_or_concat p with rfl | ⟨p', y, rfl⟩
  · exact .inl rfl
  · right
    rw [List.concat_eq_append] at h ⊢
    obtain ⟨t, ht⟩ := h
    rw [← List.append_assoc] at ht
    have h1 := List.append_inj' ht rfl
    obtain ⟨h2, h3⟩ := h1
    simp only [List.cons.injEq, and_true] at h3
    exact ⟨p', by rw [h3], t, h2⟩
theorem snoc_suf {p v : Wd} (h : p <:+ v) (x : UInt8) : p ++ [x] <:+ v ++ [x] := by
  obtain ⟨t, rfl⟩ := h
  exact ⟨t, by simp⟩
/-- what a reader keeps: proper beginnings of the words -/
def inQ (L : List Wd) (q : Wd) : Prop := q = [] ∨ ∃ r ∈ L, ∃ y t, r = q ++ y :: t
theorem inQ_init {L : List Wd} {q : Wd} {x : UInt8} (h : inQ L (q ++ [x])) : inQ L q := by
  rcases h with h | ⟨r, hr, y, t, e⟩
  · simp at h
  · exact .inr ⟨r, hr, x, y :: t, by rw [e]; simp⟩
theorem keeps_ok {L : List Wd} (hne : ∀ r ∈ L, r ≠ []) {v s : Wd} (h : s <:+ v ∧ ∀ q, inQ L q → q <:+ v → q <:+ s) (x : Nat) : okL L v x = okL L s x := by
  unfold okL
  congr 1
  rw [Bool.eq_iff_iff, endsL_iff, endsL_iff]
  constructor
  · rintro ⟨r, hr, hs⟩
    rcases suf_snoc hs with rfl | ⟨p, rfl, hp⟩
    · exact absurd rfl (hne _ hr)
    · exact ⟨_, hr, snoc_suf (h.2 p (.inr ⟨_, hr, lt97 x, [], rfl⟩) hp) _⟩
  · rintro ⟨r, hr, hs⟩
    exact ⟨r, hr, hs.trans (snoc_suf h.1 _)⟩
theorem keeps_pw {L : List Wd} (hne : ∀ r ∈ L, r ≠ []) (k : Nat) : ∀ (m : Nat) {v s : Wd}, (s <:+ v ∧ ∀ q, inQ L q → q <:+ v → q <:+ s) → pwA L k m v = pwA L k m s
  | 0, v, s, _ => rfl
  | m + 1, v, s, h => by
    unfold pwA
    congr 1
    apply List.map_congr_left
    intro x _
    rw [keeps_ok hne h x]
    have := keeps_pw hne k m (v := v ++ [lt97 x]) (s := s ++ [lt97 x]) ⟨snoc_suf h.1 _, fun q hq hs => by
      rcases suf_snoc hs with rfl | ⟨p, rfl, hp⟩
      · exact List.nil_suffix
      · exact snoc_suf (h.2 p (inQ_init hq) hp) _⟩
    rw [this]
theorem sum_zero (l : List Nat) : (l.map fun _ => 0).sum = 0 := by
  induction l with
  | nil => rfl
  | cons a l ih => simp only [List.map_cons, List.sum_cons, ih]
theorem mem_sum {l : List Nat} {f : Nat → Nat} {x : Nat} (h : x ∈ l) : f x ≤ (l.map f).sum := by
  induction l with
  | nil => cases h
  | cons a l ih =>
    simp only [List.map_cons, List.sum_cons]
    rcases List.mem_cons.1 h with rfl | h
    · omega
    · have := ih h; omega
/-- how many of Q are in U -/
def cnt (Q : List Wd) (U : Wd → Bool) : Nat := (Q.filter U).length
/-- t, and what lies below it -/
def down (f : Wd → Nat) (t : Wd) : Wd → Bool := fun u => decide (f u < f t) || decide (u = t)
end Go.Proofs.YtgoeadgpbidgiaaGreat
namespace Go.Proofs.YtgoeadgpbidgiaaGreat
open Go.RowKit
set_option linter.unusedVariables false
theorem nodup_len {α : Type} [DecidableEq α] : ∀ {l m : List α}, l.Nodup → (∀ x ∈ l, x ∈ m) → l.length ≤ m.length
  | [], m, _, _ => Nat.zero_le _
  | a :: l, m, hn, h => by
    have h1 := List.nodup_cons.1 hn
    have ha := h a List.mem_cons_self
    have ih := nodup_len (m := m.erase a) h1.2 fun x hx => by
      have : x ≠ a := fun e => by subst e; exact h1.1 hx
      exact (List.mem_erase_of_ne this).2 (h x (List.mem_cons_of_mem _ hx))
    rw [List.length_erase_of_mem ha] at ih
    have : 0 < m.length := List.length_pos_of_mem ha
    simp only [List.length_cons]
    omega
def c4 (a b c d : Nat) : Nat := min (min (a * 27 + b * 9 + c * 3 + d) (b * 27 + c * 9 + d * 3 + a)) (min (c * 27 + d * 9 + a * 3 + b) (d * 27 + a * 9 + b * 3 + c))
def c3 (x y z : Nat) : Nat := if x = z then (if x = y then 1000 + x else 2000 + 10 * min x y + max x y) else if x = y then 9999 else if y = z then 9999 else 3000 + min (x * 16 + y * 4 + z) (min (y * 16 + z * 4 + x) (z * 16 + x * 4 + y))
def two (L : List Wd) : Nat := (L.filter fun r => r.length == 2).length
end Go.Proofs.YtgoeadgpbidgiaaGreat
