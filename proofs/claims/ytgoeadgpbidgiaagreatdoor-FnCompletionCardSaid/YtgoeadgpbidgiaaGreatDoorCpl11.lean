/-
  How many words avoid some words, if only finitely many do: a bound, by the states that a reader of such words needs.
-/
import Derived.Test.YtgoeadgpbidgiaaGreatDoorCpl10
import Derived.Test.YtgoeadgpbidgiaaGreatDoorCpl08
import Derived.Test.YtgoeadgpbidgiaaGreatDoorCpl03
import Derived.Test.YtgoeadgpbidgiaaGreatDoorCpl01
namespace Go.Proofs.YtgoeadgpbidgiaaGreatDoor
open Go.RowKit
set_option linter.unusedVariables false
/-- rules that make a word less -/
def sysW (k : Int) (R : List RulD) : Prop := ((1 ≤ k ∧ k ≤ 4) ∧ ∀ r ∈ R, ruleP k r) ∧ ∀ r ∈ R, lessS r.2 r.1 = true
theorem sysP.weak {k : Int} {R : List RulD} (h : sysP k R) : sysW k R := ⟨⟨h.1.1.1, h.1.2⟩, h.2⟩
/-- a step of an ordered system makes a word less -/
theorem step_lessW {k : Int} {R : List RulD} (hs : sysW k R) {w : ByteArray} {s : Nat × Nat} (hm : s ∈ stepsF R w) : rk (applyF R w s).data.toList < rk w.data.toList := by
  obtain ⟨h1, h2, h3⟩ := mem_stepsF.1 hm
  have hr := nthR_mem h2
  have hp := hs.1.2 _ hr
  have hl := hs.2 _ hr
  unfold applyF
  rw [replF_list]
  conv => rhs; rw [split_at h3]
  exact rk_swap (lw_of hp.1.1.1) (lw_of hp.1.1.2) hl
theorem step_sizeW {k : Int} {R : List RulD} (hs : sysW k R) {w : ByteArray} {s : Nat × Nat} (hm : s ∈ stepsF R w) : (applyF R w s).size ≤ w.size ∧ s.2 + (nthR R s.1).1.size ≤ w.size := by
  obtain ⟨h1, h2, h3⟩ := mem_stepsF.1 hm
  have hr := nthR_mem h2
  have hp := hs.1.2 _ hr
  have hl := hs.2 _ hr
  have hf := preAt_fits h3 (by have := hp.2; omega)
  have hle : (nthR R s.1).2.size ≤ (nthR R s.1).1.size := by
    unfold lessS ltW at hl
    have e1 : (blW (nthR R s.1).1).length = (nthR R s.1).1.size := rfl
    have e2 : (blW (nthR R s.1).2).length = (nthR R s.1).2.size := rfl
    rcases of_decide_eq_true hl with h | ⟨h, _⟩ <;> omega
  refine ⟨?_, hf⟩
  unfold applyF
  rw [replF_size hf]
  omega
theorem step_wordW {k : Int} {R : List RulD} (hs : sysW k R) {w : ByteArray} (hw : wordOkB k w = true) {s : Nat × Nat} (hm : s ∈ stepsF R w) : wordOkB k (applyF R w s) = true := by
  obtain ⟨h1, h2, h3⟩ := mem_stepsF.1 hm
  have hp := hs.1.2 _ (nthR_mem h2)
  obtain ⟨a1, a2, a3⟩ := wordOk_iff.1 hw
  obtain ⟨b1, b2, b3⟩ := wordOk_iff.1 hp.1.1.2
  refine wordOk_iff.2 ⟨a1, Nat.le_trans (step_sizeW hs hm).1 a2, fun y hy => ?_⟩
  unfold applyF at hy
  rw [replF_list] at hy
  rcases List.mem_append.1 hy with hy | hy
  · exact a3 y ((List.take_sublist _ _).subset hy)
  rcases List.mem_append.1 hy with hy | hy
  · exact b3 y hy
  · exact a3 y ((List.drop_sublist _ _).subset hy)
theorem NormIs.exW {k : Int} {R : List RulD} (hs : sysW k R) : ∀ (n : Nat) (w : ByteArray), rk w.data.toList < n → wordOkB k w = true → ∃ x, NormIs R w x ∧ wordOkB k x = true
  | 0, w, h, _ => by omega
  | n + 1, w, h, hw => by
    cases hh : (stepsF R w).head? with
    | none => exact ⟨w, .done hh, hw⟩
    | some s =>
      have hm := head_mem hh
      have h1 := step_lessW hs hm
      obtain ⟨x, hx, hx2⟩ := NormIs.exW hs n (applyF R w s) (by omega) (step_wordW hs hw hm)
      exact ⟨x, .step hh hx, hx2⟩
theorem NormIs.wordW {k : Int} {R : List RulD} (hs : sysW k R) {w x : ByteArray} (h : NormIs R w x) (hw : wordOkB k w = true) : wordOkB k x = true := by
  obtain ⟨y, h1, h2⟩ := NormIs.exW hs _ w (Nat.lt_succ_self _) hw
  rw [h.uniq h1]; exact h2
theorem left8W {k : Int} {R : List RulD} (hs : sysW k R) (r : Nat) : (nthR R r).1.size ≤ 8 := by
  by_cases h : r < R.length
  · exact (hs.1.2 _ (nthR_mem h)).1.2.1
  · rw [nthR_dflt h]; exact Nat.zero_le _
theorem apply_okW {k : Int} {R : List RulD} (hs : sysW k R) {w0 : ByteArray} (hw : w0.size ≤ 16) {s : Nat × Nat} (hm : s ∈ stepsF R w0) : s.2 + (nthR R s.1).1.size ≤ w0.size ∧ w0.size - (nthR R s.1).1.size + (nthR R s.1).2.size ≤ 16 := by
  have h := step_sizeW hs hm
  have h2 := h.1
  unfold applyF at h2
  rw [replF_size h.2] at h2
  exact ⟨h.2, by omega⟩
set_option maxRecDepth 100000 in
set_option maxHeartbeats 2000000 in
theorem implFirstStep_w (k : Int) (R : List RulD) (a : Option Addr) (cap : Nat) (w0 : ByteArray) (w : World) (hl : RulesIn w a R) (hs : sysW k R) (h12 : R.length ≤ 13) (hw : w0.size ≤ 16) :
    Calls Tryz.prog 88 #[.agg #[.int .i64 k, .slice a R.length cap], .string w0] w (RetFS R w0 w) := by
  have h8 := left8W hs
  have HL := Lib.hid hl
  have HA2 := Lib.hid (fun o o2 => Below.now (alloc_belowS w o) (alloc_belowS (w.alloc o) o2))
  have e1 : (w.alloc (.cells #[.int .i64 k, .slice a R.length cap] 33)).heap.size = w.heap.size + 1 := by simp
  have HBX := Lib.hid (fun W2 (h : Below ((w.alloc (.cells #[.int .i64 k, .slice a R.length cap] 33)).alloc (.cells #[.int .i64 0, .int .i64 0] 116)).heap.size ((w.alloc (.cells #[.int .i64 k, .slice a R.length cap] 33)).alloc (.cells #[.int .i64 0, .int .i64 0] 116)) W2) => And.intro (box_two (Below.now (alloc_belowS (w.alloc (.cells #[.int .i64 k, .slice a R.length cap] 33)) _) h)) (box_facts h))
  rw [e1] at HBX
  have HW1 : Hid (Below w.heap.size w ((w.alloc (.cells #[.int .i64 k, .slice a R.length cap] 33)).alloc (.cells #[.int .i64 0, .int .i64 0] 116))) := Lib.hid (HA2.out _ _)
  have HL1 := Lib.hid (HL.out.later HW1.out)
  clear hl hs e1
  go_enter Tryz.func88, Tryz.ntmps88
  go_wp2_with fail
  generalize (w.alloc (.cells #[.int .i64 k, .slice a R.length cap] 33)).alloc (.cells #[.int .i64 0, .int .i64 0] 116) = w1 at *
  go_loopw [11] (fun vi wr => ∃ i : Nat, i ≤ w0.size ∧ vi = .int .i64 (i : Nat) ∧ Hid (stTo R w0 i 0 = []) ∧ Below w1.heap.size w1 wr) (fun vi _ => w0.size - (intOf vi).toNat)
  case atStart => exact ⟨0, Nat.zero_le _, rfl, Lib.hid rfl, Below.refl _ _⟩
  case round =>
    obtain ⟨i, hi, rfl, HNO, hbw⟩ := hrel
    have HB := Lib.hid hbw
    obtain ⟨⟨s0, s1⟩, ⟨b0, b1⟩, f0, f1⟩ := HBX.out wr hbw
    clear hbw
    by_cases hlt : i < w0.size
    · have HXT := Lib.hid (stTo_next R w0 i)
      go_wp2_with fail
      generalize hW : wr = wr0 at *
      clear hW s0 s1 b0 b1 f0 f1
      go_loopw [17] (fun vr wr => ∃ r : Nat, r ≤ R.length ∧ vr = .int .i64 (r : Nat) ∧ Hid (stTo R w0 i r = []) ∧ Below w1.heap.size w1 wr) (fun vr _ => R.length - (intOf vr).toNat)
      case atStart => exact ⟨0, Nat.zero_le _, rfl, HNO, HB.out⟩
      case round =>
        clear HB HNO
        obtain ⟨r, hr, rfl, HNO, hbw⟩ := hrel
        by_cases hlr : r < R.length
        · obtain ⟨b, off, rfl, hb, k0, k1⟩ := rule_at HL1.out hbw hlr
          have hl8 := h8 r
          have HY := Lib.hid (fun h => first_at (R := R) (w := w0) (i := i) (k := r) hlt hlr HNO.out h)
          have HN := Lib.hid (fun h => stTo_none (R := R) (w := w0) (i := i) (k := r) HNO.out h)
          have HHP := Lib.hid (fun W => Tryz.strings_HasPrefix (w0.extract i w0.size) (nthR R r).1 W)
          rw [preAt_hp] at HHP
          have x3 : (i : Int) ≤ (w0.size : Int) := by omega
          have x4 : i ≤ w0.size := by omega
          have HB := Lib.hid hbw
          clear hbw
          generalize (nthR R r).1 = l at *
          generalize (nthR R r).2 = q at *
          go_wp2_with fail
          have HB5 := Lib.hid (Below.now HB.out (alloc_belowS wr (.cells #[.string l, .string q] 39)))
          have hcb := alloc_at wr (.cells #[.string l, .string q] 39)
          have hc0 := (sys_cells hcb).1
          clear k0 k1 hcb
          generalize hg : wr.heap.size = g at *
          generalize wr.alloc (.cells #[.string l, .string q] 39) = w5 at *
          cases hp : preAt w0 i l
          · have HNX := Lib.hid (HN.out hp)
            rw [hp] at HHP
            clear hp HY HN
            go_quiet ((go_at_call 134; refine (HHP.out _).mono ?_; rintro e w' ⟨rfl, rfl⟩; exact ⟨rfl, ⟨_, rfl⟩⟩))
            have HB6 := Lib.hid (Below.now HB5.out (below_drewN (Below.refl _ _) nq))
            go_wp2_with fail
            go_roundw
            case rel => exact ⟨r + 1, by omega, by go_num, HNX, HB6.out⟩
            case measure => simp [intOf]; omega
          · have HYX := Lib.hid (HY.out hp)
            rw [hp] at HHP
            clear hp HY HN
            go_quiet ((go_at_call 134; refine (HHP.out _).mono ?_; rintro e w' ⟨rfl, rfl⟩; exact ⟨rfl, ⟨_, rfl⟩⟩))
            have HB6 := Lib.hid (Below.now HB5.out (below_drewN (Below.refl _ _) nq))
            obtain ⟨_, ⟨b0, b1⟩, f0, f1⟩ := HBX.out _ HB6.out
            have HW6 := Lib.hid (Below.now HW1.out HB6.out)
            clear hc0
            go_wp2_with fail
            refine bodyPost_ret (v := .tuple #[.agg #[.int .i64 (r : Nat), .int .i64 (i : Nat)], .bool true]) ?_ rfl ?_
            · simp [results, Tryz.results88, go_sem, b0, b1]
            · exact ⟨(HW6.out.setCell (show w.heap.size ≤ w.heap.size + 1 by omega) _).setCell (show w.heap.size ≤ w.heap.size + 1 by omega) _, .inl ⟨(r, i), HYX.out, rfl⟩⟩
        · obtain rfl : r = R.length := by omega
          have HN2 : Hid (stTo R w0 (i + 1) 0 = []) := Lib.hid (by rw [← HXT.out]; exact HNO.out)
          go_wp2_with fail
          go_roundw
          case rel => exact ⟨i + 1, by omega, by go_num, HN2, hbw⟩
          case measure => simp [intOf]; omega
    · obtain rfl : i = w0.size := by omega
      have HHD : Hid ((stepsF R w0).head? = none) := Lib.hid (by rw [← stTo_done, HNO.out]; rfl)
      have HW6 := Lib.hid (Below.now HW1.out HB.out)
      go_wp2_with fail
      refine bodyPost_ret (v := .tuple #[.agg #[.int .i64 0, .int .i64 0], .bool false]) ?_ rfl ?_
      · simp [results, Tryz.results88, go_sem, b0, b1]
      · exact ⟨(HW6.out.setCell (show w.heap.size ≤ w.heap.size + 1 by omega) _).setCell (show w.heap.size ≤ w.heap.size + 1 by omega) _, .inr ⟨HHD.out, rfl⟩⟩
set_option maxRecDepth 100000 in
set_option maxHeartbeats 2000000 in
theorem implApply_w (k : Int) (R : List RulD) (a : Option Addr) (cap : Nat) (w0 : ByteArray) (x y : Nat) (w : World) (hl : RulesIn w a R) (hs : sysW k R) (h12 : R.length ≤ 13) (hw : w0.size ≤ 16) (hm : (x, y) ∈ stepsF R w0) :
    Calls Tryz.prog 89 #[.agg #[.int .i64 k, .slice a R.length cap], .string w0, .agg #[.int .i64 (x : Nat), .int .i64 (y : Nat)]] w fun e w' => e = .returned (.tuple #[.string (applyF R w0 (x, y)), .bool true]) ∧ Below w.heap.size w w' := by
  have HL := Lib.hid hl
  obtain ⟨hm1, hm2, _⟩ := mem_stepsF.1 hm
  have hm2 : x < R.length := hm2
  have hok := apply_okW hs hw hm
  have h8 := left8W hs x
  have h8b : (nthR R x).2.size ≤ 8 := (hs.1.2 _ (nthR_mem hm2)).1.2.2
  have HRA := Lib.hid (fun W => implReplaceAt_ok w0 (nthR R x).2 y (nthR R x).1.size W hok.1 hok.2 (by omega) (by omega))
  have HAP : Hid (applyF R w0 (x, y) = replF w0 y (nthR R x).1.size (nthR R x).2) := Lib.hid rfl
  have HA2 := Lib.hid (fun o o2 => Below.now (alloc_belowS w o) (alloc_belowS (w.alloc o) o2))
  have e1 : (w.alloc (.cells #[.int .i64 k, .slice a R.length cap] 33)).heap.size = w.heap.size + 1 := by simp
  have HBX := Lib.hid (fun W2 (h : Below ((w.alloc (.cells #[.int .i64 k, .slice a R.length cap] 33)).alloc (.cells #[.int .i64 (x : Nat), .int .i64 (y : Nat)] 116)).heap.size ((w.alloc (.cells #[.int .i64 k, .slice a R.length cap] 33)).alloc (.cells #[.int .i64 (x : Nat), .int .i64 (y : Nat)] 116)) W2) => And.intro (box_two (Below.now (alloc_belowS (w.alloc (.cells #[.int .i64 k, .slice a R.length cap] 33)) _) h)) (box_facts h).1)
  rw [e1] at HBX
  have HW1 : Hid (Below w.heap.size w ((w.alloc (.cells #[.int .i64 k, .slice a R.length cap] 33)).alloc (.cells #[.int .i64 (x : Nat), .int .i64 (y : Nat)] 116))) := Lib.hid (HA2.out _ _)
  obtain ⟨rb, ro, ra, rlt, k0, k1⟩ := rule_at HL.out HW1.out hm2
  subst ra
  obtain ⟨⟨s0, s1⟩, b0, b1⟩ := HBX.out _ (Below.refl _ _)
  have s2 := fun o => (HBX.out _ (alloc_belowS _ o)).2.1
  have s3 := fun o => (HBX.out _ (alloc_belowS _ o)).2.2
  rw [← HAP.out] at HRA
  clear hl hs e1 hm hok HBX HA2
  generalize (nthR R x).1 = l at *
  generalize (nthR R x).2 = q at *
  generalize applyF R w0 (x, y) = v at *
  go_enter Tryz.func89, Tryz.ntmps89
  go_wp2_with fail
  generalize (w.alloc (.cells #[.int .i64 k, .slice (some ⟨rb, ro, none⟩) R.length cap] 33)).alloc (.cells #[.int .i64 (x : Nat), .int .i64 (y : Nat)] 116) = w1 at *
  refine (HRA.out _).mono ?_
  rintro e w9 ⟨rfl, hb9⟩
  have HB9 := Lib.hid (Below.now HW1.out (Below.now (alloc_belowS w1 _) hb9))
  clear hb9 s0 s1 s2 s3 b0 b1 k0 k1
  go_wp2_with fail
  go_ret2
  exact ⟨rfl, HB9.out⟩
set_option maxRecDepth 100000 in
set_option maxHeartbeats 2000000 in
theorem implNormal_w (k : Int) (R : List RulD) (a : Option Addr) (cap : Nat) (w0 : ByteArray) (w : World) (hl : RulesIn w a R) (hs : sysW k R) (h12 : R.length ≤ 13) (hw : wordOkB k w0 = true) :
    Calls Tryz.prog 45 #[.agg #[.int .i64 k, .slice a R.length cap], .string w0] w (RetNo R w0 w) := by
  have HL := Lib.hid hl
  have HS := Lib.hid hs
  have HW := Lib.hid hw
  have HFS := Lib.hid (fun v W h (hv : v.size ≤ 16) => (implFirstStep_w k R a cap v W h hs h12 hv).mono (fun _ _ h => h.form))
  have HAS := Lib.hid (fun v x y W h (hv : v.size ≤ 16) hm => implApply_w k R a cap v x y W h hs h12 hv hm)
  have hb1 := alloc_belowS w (.cells #[.int .i64 k, .slice a R.length cap] 33)
  have HBX := Lib.hid (fun W2 (h : Below (w.alloc (.cells #[.int .i64 k, .slice a R.length cap] 33)).heap.size (w.alloc (.cells #[.int .i64 k, .slice a R.length cap] 33)) W2) => box_two h)
  have HW1 := Lib.hid hb1
  have h16 := (wdP_of hw).len
  clear hl hs hw hb1
  go_enter Tryz.func45, Tryz.ntmps45
  go_wp2_with fail
  generalize w.alloc (.cells #[.int .i64 k, .slice a R.length cap] 33) = w1 at *
  refine (HFS.out w0 w1 (HL.out.later HW1.out) h16).mono ?_
  rintro e w2 ⟨x0, y0, b0, hfs, rfl, hb2⟩
  have HB2 := Lib.hid hb2
  have HFP := Lib.hid hfs
  have HBS0 : Hid (BoxS w2.heap.size x0 y0 (w2.alloc (.cells #[.int .i64 (x0 : Nat), .int .i64 (y0 : Nat)] 116))) := Lib.hid (alloc_at _ _)
  have HB3 : Hid (Below w1.heap.size w1 (w2.alloc (.cells #[.int .i64 (x0 : Nat), .int .i64 (y0 : Nat)] 116))) := Lib.hid (Below.now hb2 (alloc_belowS _ _))
  have hlt0 : w1.heap.size ≤ w2.heap.size := hb2.size
  clear hfs hb2
  go_wp2_with fail
  go_loopw [1, 5, 6] (fun vw vp vb wr => ∃ (v : ByteArray) (g x y : Nat) (b : Bool), vw = .string v ∧ vp = .pointer (some ⟨g, 0, none⟩) ∧ vb = .bool b ∧ w1.heap.size ≤ g ∧ Hid (wordOkB k v = true) ∧ Hid (∀ z, NormIs R v z → NormIs R w0 z) ∧ Hid (FsP R v x y b) ∧ Hid (BoxS g x y wr) ∧ Hid (Below w1.heap.size w1 wr)) (fun vw _ _ _ => rkV vw)
  case atStart => exact ⟨w0, w2.heap.size, x0, y0, b0, rfl, rfl, rfl, hlt0, HW, Lib.hid (fun z h => h), HFP, HBS0, HB3⟩
  case round =>
    clear HBS0 HB3 HFP HB2 hlt0
    obtain ⟨v, g, x, y, b, rfl, rfl, rfl, hg, HV, HNI, HFP, HBS, HB⟩ := hrel
    obtain ⟨s0, s1⟩ := HBX.out wr HB.out
    obtain ⟨⟨c0, c1⟩, f0, f1⟩ := HBS.out.facts
    have hv16 := (wdP_of HV.out).len
    rcases HFP.out with ⟨rfl, hh⟩ | ⟨rfl, hh, rfl, rfl⟩
    · have hm := head_mem hh
      have HLESS := Lib.hid (step_lessW HS.out hm)
      have HWD : Hid (wordOkB k (applyF R v (x, y)) = true) := Lib.hid (step_wordW HS.out HV.out hm)
      have HNI2 : Hid (∀ z, NormIs R (applyF R v (x, y)) z → NormIs R w0 z) := Lib.hid (fun z hz => HNI.out z (.step hh hz))
      have HAC := Lib.hid (HAS.out v x y wr (HL.out.later (Below.now HW1.out HB.out)) hv16 hm)
      have hv2 := (wdP_of HWD.out).len
      have HFC := Lib.hid (fun W h => HFS.out (applyF R v (x, y)) W h hv2)
      clear hh hm HFP
      generalize applyF R v (x, y) = v2 at *
      go_wp2_with fail
      refine HAC.out.mono ?_
      rintro e w3 ⟨rfl, hb3⟩
      have HBN := Lib.hid (Below.now HB.out hb3)
      obtain ⟨⟨d0, d1⟩, _, _⟩ := (HBS.out.later hb3).facts
      have t0 := fun o => (HBX.out _ (Below.now HBN.out (alloc_belowS w3 o))).1
      have t1 := fun o => (HBX.out _ (Below.now HBN.out (alloc_belowS w3 o))).2
      have HLW := Lib.hid (fun o => HL.out.later (Below.now HW1.out (Below.now HBN.out (alloc_belowS w3 o))))
      clear hb3 s0 s1 c0 c1 f0 f1 HAC HBS
      go_wp2_with fail
      refine (HFC.out _ (HLW.out _)).mono ?_
      rintro e w4 ⟨x2, y2, b2, hfs, rfl, hb4⟩
      have HFP2 := Lib.hid hfs
      have hbx : BoxS w3.heap.size x y w4 := (hb4.block _ (by simp)).trans (alloc_at _ _)
      obtain ⟨⟨k0, k1⟩, m0, m1⟩ := hbx.facts
      have HBS2 := Lib.hid (hbx.set x2 y2)
      have hsz : w1.heap.size ≤ w3.heap.size := HBN.out.size
      have HB4 : Hid (Below w1.heap.size w1 ((w4.setCell ⟨w3.heap.size, 0, none⟩ (.int .i64 (x2 : Nat))).setCell ⟨w3.heap.size, 1, none⟩ (.int .i64 (y2 : Nat)))) := Lib.hid (((Below.now HBN.out (Below.now (alloc_belowS w3 _) hb4)).setCell hsz _).setCell hsz _)
      clear hfs hb4 hbx d0 d1 t0 t1 HLW HFC
      go_wp2_with fail
      go_roundw
      case rel => exact ⟨v2, w3.heap.size, x2, y2, b2, rfl, rfl, rfl, hsz, HWD, HNI2, HFP2, HBS2, HB4⟩
      case measure => exact HLESS.out
    · have F : Hid (RetNo R w0 w (.returned (.string v)) wr) := Lib.hid ⟨v, HNI.out v (.done hh), rfl, Below.now HW1.out HB.out⟩
      clear hh s0 s1 c0 c1 f0 f1
      go_wp2_with fail
      go_ret
      exact F.out
end Go.Proofs.YtgoeadgpbidgiaaGreatDoor
namespace Go.Proofs.YtgoeadgpbidgiaaGreatDoor
open Go.RowKit
set_option linter.unusedVariables false
open Classical in
/-- the normal form of a word, if there is one -/
noncomputable def nfC (R : List RulD) (u : ByteArray) : ByteArray := if h : ∃ x, NormIs R u x then Classical.choose h else ⟨#[]⟩
theorem nfC_eq {R : List RulD} {u x : ByteArray} (h : NormIs R u x) : nfC R u = x := by
  have h1 : ∃ x, NormIs R u x := ⟨x, h⟩
  unfold nfC
  rw [dif_pos h1]
  exact (Classical.choose_spec h1).uniq h
/-- the place of a word among words -/
def idxTo (L : List ByteArray) (v : ByteArray) (j : Nat) : Option Nat := (List.range j).find? fun i => (nthS L i).toList == v.toList
def idxB (L : List ByteArray) (v : ByteArray) : Int := match idxTo L v L.length with | some i => (i : Int) | none => -1
theorem idxTo_zero (L : List ByteArray) (v : ByteArray) : idxTo L v 0 = none := rfl
theorem idxTo_succ {L : List ByteArray} {v : ByteArray} {j : Nat} (h : idxTo L v j = none) (hne : ((nthS L j).toList == v.toList) = false) : idxTo L v (j + 1) = none := by
  unfold idxTo at *
  rw [List.range_succ, List.find?_append, h]
  simp [hne]
theorem idxB_at {L : List ByteArray} {v : ByteArray} {j : Nat} (h : idxTo L v j = none) (hj : j < L.length) (he : ((nthS L j).toList == v.toList) = true) : idxB L v = (j : Int) := by
  have h1 : idxTo L v (j + 1) = some j := by
    unfold idxTo at *
    rw [List.range_succ, List.find?_append, h]
    simp [he]
  have h2 : idxTo L v L.length = some j := by
    obtain ⟨d, hd⟩ := Nat.exists_eq_add_of_le hj
    rw [hd]
    unfold idxTo at *
    rw [List.range_add, List.find?_append, show j.succ = j + 1 from rfl, h1]
    rfl
  unfold idxB
  rw [h2]
theorem idxB_none {L : List ByteArray} {v : ByteArray} {j : Nat} (h : idxTo L v j = none) (hj : ¬ j < L.length) (hl : j ≤ L.length) : idxB L v = -1 := by
  obtain rfl : j = L.length := by omega
  unfold idxB
  rw [h]
/-- the entries of a row of the table, up to a column -/
noncomputable def rowTo (R : List RulD) (L : List ByteArray) (i j : Nat) : List Int := (List.range j).map fun b => idxB L (nfC R (nthS L i ++ nthS L b))
/-- the entries of the rows before i, and of the row i up to a column -/
noncomputable def prodTo (R : List RulD) (L : List ByteArray) (i j : Nat) : List Int := ((List.range i).flatMap fun a => rowTo R L a L.length) ++ rowTo R L i j
noncomputable def prodF (R : List RulD) (L : List ByteArray) : List Int := (List.range L.length).flatMap fun a => rowTo R L a L.length
theorem prodTo_start (R : List RulD) (L : List ByteArray) : prodTo R L 0 0 = [] := rfl
theorem prodTo_step (R : List RulD) (L : List ByteArray) (i j : Nat) : prodTo R L i (j + 1) = prodTo R L i j ++ [idxB L (nfC R (nthS L i ++ nthS L j))] := by
  unfold prodTo rowTo
  rw [List.range_succ, List.map_append, List.append_assoc]
  rfl
theorem prodTo_next (R : List RulD) (L : List ByteArray) (i : Nat) : prodTo R L i L.length = prodTo R L (i + 1) 0 := by
  unfold prodTo
  rw [List.range_succ, List.flatMap_append]
  simp [rowTo]
theorem prodTo_done (R : List RulD) (L : List ByteArray) : prodTo R L L.length 0 = prodF R L := by
  unfold prodTo prodF
  simp [rowTo]
theorem prodTo_len (R : List RulD) (L : List ByteArray) (i j : Nat) : (prodTo R L i j).length = i * L.length + j := by
  unfold prodTo
  rw [List.length_append]
  have h : ∀ n, ((List.range n).flatMap fun a => rowTo R L a L.length).length = n * L.length := fun n => by
    induction n with
    | zero => simp
    | succ n ih =>
      rw [List.range_succ, List.flatMap_append, List.length_append, ih, Nat.succ_mul]
      simp [rowTo]
  rw [h]
  simp [rowTo]
theorem prodTo_few {R : List RulD} {L : List ByteArray} (h : L.length ≤ 40) {i j : Nat} (hi : i ≤ L.length) (hj : j ≤ L.length) : (prodTo R L i j).length ≤ 1640 := by
  rw [prodTo_len]
  have : i * L.length ≤ 40 * 40 := Nat.mul_le_mul (by omega) h
  omega
end Go.Proofs.YtgoeadgpbidgiaaGreatDoor
namespace Go.Proofs.YtgoeadgpbidgiaaGreatDoor
open Go.RowKit
set_option linter.unusedVariables false
abbrev Wd := List UInt8
def lt97 (x : Nat) : UInt8 := UInt8.ofNat (97 + x)
theorem lt97_inj {x y : Nat} (hx : x < 4) (hy : y < 4) (h : lt97 x = lt97 y) : x = y := by
  have h1 := congrArg UInt8.toNat h
  unfold lt97 at h1
  simp at h1
  omega
/-- one of the words ends v -/
def endsL (L : List Wd) (v : Wd) : Bool := L.any fun r => r.isSuffixOf v
theorem endsL_iff {L : List Wd} {v : Wd} : endsL L v = true ↔ ∃ r ∈ L, r <:+ v := by simp [endsL, List.any_eq_true]
def okL (L : List Wd) (v : Wd) (x : Nat) : Bool := !endsL L (v ++ [lt97 x])
/-- the number of ways to go on by m letters -/
def pwA (L : List Wd) (k : Nat) : Nat → Wd → Nat
  | 0, _ => 1
  | m + 1, v => ((List.range k).map fun x => if okL L v x = true then pwA L k m (v ++ [lt97 x]) else 0).sum
theorem sum_le {l : List Nat} {f g : Nat → Nat} (h : ∀ x ∈ l, f x ≤ g x) : (l.map f).sum ≤ (l.map g).sum := by
  induction l with
  | nil => exact Nat.le_refl _
  | cons a l ih =>
    have h1 := h a List.mem_cons_self
    have h2 := ih fun x hx => h x (List.mem_cons_of_mem _ hx)
    simp only [List.map_cons, List.sum_cons]
    omega
theorem suf_snoc {p v : Wd} {x : UInt8} (h : p <:+ v ++ [x]) : p = [] ∨ ∃ p', p = p' ++ [x] ∧ p' <:+ v := by
  rcases List.eq_nil_or_concat p with rfl | ⟨p', y, rfl⟩
  · exact .inl rfl
  · right
    rw [List.concat_eq_append] at h ⊢
    obtain ⟨t, ht⟩ := h
    rw [← List.append_assoc] at ht
    have h1 := List.append_inj' ht rfl
    obtain ⟨h2, h3⟩ := h1
    simp only [List.cons.injEq, and_true] at h3
    exact ⟨p', by rw [h3], t, h2⟩
theorem snoc_suf {p v : Wd} (h : p <:+ v) (x : UInt8) : p ++ [x] <:+ v ++ [x] := by
  obtain ⟨t, rfl⟩ := h
  exact ⟨t, by simp⟩
theorem okL_mono {L : List Wd} {p v : Wd} (h : p <:+ v) {x : Nat} (hx : okL L v x = true) : okL L p x = true := by
  unfold okL at *
  cases hb : endsL L (p ++ [lt97 x])
  · rfl
  · obtain ⟨r, hr, hs⟩ := endsL_iff.1 hb
    have : endsL L (v ++ [lt97 x]) = true := endsL_iff.2 ⟨r, hr, hs.trans (snoc_suf h _)⟩
    rw [this] at hx
    cases hx
theorem pw_mono (L : List Wd) (k : Nat) : ∀ (m : Nat) {p v : Wd}, p <:+ v → pwA L k m v ≤ pwA L k m p
  | 0, p, v, _ => Nat.le_refl _
  | m + 1, p, v, h => sum_le fun x _ => by
    by_cases h1 : okL L v x = true
    · rw [if_pos h1, if_pos (okL_mono h h1)]
      exact pw_mono L k m (snoc_suf h _)
    · rw [if_neg h1]
      exact Nat.zero_le _
/-- what a reader keeps: proper beginnings of the words -/
def inQ (L : List Wd) (q : Wd) : Prop := q = [] ∨ ∃ r ∈ L, ∃ y t, r = q ++ y :: t
theorem inQ_init {L : List Wd} {q : Wd} {x : UInt8} (h : inQ L (q ++ [x])) : inQ L q := by
  rcases h with h | ⟨r, hr, y, t, e⟩
  · simp at h
  · exact .inr ⟨r, hr, x, y :: t, by rw [e]; simp⟩
/-- s is what is kept of v -/
def Keeps (L : List Wd) (v s : Wd) : Prop := inQ L s ∧ s <:+ v ∧ ∀ q, inQ L q → q <:+ v → q <:+ s
theorem keeps_ex (L : List Wd) : ∀ v : Wd, ∃ s, Keeps L v s
  | [] => ⟨[], .inl rfl, ⟨[], rfl⟩, fun q _ h => h⟩
  | a :: v => by
    by_cases h : inQ L (a :: v)
    · exact ⟨a :: v, h, ⟨[], rfl⟩, fun q _ h => h⟩
    · obtain ⟨s, h1, h2, h3⟩ := keeps_ex L v
      refine ⟨s, h1, h2.trans (List.suffix_cons _ _), fun q hq hs => ?_⟩
      rcases List.suffix_cons_iff.1 hs with rfl | hs
      · exact absurd hq h
      · exact h3 q hq hs
theorem keeps_ok {L : List Wd} (hne : ∀ r ∈ L, r ≠ []) {v s : Wd} (h : s <:+ v ∧ ∀ q, inQ L q → q <:+ v → q <:+ s) (x : Nat) : okL L v x = okL L s x := by
  unfold okL
  congr 1
  rw [Bool.eq_iff_iff, endsL_iff, endsL_iff]
  constructor
  · rintro ⟨r, hr, hs⟩
    rcases suf_snoc hs with rfl | ⟨p, rfl, hp⟩
    · exact absurd rfl (hne _ hr)
    · exact ⟨_, hr, snoc_suf (h.2 p (.inr ⟨_, hr, lt97 x, [], rfl⟩) hp) _⟩
  · rintro ⟨r, hr, hs⟩
    exact ⟨r, hr, hs.trans (snoc_suf h.1 _)⟩
theorem keeps_pw {L : List Wd} (hne : ∀ r ∈ L, r ≠ []) (k : Nat) : ∀ (m : Nat) {v s : Wd}, (s <:+ v ∧ ∀ q, inQ L q → q <:+ v → q <:+ s) → pwA L k m v = pwA L k m s
  | 0, v, s, _ => rfl
  | m + 1, v, s, h => by
    unfold pwA
    congr 1
    apply List.map_congr_left
    intro x _
    rw [keeps_ok hne h x]
    have := keeps_pw hne k m (v := v ++ [lt97 x]) (s := s ++ [lt97 x]) ⟨snoc_suf h.1 _, fun q hq hs => by
      rcases suf_snoc hs with rfl | ⟨p, rfl, hp⟩
      · exact List.nil_suffix
      · exact snoc_suf (h.2 p (inQ_init hq) hp) _⟩
    rw [this]
/-- all ways of less than N letters -/
def tot (L : List Wd) (k N : Nat) (v : Wd) : Nat := ((List.range N).map fun m => pwA L k m v).sum
theorem sum_add (l : List Nat) (f g : Nat → Nat) : (l.map fun x => f x + g x).sum = (l.map f).sum + (l.map g).sum := by
  induction l with
  | nil => rfl
  | cons a l ih => simp only [List.map_cons, List.sum_cons, ih]; omega
theorem sum_zero (l : List Nat) : (l.map fun _ => 0).sum = 0 := by
  induction l with
  | nil => rfl
  | cons a l ih => simp only [List.map_cons, List.sum_cons, ih]
theorem tot_succ (L : List Wd) (k N : Nat) (v : Wd) : tot L k (N + 1) v = 1 + ((List.range k).map fun x => if okL L v x = true then tot L k N (v ++ [lt97 x]) else 0).sum := by
  induction N with
  | zero =>
    have : ((List.range k).map fun x => if okL L v x = true then tot L k 0 (v ++ [lt97 x]) else 0).sum = 0 := by
      refine Eq.trans ?_ (sum_zero (List.range k))
      congr 1
      apply List.map_congr_left
      intro x _
      split <;> rfl
    rw [this]
    rfl
  | succ N ih =>
    have e : ∀ v, tot L k (N + 1) v = tot L k N v + pwA L k N v := fun v => by
      unfold tot
      rw [List.range_succ, List.map_append, List.sum_append]
      simp
    have e2 : tot L k (N + 1 + 1) v = tot L k (N + 1) v + pwA L k (N + 1) v := by
      unfold tot
      rw [List.range_succ (n := N + 1), List.map_append, List.sum_append]
      simp
    rw [e2, ih, Nat.add_assoc]
    congr 1
    have e3 : pwA L k (N + 1) v = ((List.range k).map fun x => if okL L v x = true then pwA L k N (v ++ [lt97 x]) else 0).sum := rfl
    rw [e3, ← sum_add]
    congr 1
    apply List.map_congr_left
    intro x _
    split
    · rw [e]
    · rfl
theorem tot_eq {L : List Wd} {k N : Nat} (hN : pwA L k N [] = 0) (v : Wd) : tot L k N v = 1 + ((List.range k).map fun x => if okL L v x = true then tot L k N (v ++ [lt97 x]) else 0).sum := by
  have h0 : ∀ v, pwA L k N v = 0 := fun v => by
    have := pw_mono L k N (List.nil_suffix (l := v))
    omega
  have e2 : tot L k (N + 1) v = tot L k N v + pwA L k N v := by
    unfold tot
    rw [List.range_succ (n := N), List.map_append, List.sum_append]
    simp
  rw [← tot_succ, e2, h0]
  rfl
theorem tot_mono (L : List Wd) (k N : Nat) {p v : Wd} (h : p <:+ v) : tot L k N v ≤ tot L k N p := sum_le fun m _ => pw_mono L k m h
theorem mem_sum {l : List Nat} {f : Nat → Nat} {x : Nat} (h : x ∈ l) : f x ≤ (l.map f).sum := by
  induction l with
  | nil => cases h
  | cons a l ih =>
    simp only [List.map_cons, List.sum_cons]
    rcases List.mem_cons.1 h with rfl | h
    · omega
    · have := ih h; omega
theorem tot_less {L : List Wd} {k N : Nat} (hN : pwA L k N [] = 0) {v : Wd} {x : Nat} (hx : x < k) (ho : okL L v x = true) : tot L k N (v ++ [lt97 x]) < tot L k N v := by
  rw [tot_eq hN v]
  have := mem_sum (f := fun x => if okL L v x = true then tot L k N (v ++ [lt97 x]) else 0) (List.mem_range.2 hx)
  simp only [ho, if_true] at this
  omega
/-- 1, 2, 4, ..: one more than the d numbers ahead -/
def bons (d : Nat) : Nat → List Nat
  | 0 => [0]
  | n + 1 => (1 + ((bons d n).take d).sum) :: bons d n
def bon (d n : Nat) : Nat := (bons d n).headD 0
theorem bon_zero (d : Nat) : bon d 0 = 0 := rfl
/-- the first j of them from the n-th one down -/
def bonTo (d n : Nat) : Nat → Nat
  | 0 => 0
  | j + 1 => bon d n + bonTo d (n - 1) j
theorem bonTo_zero (d : Nat) : ∀ j, bonTo d 0 j = 0
  | 0 => rfl
  | j + 1 => by unfold bonTo; rw [bon_zero, bonTo_zero d j]
theorem bonTo_eq (d : Nat) : ∀ (n j : Nat), ((bons d n).take j).sum = bonTo d n j
  | n, 0 => by simp [bonTo]
  | 0, j + 1 => by rw [bonTo_zero]; simp [bons]
  | n + 1, j + 1 => by
    have h := bonTo_eq d n j
    unfold bonTo
    simp only [bons, List.take_succ_cons, List.sum_cons, Nat.add_sub_cancel]
    rw [h]
    rfl
theorem bon_succ (d n : Nat) : bon d (n + 1) = 1 + bonTo d n d := by
  show 1 + ((bons d n).take d).sum = _
  rw [bonTo_eq]
theorem bonTo_len (d : Nat) : ∀ (n : Nat) {i j : Nat}, i ≤ j → bonTo d n i ≤ bonTo d n j
  | n, 0, j, _ => Nat.zero_le _
  | n, i + 1, 0, h => by omega
  | n, i + 1, j + 1, h => by
    have := bonTo_len d (n - 1) (i := i) (j := j) (by omega)
    unfold bonTo
    omega
theorem bon_step (d : Nat) : ∀ n, bon d n ≤ bon d (n + 1) ∧ ∀ j, bonTo d n j ≤ bonTo d (n + 1) j := by
  intro n
  induction n with
  | zero => exact ⟨by rw [bon_zero]; exact Nat.zero_le _, fun j => by rw [bonTo_zero]; exact Nat.zero_le _⟩
  | succ n ih =>
    have h1 : bon d (n + 1) ≤ bon d (n + 1 + 1) := by
      rw [bon_succ, bon_succ]
      have := ih.2 d
      omega
    refine ⟨h1, fun j => ?_⟩
    cases j with
    | zero => exact Nat.le_refl _
    | succ j =>
      unfold bonTo
      have := ih.2 j
      simp only [Nat.add_sub_cancel]
      omega
theorem bon_mono (d : Nat) {m n : Nat} (h : m ≤ n) : bon d m ≤ bon d n := by
  induction h with
  | refl => exact Nat.le_refl _
  | @step n _ ih => exact Nat.le_trans ih (bon_step d n).1
theorem bonTo_mono (d j : Nat) {m n : Nat} (h : m ≤ n) : bonTo d m j ≤ bonTo d n j := by
  induction h with
  | refl => exact Nat.le_refl _
  | @step n _ ih => exact Nat.le_trans ih ((bon_step d n).2 j)
/-- how many of Q are in U -/
def cnt (Q : List Wd) (U : Wd → Bool) : Nat := (Q.filter U).length
theorem cnt_mono {Q : List Wd} {U V : Wd → Bool} (h : ∀ t, U t = true → V t = true) : cnt Q U ≤ cnt Q V := by
  unfold cnt
  induction Q with
  | nil => exact Nat.le_refl _
  | cons a Q ih =>
    rw [List.filter_cons, List.filter_cons]
    by_cases h1 : U a = true
    · rw [if_pos h1, if_pos (h a h1)]
      simp only [List.length_cons]; omega
    · rw [if_neg h1]
      split
      · simp only [List.length_cons]; omega
      · exact ih
theorem cnt_all (Q : List Wd) (U : Wd → Bool) : cnt Q U ≤ Q.length := List.length_filter_le _ _
theorem cnt_less {Q : List Wd} {U : Wd → Bool} {t : Wd} (ht : t ∈ Q) (hu : U t = true) : cnt Q (fun u => U u && !decide (u = t)) + 1 ≤ cnt Q U := by
  unfold cnt
  induction Q with
  | nil => cases ht
  | cons a Q ih =>
    have hm : ∀ Q : List Wd, (Q.filter fun u => U u && !decide (u = t)).length ≤ (Q.filter U).length := fun Q => cnt_mono (Q := Q) (V := U) fun t' h' => by
      cases h : U t'
      · rw [h] at h'; cases h'
      · rfl
    rw [List.filter_cons, List.filter_cons]
    by_cases e : a = t
    · subst e
      rw [hu]
      have := hm Q
      simp
      omega
    · have h1 := ih (by rcases List.mem_cons.1 ht with h | h; exact absurd h.symm e; exact h)
      by_cases h2 : U a = true
      · simp [h2, e]
        omega
      · simp [h2]
        omega
theorem max_ex {f : Wd → Nat} : ∀ {l : List Wd}, l ≠ [] → ∃ t ∈ l, ∀ u ∈ l, f u ≤ f t
  | [], h => absurd rfl h
  | [a], _ => ⟨a, List.mem_cons_self, fun u hu => by rw [List.mem_singleton.1 hu]; exact Nat.le_refl _⟩
  | a :: b :: l, _ => by
    obtain ⟨t, ht, hm⟩ := max_ex (f := f) (l := b :: l) (by simp)
    by_cases h : f t ≤ f a
    · refine ⟨a, List.mem_cons_self, fun u hu => ?_⟩
      rcases List.mem_cons.1 hu with rfl | hu
      · exact Nat.le_refl _
      · have := hm u hu; omega
    · refine ⟨t, List.mem_cons_of_mem _ ht, fun u hu => ?_⟩
      rcases List.mem_cons.1 hu with rfl | hu
      · omega
      · exact hm u hu
/-- t, and what lies below it -/
def down (f : Wd → Nat) (t : Wd) : Wd → Bool := fun u => decide (f u < f t) || decide (u = t)
theorem sum_down (d : Nat) (Q : List Wd) (f : Wd → Nat) : ∀ (j : Nat) (l : List Wd) (U : Wd → Bool), l.length = j → l.Nodup → (∀ t ∈ l, t ∈ Q ∧ ∀ u, down f t u = true → U u = true) → (l.map fun t => bon d (cnt Q (down f t))).sum ≤ bonTo d (cnt Q U) j
  | 0, l, U, hl, _, _ => by rw [List.length_eq_zero_iff.1 hl]; exact Nat.zero_le _
  | j + 1, l, U, hl, hn, hU => by
    obtain ⟨t, ht, hm⟩ := max_ex (f := f) (l := l) (by intro e; rw [e] at hl; simp at hl)
    have hp := List.perm_cons_erase ht
    have hn2 : (l.erase t).Nodup := hn.erase t
    have ih := sum_down d Q f j (l.erase t) (fun u => U u && !decide (u = t)) (by rw [List.length_erase_of_mem ht]; omega) hn2 (fun u hu => by
      have hu2 := (hn.mem_erase_iff).1 hu
      refine ⟨(hU u hu2.2).1, fun z hz => ?_⟩
      have h1 := (hU u hu2.2).2 z hz
      have h2 : z ≠ t := fun e => by
        subst e
        have h3 := hm u hu2.2
        unfold down at hz
        simp only [Bool.or_eq_true, decide_eq_true_eq] at hz
        rcases hz with hz | hz
        · omega
        · exact hu2.1 hz.symm
      simp [h1, h2])
    have e := (hp.map fun t => bon d (cnt Q (down f t))).sum_nat
    rw [e]
    simp only [List.map_cons, List.sum_cons]
    have h4 : cnt Q (down f t) ≤ cnt Q U := cnt_mono (hU t ht).2
    have h5 := bon_mono d h4
    have h6 := cnt_less (hU t ht).1 ((hU t ht).2 t (by simp [down]))
    have h7 := bonTo_mono d j (show cnt Q (fun u => U u && !decide (u = t)) ≤ cnt Q U - 1 by omega)
    unfold bonTo
    omega
/-- the bound -/
theorem tot_bound {L : List Wd} (hne : ∀ r ∈ L, r ≠ []) {k N d : Nat} (hk : k ≤ 4) (hN : pwA L k N [] = 0) {Q : List Wd} (hQ : ∀ q, inQ L q → (∀ y ∈ q, ∃ x, x < k ∧ y = lt97 x) → q ∈ Q)
    (hd : ∀ v, ((List.range k).filter fun x => okL L v x).length ≤ d) : ∀ (n : Nat) (s : Wd), tot L k N s ≤ n → inQ L s → (∀ y ∈ s, ∃ x, x < k ∧ y = lt97 x) → tot L k N s ≤ bon d (cnt Q (down (tot L k N) s))
  | 0, s, h, hs, hl => by
    rw [tot_eq hN] at h
    omega
  | n + 1, s, h, hs, hl => by
    have key : ∀ x, x < k → okL L s x = true → ∃ t, Keeps L (s ++ [lt97 x]) t ∧ tot L k N t = tot L k N (s ++ [lt97 x]) ∧ (∃ p, t = p ++ [lt97 x]) ∧ (∀ y ∈ t, ∃ x, x < k ∧ y = lt97 x) := fun x hx ho => by
      obtain ⟨t, ht⟩ := keeps_ex L (s ++ [lt97 x])
      have e : tot L k N t = tot L k N (s ++ [lt97 x]) := by
        unfold tot
        congr 1
        apply List.map_congr_left
        intro m _
        exact (keeps_pw hne k m ht.2).symm
      have hless := tot_less hN hx ho
      refine ⟨t, ht, e, ?_, fun y hy => ?_⟩
      · rcases suf_snoc ht.2.1 with h1 | ⟨p, h1, _⟩
        · subst h1
          have := tot_mono L k N (List.nil_suffix (l := s))
          omega
        · exact ⟨p, h1⟩
      · have h1 := ht.2.1.subset hy
        rcases List.mem_append.1 h1 with h1 | h1
        · exact hl y h1
        · exact ⟨x, hx, by simpa using h1⟩
    obtain ⟨g, hg⟩ : ∃ g : Nat → Wd, ∀ x, x < k → okL L s x = true → Keeps L (s ++ [lt97 x]) (g x) ∧ tot L k N (g x) = tot L k N (s ++ [lt97 x]) ∧ (∃ p, g x = p ++ [lt97 x]) ∧ (∀ y ∈ g x, ∃ x, x < k ∧ y = lt97 x) := by
      refine ⟨fun x => if h : x < k ∧ okL L s x = true then Classical.choose (key x h.1 h.2) else [], fun x hx ho => ?_⟩
      simp only [hx, ho, and_self, dif_pos]
      exact Classical.choose_spec (key x hx ho)
    let xs := (List.range k).filter fun x => okL L s x
    have hxs : ∀ x ∈ xs, x < k ∧ okL L s x = true := fun x hx => by
      have := List.mem_filter.1 hx
      exact ⟨List.mem_range.1 this.1, this.2⟩
    have hsum : ((List.range k).map fun x => if okL L s x = true then tot L k N (s ++ [lt97 x]) else 0).sum = (xs.map fun x => tot L k N (g x)).sum := by
      have e1 : ∀ l : List Nat, (∀ x ∈ l, x < k) → (l.map fun x => if okL L s x = true then tot L k N (s ++ [lt97 x]) else 0).sum = ((l.filter fun x => okL L s x).map fun x => tot L k N (g x)).sum := fun l => by
        induction l with
        | nil => intro _; rfl
        | cons a l ih =>
          intro hh
          have h1 := ih fun x hx => hh x (List.mem_cons_of_mem _ hx)
          rw [List.filter_cons]
          simp only [List.map_cons, List.sum_cons]
          rw [h1]
          by_cases h2 : okL L s a = true
          · rw [if_pos h2, if_pos h2]
            simp only [List.map_cons, List.sum_cons]
            rw [(hg a (hh a List.mem_cons_self) h2).2.1]
          · rw [if_neg h2, if_neg h2]
            omega
      exact e1 _ fun x hx => List.mem_range.1 hx
    have hmap : (xs.map fun x => tot L k N (g x)).sum ≤ (xs.map fun x => bon d (cnt Q (down (tot L k N) (g x)))).sum := sum_le fun x hx => by
      obtain ⟨hx1, hx2⟩ := hxs x hx
      obtain ⟨h1, h2, _, h4⟩ := hg x hx1 hx2
      have h5 := tot_less hN hx1 hx2
      exact tot_bound hne hk hN hQ hd n (g x) (by omega) h1.1 h4
    have hnd : (xs.map g).Nodup := by
      have h1 : xs.Nodup := List.Pairwise.filter _ List.nodup_range
      unfold List.Nodup at *
      rw [List.pairwise_map]
      refine h1.imp_of_mem fun {a b} ha hb hab e => hab ?_
      obtain ⟨ha1, ha2⟩ := hxs a ha
      obtain ⟨hb1, hb2⟩ := hxs b hb
      obtain ⟨p, hp⟩ := (hg a ha1 ha2).2.2.1
      obtain ⟨q, hq⟩ := (hg b hb1 hb2).2.2.1
      rw [hp, hq] at e
      have h2 := (List.append_inj' e rfl).2
      simp only [List.cons.injEq, and_true] at h2
      exact lt97_inj (by omega) (by omega) h2
    have hdn := sum_down d Q (tot L k N) xs.length (xs.map g) (fun u => decide (tot L k N u < tot L k N s)) (by simp) hnd (fun t ht => by
      obtain ⟨x, hx, rfl⟩ := List.mem_map.1 ht
      obtain ⟨hx1, hx2⟩ := hxs x hx
      obtain ⟨h1, h2, _, h4⟩ := hg x hx1 hx2
      have h5 := tot_less hN hx1 hx2
      refine ⟨hQ _ h1.1 h4, fun u hu => ?_⟩
      unfold down at hu
      simp only [Bool.or_eq_true, decide_eq_true_eq] at hu ⊢
      rcases hu with hu | rfl
      · omega
      · omega)
    rw [List.map_map] at hdn
    have hb1 := bonTo_len d (cnt Q fun u => decide (tot L k N u < tot L k N s)) (hd s)
    have hc : cnt Q (fun u => decide (tot L k N u < tot L k N s)) + 1 ≤ cnt Q (down (tot L k N) s) := by
      have h1 := cnt_less (Q := Q) (U := down (tot L k N) s) (hQ s hs hl) (by simp [down])
      have h2 := cnt_mono (Q := Q) (U := fun u => decide (tot L k N u < tot L k N s)) (V := fun u => down (tot L k N) s u && !decide (u = s)) (fun t ht => by
        simp only [decide_eq_true_eq] at ht
        have : t ≠ s := fun e => by subst e; omega
        simp [down, ht, this])
      omega
    have hb2 := bon_mono d hc
    rw [bon_succ] at hb2
    rw [tot_eq hN, hsum]
    have e3 : (xs.map fun x => bon d (cnt Q (down (tot L k N) (g x)))) = xs.map ((fun t => bon d (cnt Q (down (tot L k N) t))) ∘ g) := rfl
    rw [e3] at hmap
    have hb3 : bonTo d (cnt Q fun u => decide (tot L k N u < tot L k N s)) xs.length ≤ bonTo d (cnt Q fun u => decide (tot L k N u < tot L k N s)) d := hb1
    omega
theorem tot_le {L : List Wd} (hne : ∀ r ∈ L, r ≠ []) {k N d : Nat} (hk : k ≤ 4) (hN : pwA L k N [] = 0) {Q : List Wd} (hQ : ∀ q, inQ L q → (∀ y ∈ q, ∃ x, x < k ∧ y = lt97 x) → q ∈ Q)
    (hd : ∀ v, ((List.range k).filter fun x => okL L v x).length ≤ d) : tot L k N [] ≤ bon d Q.length :=
  Nat.le_trans (tot_bound hne hk hN hQ hd _ [] (Nat.le_refl _) (.inl rfl) (fun y hy => by cases hy)) (bon_mono d (cnt_all _ _))
end Go.Proofs.YtgoeadgpbidgiaaGreatDoor
