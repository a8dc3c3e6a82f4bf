/-
  A turn of the completion, as plain data: what it makes, and that it keeps what is asked of systems and equations.
-/
import Derived.Test.YtdhaebbfiaddnaaGreatDoorGts28
import Derived.Test.YtdhaebbfiaddnaaGreatDoorGts16
import Derived.Test.YtdhaebbfiaddnaaGreatDoorGts22
namespace Go.Proofs.YtdhaebbfiaddnaaGreatDoor
open Go.RowKit
set_option linter.unusedVariables false
/-- rules that make a word less -/
def sysW (k : Int) (R : List RulD) : Prop := ((1 ≤ k ∧ k ≤ 4) ∧ ∀ r ∈ R, ruleP k r) ∧ ∀ r ∈ R, lessS r.2 r.1 = true
theorem sysP.weak {k : Int} {R : List RulD} (h : sysP k R) : sysW k R := ⟨⟨h.1.1.1, h.1.2⟩, h.2⟩
/-- a step of an ordered system makes a word less -/
theorem step_lessW {k : Int} {R : List RulD} (hs : sysW k R) {w : ByteArray} {s : Nat × Nat} (hm : s ∈ stepsF R w) : rk (applyF R w s).data.toList < rk w.data.toList := by
  obtain ⟨h1, h2, h3⟩ := mem_stepsF.1 hm
  have hr := nthR_mem h2
  have hp := hs.1.2 _ hr
  have hl := hs.2 _ hr
  unfold applyF
  rw [replF_list]
  conv => rhs; rw [split_at h3]
  exact rk_swap (lw_of hp.1.1.1) (lw_of hp.1.1.2) hl
theorem step_sizeW {k : Int} {R : List RulD} (hs : sysW k R) {w : ByteArray} {s : Nat × Nat} (hm : s ∈ stepsF R w) : (applyF R w s).size ≤ w.size ∧ s.2 + (nthR R s.1).1.size ≤ w.size := by
  obtain ⟨h1, h2, h3⟩ := mem_stepsF.1 hm
  have hr := nthR_mem h2
  have hp := hs.1.2 _ hr
  have hl := hs.2 _ hr
  have hf := preAt_fits h3 (by have := hp.2; omega)
  have hle : (nthR R s.1).2.size ≤ (nthR R s.1).1.size := by
    unfold lessS ltW at hl
    have e1 : (blW (nthR R s.1).1).length = (nthR R s.1).1.size := rfl
    have e2 : (blW (nthR R s.1).2).length = (nthR R s.1).2.size := rfl
    rcases of_decide_eq_true hl with h | ⟨h, _⟩ <;> omega
  refine ⟨?_, hf⟩
  unfold applyF
  rw [replF_size hf]
  omega
theorem step_wordW {k : Int} {R : List RulD} (hs : sysW k R) {w : ByteArray} (hw : wordOkB k w = true) {s : Nat × Nat} (hm : s ∈ stepsF R w) : wordOkB k (applyF R w s) = true := by
  obtain ⟨h1, h2, h3⟩ := mem_stepsF.1 hm
  have hp := hs.1.2 _ (nthR_mem h2)
  obtain ⟨a1, a2, a3⟩ := wordOk_iff.1 hw
  obtain ⟨b1, b2, b3⟩ := wordOk_iff.1 hp.1.1.2
  refine wordOk_iff.2 ⟨a1, Nat.le_trans (step_sizeW hs hm).1 a2, fun y hy => ?_⟩
  unfold applyF at hy
  rw [replF_list] at hy
  rcases List.mem_append.1 hy with hy | hy
  · exact a3 y ((List.take_sublist _ _).subset hy)
  rcases List.mem_append.1 hy with hy | hy
  · exact b3 y hy
  · exact a3 y ((List.drop_sublist _ _).subset hy)
theorem NormIs.exW {k : Int} {R : List RulD} (hs : sysW k R) : ∀ (n : Nat) (w : ByteArray), rk w.data.toList < n → wordOkB k w = true → ∃ x, NormIs R w x ∧ wordOkB k x = true
  | 0, w, h, _ => by omega
  | n + 1, w, h, hw => by
    cases hh : (stepsF R w).head? with
    | none => exact ⟨w, .done hh, hw⟩
    | some s =>
      have hm := head_mem hh
      have h1 := step_lessW hs hm
      obtain ⟨x, hx, hx2⟩ := NormIs.exW hs n (applyF R w s) (by omega) (step_wordW hs hw hm)
      exact ⟨x, .step hh hx, hx2⟩
theorem NormIs.wordW {k : Int} {R : List RulD} (hs : sysW k R) {w x : ByteArray} (h : NormIs R w x) (hw : wordOkB k w = true) : wordOkB k x = true := by
  obtain ⟨y, h1, h2⟩ := NormIs.exW hs _ w (Nat.lt_succ_self _) hw
  rw [h.uniq h1]; exact h2
theorem left8W {k : Int} {R : List RulD} (hs : sysW k R) (r : Nat) : (nthR R r).1.size ≤ 8 := by
  by_cases h : r < R.length
  · exact (hs.1.2 _ (nthR_mem h)).1.2.1
  · rw [nthR_dflt h]; exact Nat.zero_le _
theorem apply_okW {k : Int} {R : List RulD} (hs : sysW k R) {w0 : ByteArray} (hw : w0.size ≤ 16) {s : Nat × Nat} (hm : s ∈ stepsF R w0) : s.2 + (nthR R s.1).1.size ≤ w0.size ∧ w0.size - (nthR R s.1).1.size + (nthR R s.1).2.size ≤ 16 := by
  have h := step_sizeW hs hm
  have h2 := h.1
  unfold applyF at h2
  rw [replF_size h.2] at h2
  exact ⟨h.2, by omega⟩
set_option maxRecDepth 100000 in
set_option maxHeartbeats 2000000 in
theorem implFirstStep_w (k : Int) (R : List RulD) (a : Option Addr) (cap : Nat) (w0 : ByteArray) (w : World) (hl : RulesIn w a R) (hs : sysW k R) (h12 : R.length ≤ 13) (hw : w0.size ≤ 16) :
    Calls Tryz.prog 74 #[.agg #[.int .i64 k, .slice a R.length cap], .string w0] w (RetFS R w0 w) := by
  have h8 := left8W hs
  have HL := Lib.hid hl
  have HA2 := Lib.hid (fun o o2 => Below.now (alloc_belowS w o) (alloc_belowS (w.alloc o) o2))
  have e1 : (w.alloc (.cells #[.int .i64 k, .slice a R.length cap] 25)).heap.size = w.heap.size + 1 := by simp
  have HBX := Lib.hid (fun W2 (h : Below ((w.alloc (.cells #[.int .i64 k, .slice a R.length cap] 25)).alloc (.cells #[.int .i64 0, .int .i64 0] 30)).heap.size ((w.alloc (.cells #[.int .i64 k, .slice a R.length cap] 25)).alloc (.cells #[.int .i64 0, .int .i64 0] 30)) W2) => And.intro (box_two (Below.now (alloc_belowS (w.alloc (.cells #[.int .i64 k, .slice a R.length cap] 25)) _) h)) (box_facts h))
  rw [e1] at HBX
  have HW1 : Hid (Below w.heap.size w ((w.alloc (.cells #[.int .i64 k, .slice a R.length cap] 25)).alloc (.cells #[.int .i64 0, .int .i64 0] 30))) := Lib.hid (HA2.out _ _)
  have HL1 := Lib.hid (HL.out.later HW1.out)
  clear hl hs e1
  go_enter Tryz.func74, Tryz.ntmps74
  go_wp2_with fail
  generalize (w.alloc (.cells #[.int .i64 k, .slice a R.length cap] 25)).alloc (.cells #[.int .i64 0, .int .i64 0] 30) = w1 at *
  go_loopw [11] (fun vi wr => ∃ i : Nat, i ≤ w0.size ∧ vi = .int .i64 (i : Nat) ∧ Hid (stTo R w0 i 0 = []) ∧ Below w1.heap.size w1 wr) (fun vi _ => w0.size - (intOf vi).toNat)
  case atStart => exact ⟨0, Nat.zero_le _, rfl, Lib.hid rfl, Below.refl _ _⟩
  case round =>
    obtain ⟨i, hi, rfl, HNO, hbw⟩ := hrel
    have HB := Lib.hid hbw
    obtain ⟨⟨s0, s1⟩, ⟨b0, b1⟩, f0, f1⟩ := HBX.out wr hbw
    clear hbw
    by_cases hlt : i < w0.size
    · have HXT := Lib.hid (stTo_next R w0 i)
      go_wp2_with fail
      generalize hW : wr = wr0 at *
      clear hW s0 s1 b0 b1 f0 f1
      go_loopw [17] (fun vr wr => ∃ r : Nat, r ≤ R.length ∧ vr = .int .i64 (r : Nat) ∧ Hid (stTo R w0 i r = []) ∧ Below w1.heap.size w1 wr) (fun vr _ => R.length - (intOf vr).toNat)
      case atStart => exact ⟨0, Nat.zero_le _, rfl, HNO, HB.out⟩
      case round =>
        clear HB HNO
        obtain ⟨r, hr, rfl, HNO, hbw⟩ := hrel
        by_cases hlr : r < R.length
        · obtain ⟨b, off, rfl, hb, k0, k1⟩ := rule_at HL1.out hbw hlr
          have hl8 := h8 r
          have HY := Lib.hid (fun h => first_at (R := R) (w := w0) (i := i) (k := r) hlt hlr HNO.out h)
          have HN := Lib.hid (fun h => stTo_none (R := R) (w := w0) (i := i) (k := r) HNO.out h)
          have HHP := Lib.hid (fun W => Tryz.strings_HasPrefix (w0.extract i w0.size) (nthR R r).1 W)
          rw [preAt_hp] at HHP
          have x3 : (i : Int) ≤ (w0.size : Int) := by omega
          have x4 : i ≤ w0.size := by omega
          have HB := Lib.hid hbw
          clear hbw
          generalize (nthR R r).1 = l at *
          generalize (nthR R r).2 = q at *
          go_wp2_with fail
          have HB5 := Lib.hid (Below.now HB.out (alloc_belowS wr (.cells #[.string l, .string q] 36)))
          have hcb := alloc_at wr (.cells #[.string l, .string q] 36)
          have hc0 := (sys_cells hcb).1
          clear k0 k1 hcb
          generalize hg : wr.heap.size = g at *
          generalize wr.alloc (.cells #[.string l, .string q] 36) = w5 at *
          cases hp : preAt w0 i l
          · have HNX := Lib.hid (HN.out hp)
            rw [hp] at HHP
            clear hp HY HN
            go_quiet ((go_at_call 101; refine (HHP.out _).mono ?_; rintro e w' ⟨rfl, rfl⟩; exact ⟨rfl, ⟨_, rfl⟩⟩))
            have HB6 := Lib.hid (Below.now HB5.out (below_drewN (Below.refl _ _) nq))
            go_wp2_with fail
            go_roundw
            case rel => exact ⟨r + 1, by omega, by go_num, HNX, HB6.out⟩
            case measure => simp [intOf]; omega
          · have HYX := Lib.hid (HY.out hp)
            rw [hp] at HHP
            clear hp HY HN
            go_quiet ((go_at_call 101; refine (HHP.out _).mono ?_; rintro e w' ⟨rfl, rfl⟩; exact ⟨rfl, ⟨_, rfl⟩⟩))
            have HB6 := Lib.hid (Below.now HB5.out (below_drewN (Below.refl _ _) nq))
            obtain ⟨_, ⟨b0, b1⟩, f0, f1⟩ := HBX.out _ HB6.out
            have HW6 := Lib.hid (Below.now HW1.out HB6.out)
            clear hc0
            go_wp2_with fail
            refine bodyPost_ret (v := .tuple #[.agg #[.int .i64 (r : Nat), .int .i64 (i : Nat)], .bool true]) ?_ rfl ?_
            · simp [results, Tryz.results74, go_sem, b0, b1]
            · exact ⟨(HW6.out.setCell (show w.heap.size ≤ w.heap.size + 1 by omega) _).setCell (show w.heap.size ≤ w.heap.size + 1 by omega) _, .inl ⟨(r, i), HYX.out, rfl⟩⟩
        · obtain rfl : r = R.length := by omega
          have HN2 : Hid (stTo R w0 (i + 1) 0 = []) := Lib.hid (by rw [← HXT.out]; exact HNO.out)
          go_wp2_with fail
          go_roundw
          case rel => exact ⟨i + 1, by omega, by go_num, HN2, hbw⟩
          case measure => simp [intOf]; omega
    · obtain rfl : i = w0.size := by omega
      have HHD : Hid ((stepsF R w0).head? = none) := Lib.hid (by rw [← stTo_done, HNO.out]; rfl)
      have HW6 := Lib.hid (Below.now HW1.out HB.out)
      go_wp2_with fail
      refine bodyPost_ret (v := .tuple #[.agg #[.int .i64 0, .int .i64 0], .bool false]) ?_ rfl ?_
      · simp [results, Tryz.results74, go_sem, b0, b1]
      · exact ⟨(HW6.out.setCell (show w.heap.size ≤ w.heap.size + 1 by omega) _).setCell (show w.heap.size ≤ w.heap.size + 1 by omega) _, .inr ⟨HHD.out, rfl⟩⟩
set_option maxRecDepth 100000 in
set_option maxHeartbeats 2000000 in
theorem implApply_w (k : Int) (R : List RulD) (a : Option Addr) (cap : Nat) (w0 : ByteArray) (x y : Nat) (w : World) (hl : RulesIn w a R) (hs : sysW k R) (h12 : R.length ≤ 13) (hw : w0.size ≤ 16) (hm : (x, y) ∈ stepsF R w0) :
    Calls Tryz.prog 72 #[.agg #[.int .i64 k, .slice a R.length cap], .string w0, .agg #[.int .i64 (x : Nat), .int .i64 (y : Nat)]] w fun e w' => e = .returned (.tuple #[.string (applyF R w0 (x, y)), .bool true]) ∧ Below w.heap.size w w' := by
  have HL := Lib.hid hl
  obtain ⟨hm1, hm2, _⟩ := mem_stepsF.1 hm
  have hm2 : x < R.length := hm2
  have hok := apply_okW hs hw hm
  have h8 := left8W hs x
  have h8b : (nthR R x).2.size ≤ 8 := (hs.1.2 _ (nthR_mem hm2)).1.2.2
  have HRA := Lib.hid (fun W => implReplaceAt_ok w0 (nthR R x).2 y (nthR R x).1.size W hok.1 hok.2 (by omega) (by omega))
  have HAP : Hid (applyF R w0 (x, y) = replF w0 y (nthR R x).1.size (nthR R x).2) := Lib.hid rfl
  have HA2 := Lib.hid (fun o o2 => Below.now (alloc_belowS w o) (alloc_belowS (w.alloc o) o2))
  have e1 : (w.alloc (.cells #[.int .i64 k, .slice a R.length cap] 25)).heap.size = w.heap.size + 1 := by simp
  have HBX := Lib.hid (fun W2 (h : Below ((w.alloc (.cells #[.int .i64 k, .slice a R.length cap] 25)).alloc (.cells #[.int .i64 (x : Nat), .int .i64 (y : Nat)] 30)).heap.size ((w.alloc (.cells #[.int .i64 k, .slice a R.length cap] 25)).alloc (.cells #[.int .i64 (x : Nat), .int .i64 (y : Nat)] 30)) W2) => And.intro (box_two (Below.now (alloc_belowS (w.alloc (.cells #[.int .i64 k, .slice a R.length cap] 25)) _) h)) (box_facts h).1)
  rw [e1] at HBX
  have HW1 : Hid (Below w.heap.size w ((w.alloc (.cells #[.int .i64 k, .slice a R.length cap] 25)).alloc (.cells #[.int .i64 (x : Nat), .int .i64 (y : Nat)] 30))) := Lib.hid (HA2.out _ _)
  obtain ⟨rb, ro, ra, rlt, k0, k1⟩ := rule_at HL.out HW1.out hm2
  subst ra
  obtain ⟨⟨s0, s1⟩, b0, b1⟩ := HBX.out _ (Below.refl _ _)
  have s2 := fun o => (HBX.out _ (alloc_belowS _ o)).2.1
  have s3 := fun o => (HBX.out _ (alloc_belowS _ o)).2.2
  rw [← HAP.out] at HRA
  clear hl hs e1 hm hok HBX HA2
  generalize (nthR R x).1 = l at *
  generalize (nthR R x).2 = q at *
  generalize applyF R w0 (x, y) = v at *
  go_enter Tryz.func72, Tryz.ntmps72
  go_wp2_with fail
  generalize (w.alloc (.cells #[.int .i64 k, .slice (some ⟨rb, ro, none⟩) R.length cap] 25)).alloc (.cells #[.int .i64 (x : Nat), .int .i64 (y : Nat)] 30) = w1 at *
  refine (HRA.out _).mono ?_
  rintro e w9 ⟨rfl, hb9⟩
  have HB9 := Lib.hid (Below.now HW1.out (Below.now (alloc_belowS w1 _) hb9))
  clear hb9 s0 s1 s2 s3 b0 b1 k0 k1
  go_wp2_with fail
  go_ret2
  exact ⟨rfl, HB9.out⟩
set_option maxRecDepth 100000 in
set_option maxHeartbeats 2000000 in
theorem implNormal_w (k : Int) (R : List RulD) (a : Option Addr) (cap : Nat) (w0 : ByteArray) (w : World) (hl : RulesIn w a R) (hs : sysW k R) (h12 : R.length ≤ 13) (hw : wordOkB k w0 = true) :
    Calls Tryz.prog 37 #[.agg #[.int .i64 k, .slice a R.length cap], .string w0] w (RetNo R w0 w) := by
  have HL := Lib.hid hl
  have HS := Lib.hid hs
  have HW := Lib.hid hw
  have HFS := Lib.hid (fun v W h (hv : v.size ≤ 16) => (implFirstStep_w k R a cap v W h hs h12 hv).mono (fun _ _ h => h.form))
  have HAS := Lib.hid (fun v x y W h (hv : v.size ≤ 16) hm => implApply_w k R a cap v x y W h hs h12 hv hm)
  have hb1 := alloc_belowS w (.cells #[.int .i64 k, .slice a R.length cap] 25)
  have HBX := Lib.hid (fun W2 (h : Below (w.alloc (.cells #[.int .i64 k, .slice a R.length cap] 25)).heap.size (w.alloc (.cells #[.int .i64 k, .slice a R.length cap] 25)) W2) => box_two h)
  have HW1 := Lib.hid hb1
  have h16 := (wdP_of hw).len
  clear hl hs hw hb1
  go_enter Tryz.func37, Tryz.ntmps37
  go_wp2_with fail
  generalize w.alloc (.cells #[.int .i64 k, .slice a R.length cap] 25) = w1 at *
  refine (HFS.out w0 w1 (HL.out.later HW1.out) h16).mono ?_
  rintro e w2 ⟨x0, y0, b0, hfs, rfl, hb2⟩
  have HB2 := Lib.hid hb2
  have HFP := Lib.hid hfs
  have HBS0 : Hid (BoxS w2.heap.size x0 y0 (w2.alloc (.cells #[.int .i64 (x0 : Nat), .int .i64 (y0 : Nat)] 30))) := Lib.hid (alloc_at _ _)
  have HB3 : Hid (Below w1.heap.size w1 (w2.alloc (.cells #[.int .i64 (x0 : Nat), .int .i64 (y0 : Nat)] 30))) := Lib.hid (Below.now hb2 (alloc_belowS _ _))
  have hlt0 : w1.heap.size ≤ w2.heap.size := hb2.size
  clear hfs hb2
  go_wp2_with fail
  go_loopw [1, 5, 6] (fun vw vp vb wr => ∃ (v : ByteArray) (g x y : Nat) (b : Bool), vw = .string v ∧ vp = .pointer (some ⟨g, 0, none⟩) ∧ vb = .bool b ∧ w1.heap.size ≤ g ∧ Hid (wordOkB k v = true) ∧ Hid (∀ z, NormIs R v z → NormIs R w0 z) ∧ Hid (FsP R v x y b) ∧ Hid (BoxS g x y wr) ∧ Hid (Below w1.heap.size w1 wr)) (fun vw _ _ _ => rkV vw)
  case atStart => exact ⟨w0, w2.heap.size, x0, y0, b0, rfl, rfl, rfl, hlt0, HW, Lib.hid (fun z h => h), HFP, HBS0, HB3⟩
  case round =>
    clear HBS0 HB3 HFP HB2 hlt0
    obtain ⟨v, g, x, y, b, rfl, rfl, rfl, hg, HV, HNI, HFP, HBS, HB⟩ := hrel
    obtain ⟨s0, s1⟩ := HBX.out wr HB.out
    obtain ⟨⟨c0, c1⟩, f0, f1⟩ := HBS.out.facts
    have hv16 := (wdP_of HV.out).len
    rcases HFP.out with ⟨rfl, hh⟩ | ⟨rfl, hh, rfl, rfl⟩
    · have hm := head_mem hh
      have HLESS := Lib.hid (step_lessW HS.out hm)
      have HWD : Hid (wordOkB k (applyF R v (x, y)) = true) := Lib.hid (step_wordW HS.out HV.out hm)
      have HNI2 : Hid (∀ z, NormIs R (applyF R v (x, y)) z → NormIs R w0 z) := Lib.hid (fun z hz => HNI.out z (.step hh hz))
      have HAC := Lib.hid (HAS.out v x y wr (HL.out.later (Below.now HW1.out HB.out)) hv16 hm)
      have hv2 := (wdP_of HWD.out).len
      have HFC := Lib.hid (fun W h => HFS.out (applyF R v (x, y)) W h hv2)
      clear hh hm HFP
      generalize applyF R v (x, y) = v2 at *
      go_wp2_with fail
      refine HAC.out.mono ?_
      rintro e w3 ⟨rfl, hb3⟩
      have HBN := Lib.hid (Below.now HB.out hb3)
      obtain ⟨⟨d0, d1⟩, _, _⟩ := (HBS.out.later hb3).facts
      have t0 := fun o => (HBX.out _ (Below.now HBN.out (alloc_belowS w3 o))).1
      have t1 := fun o => (HBX.out _ (Below.now HBN.out (alloc_belowS w3 o))).2
      have HLW := Lib.hid (fun o => HL.out.later (Below.now HW1.out (Below.now HBN.out (alloc_belowS w3 o))))
      clear hb3 s0 s1 c0 c1 f0 f1 HAC HBS
      go_wp2_with fail
      refine (HFC.out _ (HLW.out _)).mono ?_
      rintro e w4 ⟨x2, y2, b2, hfs, rfl, hb4⟩
      have HFP2 := Lib.hid hfs
      have hbx : BoxS w3.heap.size x y w4 := (hb4.block _ (by simp)).trans (alloc_at _ _)
      obtain ⟨⟨k0, k1⟩, m0, m1⟩ := hbx.facts
      have HBS2 := Lib.hid (hbx.set x2 y2)
      have hsz : w1.heap.size ≤ w3.heap.size := HBN.out.size
      have HB4 : Hid (Below w1.heap.size w1 ((w4.setCell ⟨w3.heap.size, 0, none⟩ (.int .i64 (x2 : Nat))).setCell ⟨w3.heap.size, 1, none⟩ (.int .i64 (y2 : Nat)))) := Lib.hid (((Below.now HBN.out (Below.now (alloc_belowS w3 _) hb4)).setCell hsz _).setCell hsz _)
      clear hfs hb4 hbx d0 d1 t0 t1 HLW HFC
      go_wp2_with fail
      go_roundw
      case rel => exact ⟨v2, w3.heap.size, x2, y2, b2, rfl, rfl, rfl, hsz, HWD, HNI2, HFP2, HBS2, HB4⟩
      case measure => exact HLESS.out
    · have F : Hid (RetNo R w0 w (.returned (.string v)) wr) := Lib.hid ⟨v, HNI.out v (.done hh), rfl, Below.now HW1.out HB.out⟩
      clear hh s0 s1 c0 c1 f0 f1
      go_wp2_with fail
      go_ret
      exact F.out
end Go.Proofs.YtdhaebbfiaddnaaGreatDoor
namespace Go.Proofs.YtdhaebbfiaddnaaGreatDoor
open Go.RowKit
set_option linter.unusedVariables false
theorem ltW_wt {u v : List UInt8} (h : ltW u v = true) : wt u < wt v := by
  unfold ltW at h
  rcases of_decide_eq_true h with h | ⟨h1, h2⟩
  · exact wt_short h
  · exact wt_lex h1 h2
theorem wt_ltW {u v : List UInt8} (h : wt u < wt v) : ltW u v = true := by
  cases h1 : ltW u v
  · cases h2 : ltW v u
    · obtain rfl := ltW_total h1 h2
      omega
    · have := ltW_wt h2
      omega
  · rfl
theorem wt_lessS {a b : ByteArray} (h : wt a.data.toList < wt b.data.toList) : lessS a b = true := wt_ltW h
theorem lessS_size {a b : ByteArray} (h : lessS a b = true) : a.size ≤ b.size := by
  have := wt_len (lessS_wt h)
  exact this
theorem sysW_dwn {k : Int} {R : List RulD} (hs : sysW k R) : Dwn (SR R) := by
  rintro _ _ ⟨p, hp, rfl, rfl⟩
  exact lessS_wt (hs.2 p hp)
theorem sysW_ne {k : Int} {R : List RulD} (hs : sysW k R) : ∀ r ∈ R, r.1.size ≠ 0 := fun r hr => (hs.1.2 r hr).2
theorem nfC_is {k : Int} {R : List RulD} (hs : sysW k R) {u : ByteArray} (hw : wordOkB k u = true) : NormIs R u (nfC R u) := by
  obtain ⟨x, hx, _⟩ := NormIs.exW hs _ u (Nat.lt_succ_self _) hw
  rw [nfC_eq hx]; exact hx
theorem nfC_word {k : Int} {R : List RulD} (hs : sysW k R) {u : ByteArray} (hw : wordOkB k u = true) : wordOkB k (nfC R u) = true := (nfC_is hs hw).wordW hs hw
theorem nfC_red {k : Int} {R : List RulD} (hs : sysW k R) {u : ByteArray} (hw : wordOkB k u = true) : Nf (SR R) u.data.toList (nfC R u).data.toList := norm_nf (sysW_ne hs) (nfC_is hs hw)
theorem nfC_le {k : Int} {R : List RulD} (hs : sysW k R) {u : ByteArray} (hw : wordOkB k u = true) : wt (nfC R u).data.toList ≤ wt u.data.toList := (nfC_red hs hw).1.le (sysW_dwn hs)
/-- l lies somewhere in w -/
def hasB (w l : ByteArray) : Bool := !(placesF w l).isEmpty
theorem hasB_iff {w l : ByteArray} (hl : l.size ≠ 0) : hasB w l = true ↔ ∃ x y, w.data.toList = x ++ (l.data.toList ++ y) := by
  unfold hasB
  rw [Bool.not_eq_true', List.isEmpty_eq_false_iff]
  constructor
  · intro h
    obtain ⟨i, hi⟩ := List.exists_mem_of_ne_nil _ h
    obtain ⟨_, h2⟩ := mem_places.1 hi
    exact ⟨_, _, split_at h2⟩
  · rintro ⟨x, y, h⟩ he
    have e1 : w.data.toList.length = w.size := rfl
    have e2 : l.data.toList.length = l.size := rfl
    have h2 : x.length ∈ placesF w l := by
      rw [mem_places]
      rw [h] at e1
      simp only [List.length_append] at e1
      refine ⟨by omega, ?_⟩
      unfold preAt
      rw [h, List.drop_left, List.isPrefixOf_iff_prefix]
      exact List.prefix_append _ _
    rw [he] at h2
    cases h2
/-- the rules that are kept beside a new left side, and those that are not -/
def keptF (R : List RulD) (x : ByteArray) : List RulD := R.filter fun p => !hasB p.1 x
def goneF (R : List RulD) (x : ByteArray) : List RulD := R.filter fun p => hasB p.1 x
def allF (R : List RulD) (r : RulD) : List RulD := keptF R r.1 ++ [r]
noncomputable def mapF (R : List RulD) (r : RulD) (l : List RulD) : List RulD := l.map fun p => (p.1, nfC (allF R r) p.2)
noncomputable def nextF (R : List RulD) (r : RulD) : List RulD := mapF R r (keptF R r.1) ++ [r]
/-- the sides of the pairs with the last rule -/
def lastP (N : List RulD) (p : PairD) : Bool := decide (p.2.1 = N.length - 1) || decide (p.2.2.1 = N.length - 1)
def sidesF (N : List RulD) (p : PairD) : RulD := (leftP N p, rightP N p)
def newQ (N : List RulD) : List RulD := ((pairsF N).filter (lastP N)).map (sidesF N)
/-- the rule that an equation of two words is made into -/
def orF2 (a b : ByteArray) : RulD := if lessS a b = true then (b, a) else (a, b)
/-- what a turn is: its code, the rules, the equations and the turns behind it -/
noncomputable def turnF (R Q : List RulD) (T : Nat) : Nat × List RulD × List RulD × Nat :=
  match Q with
  | [] => (0, R, [], T)
  | q :: Qt =>
    if T = 200 then (3, R, q :: Qt, T)
    else if nfC R q.1 = nfC R q.2 then (0, R, Qt, T + 1)
    else if 8 < (orF2 (nfC R q.1) (nfC R q.2)).1.size then (1, R, q :: Qt, T)
    else if 12 < (nextF R (orF2 (nfC R q.1) (nfC R q.2))).length then (2, R, q :: Qt, T)
    else if 400 < (Qt ++ goneF R (orF2 (nfC R q.1) (nfC R q.2)).1 ++ newQ (nextF R (orF2 (nfC R q.1) (nfC R q.2)))).length then (2, R, q :: Qt, T)
    else (0, nextF R (orF2 (nfC R q.1) (nfC R q.2)), Qt ++ goneF R (orF2 (nfC R q.1) (nfC R q.2)).1 ++ newQ (nextF R (orF2 (nfC R q.1) (nfC R q.2))), T + 1)
/-- rules, equations and turns that a completion may go on from -/
structure WorkP (k : Int) (R Q : List RulD) (T : Nat) : Prop where
  sys : sysP k R
  few : Q.length ≤ 400
  word : ∀ q ∈ Q, wordOkB k q.1 = true ∧ wordOkB k q.2 = true
  turns : T ≤ 200
theorem orF2_less {a b : ByteArray} (h : a ≠ b) : lessS (orF2 a b).2 (orF2 a b).1 = true := by
  unfold orF2
  split
  · assumption
  · rename_i h1
    cases h2 : lessS b a
    · have e := ltW_total (Bool.not_eq_true _ ▸ h1 : ltW (blW a) (blW b) = false) h2
      exact absurd (ba_lists e) h
    · rfl
theorem orF2_cases (a b : ByteArray) : orF2 a b = (b, a) ∨ orF2 a b = (a, b) := by
  unfold orF2
  split
  · exact .inl rfl
  · exact .inr rfl
/-- what is known of a rule that a turn makes -/
structure NewR (k : Int) (r : RulD) : Prop where
  left : wordOkB k r.1 = true
  right : wordOkB k r.2 = true
  less : lessS r.2 r.1 = true
  short : r.1.size ≤ 8
theorem less_ne {a b : ByteArray} (h : lessS a b = true) : b.size ≠ 0 := by
  intro h0
  have e : b.data.toList = [] := List.eq_nil_of_length_eq_zero h0
  have := lessS_wt h
  rw [e] at this
  simp [wt, wtL] at this
theorem NewR.rule {k : Int} {r : RulD} (h : NewR k r) : ruleP k r := ⟨⟨⟨h.left, h.right⟩, h.short, Nat.le_trans (lessS_size h.less) h.short⟩, less_ne h.less⟩
theorem allF_sys {k : Int} {R : List RulD} (hs : sysP k R) {r : RulD} (hr : NewR k r) : sysW k (allF R r) := by
  have key : ∀ p ∈ allF R r, p ∈ R ∨ p = r := fun p hp => by
    rcases List.mem_append.1 hp with hp | hp
    · exact .inl ((List.mem_filter.1 hp).1)
    · exact .inr (List.mem_singleton.1 hp)
  refine ⟨⟨hs.1.1.1, fun p hp => ?_⟩, fun p hp => ?_⟩
  · rcases key p hp with h | rfl
    · exact hs.1.2 p h
    · exact hr.rule
  · rcases key p hp with h | rfl
    · exact hs.2 p h
    · exact hr.less
theorem allF_len {k : Int} {R : List RulD} (hs : sysP k R) (r : RulD) : (allF R r).length ≤ 13 := by
  unfold allF keptF
  have h1 := List.length_filter_le (fun p : RulD => !hasB p.1 r.1) R
  have h2 := hs.1.1.2
  rw [List.length_append, List.length_singleton]
  omega
theorem nextF_mem {R : List RulD} {r : RulD} {p : RulD} : p ∈ nextF R r ↔ (∃ q ∈ keptF R r.1, p = (q.1, nfC (allF R r) q.2)) ∨ p = r := by
  unfold nextF mapF
  rw [List.mem_append, List.mem_map, List.mem_singleton]
  constructor
  · rintro (⟨q, h1, h2⟩ | h)
    · exact .inl ⟨q, h1, h2.symm⟩
    · exact .inr h
  · rintro (⟨q, h1, h2⟩ | h)
    · exact .inl ⟨q, h1, h2.symm⟩
    · exact .inr h
theorem nextF_len (R : List RulD) (r : RulD) : (nextF R r).length = (keptF R r.1).length + 1 := by
  unfold nextF mapF
  rw [List.length_append, List.length_map, List.length_singleton]
theorem nextF_weak {k : Int} {R : List RulD} (hs : sysP k R) {r : RulD} (hr : NewR k r) : sysW k (nextF R r) := by
  have ha := allF_sys hs hr
  have key : ∀ p ∈ nextF R r, ruleP k p ∧ lessS p.2 p.1 = true := fun p hp => by
    rcases nextF_mem.1 hp with ⟨q, hq, rfl⟩ | rfl
    · have hq2 := (List.mem_filter.1 hq).1
      have h1 := hs.1.2 q hq2
      have h2 := nfC_le ha h1.1.1.2
      have h3 := lessS_wt (hs.2 q hq2)
      have h4 : lessS (nfC (allF R r) q.2) q.1 = true := wt_lessS (by omega)
      exact ⟨⟨⟨⟨h1.1.1.1, nfC_word ha h1.1.1.2⟩, h1.1.2.1, Nat.le_trans (lessS_size h4) h1.1.2.1⟩, h1.2⟩, h4⟩
    · exact ⟨hr.rule, hr.less⟩
  exact ⟨⟨hs.1.1.1, fun p hp => (key p hp).1⟩, fun p hp => (key p hp).2⟩
theorem nextF_sys {k : Int} {R : List RulD} (hs : sysP k R) {r : RulD} (hr : NewR k r) (hl : ¬ 12 < (nextF R r).length) : sysP k (nextF R r) :=
  ⟨⟨⟨hs.1.1.1, by omega⟩, (nextF_weak hs hr).1.2⟩, (nextF_weak hs hr).2⟩
theorem sides_word {k : Int} {N : List RulD} (hs : sysP k N) {p : PairD} (hp : p ∈ pairsF N) : wordOkB k (sidesF N p).1 = true ∧ wordOkB k (sidesF N p).2 = true := by
  have h := pairOk hs hp
  exact ⟨step_word hs h.word h.one, step_word hs h.word h.two⟩
theorem newQ_word {k : Int} {N : List RulD} (hs : sysP k N) : ∀ q ∈ newQ N, wordOkB k q.1 = true ∧ wordOkB k q.2 = true := fun q hq => by
  obtain ⟨p, hp, rfl⟩ := List.mem_map.1 hq
  exact sides_word hs ((List.mem_filter.1 hp).1)
theorem orF2_new {k : Int} {R : List RulD} (hs : sysP k R) {q : RulD} (hq : wordOkB k q.1 = true ∧ wordOkB k q.2 = true) (hne : ¬ nfC R q.1 = nfC R q.2) (h8 : ¬ 8 < (orF2 (nfC R q.1) (nfC R q.2)).1.size) : NewR k (orF2 (nfC R q.1) (nfC R q.2)) := by
  have h1 := nfC_word hs.weak hq.1
  have h2 := nfC_word hs.weak hq.2
  have h3 := orF2_less hne
  rcases orF2_cases (nfC R q.1) (nfC R q.2) with e | e <;> rw [e] at h3 h8 ⊢
  · exact ⟨h2, h1, h3, by omega⟩
  · exact ⟨h1, h2, h3, by omega⟩
/-- a turn that ends well leaves what a completion may go on from -/
theorem WorkP.turn {k : Int} {R Q : List RulD} {T : Nat} (h : WorkP k R Q T) (hc : (turnF R Q T).1 = 0) : WorkP k (turnF R Q T).2.1 (turnF R Q T).2.2.1 (turnF R Q T).2.2.2 := by
  cases Q with
  | nil => exact h
  | cons q Qt =>
    have hq := h.word q List.mem_cons_self
    have hf := h.few
    simp only [List.length_cons] at hf
    have ht := h.turns
    unfold turnF at hc ⊢
    simp only at hc ⊢
    by_cases c1 : T = 200
    · rw [if_pos c1] at hc; cases hc
    rw [if_neg c1] at hc ⊢
    by_cases c2 : nfC R q.1 = nfC R q.2
    · rw [if_pos c2]
      exact ⟨h.sys, by show Qt.length ≤ 400; omega, fun p hp => h.word p (List.mem_cons_of_mem _ hp), by show T + 1 ≤ 200; omega⟩
    rw [if_neg c2] at hc ⊢
    by_cases c3 : 8 < (orF2 (nfC R q.1) (nfC R q.2)).1.size
    · rw [if_pos c3] at hc; cases hc
    rw [if_neg c3] at hc ⊢
    by_cases c4 : 12 < (nextF R (orF2 (nfC R q.1) (nfC R q.2))).length
    · rw [if_pos c4] at hc; cases hc
    rw [if_neg c4] at hc ⊢
    by_cases c5 : 400 < (Qt ++ goneF R (orF2 (nfC R q.1) (nfC R q.2)).1 ++ newQ (nextF R (orF2 (nfC R q.1) (nfC R q.2)))).length
    · rw [if_pos c5] at hc; cases hc
    rw [if_neg c5]
    have hr := orF2_new h.sys hq c2 c3
    have hs2 := nextF_sys h.sys hr c4
    refine ⟨hs2, Nat.not_lt.1 c5, fun p hp => ?_, by show T + 1 ≤ 200; omega⟩
    rcases List.mem_append.1 hp with hp | hp
    · rcases List.mem_append.1 hp with hp | hp
      · exact h.word p (List.mem_cons_of_mem _ hp)
      · exact (h.sys.1.2 p ((List.mem_filter.1 hp).1)).1.1
    · exact newQ_word hs2 p hp
/-- a completion: turns one after the other, until no equation is left or a turn fails -/
inductive RunIs : List RulD → List RulD → Nat → Nat → List RulD → List RulD → Nat → Prop
  | done {R : List RulD} {T : Nat} : RunIs R [] T 0 R [] T
  | fail {R Q : List RulD} {T : Nat} : Q ≠ [] → (turnF R Q T).1 ≠ 0 → RunIs R Q T (turnF R Q T).1 R Q T
  | step {R Q : List RulD} {T c : Nat} {R' Q' : List RulD} {T' : Nat} : Q ≠ [] → (turnF R Q T).1 = 0 → RunIs (turnF R Q T).2.1 (turnF R Q T).2.2.1 (turnF R Q T).2.2.2 c R' Q' T' → RunIs R Q T c R' Q' T'
theorem RunIs.uniq {R Q : List RulD} {T c1 c2 : Nat} {R1 R2 Q1 Q2 : List RulD} {T1 T2 : Nat} (a : RunIs R Q T c1 R1 Q1 T1) (b : RunIs R Q T c2 R2 Q2 T2) : c1 = c2 ∧ R1 = R2 ∧ Q1 = Q2 ∧ T1 = T2 := by
  induction a generalizing c2 R2 Q2 T2 with
  | done =>
    cases b with
    | done => exact ⟨rfl, rfl, rfl, rfl⟩
    | fail h _ => exact absurd rfl h
    | step h _ _ => exact absurd rfl h
  | fail h1 h2 =>
    cases b with
    | done => exact absurd rfl h1
    | fail _ _ => exact ⟨rfl, rfl, rfl, rfl⟩
    | step _ h3 _ => exact absurd h3 h2
  | step h1 h2 _ ih =>
    cases b with
    | done => exact absurd rfl h1
    | fail _ h3 => exact absurd h2 h3
    | step _ _ b => exact ih b
end Go.Proofs.YtdhaebbfiaddnaaGreatDoor
