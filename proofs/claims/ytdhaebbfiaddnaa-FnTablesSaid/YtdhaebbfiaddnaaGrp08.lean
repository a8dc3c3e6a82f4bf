/-
  The table of a complete system, as plain data.
-/
import Derived.Test.YtdhaebbfiaddnaaGrp07
import Derived.Test.YtdhaebbfiaddnaaGrp06
import Derived.Test.YtdhaebbfiaddnaaGrp02
namespace Go.Proofs.Ytdhaebbfiaddnaa
open Go.RowKit
set_option linter.unusedVariables false
def rkV : Value → Nat
  | .string v => rk v.data.toList
  | _ => 0
/-- what l04Trace hands back -/
def RetTr (R : List RulD) (w0 : ByteArray) (w : World) (e : Ending) (w' : World) : Prop := ∃ v x, NormIs R w0 x ∧ e = .returned (.tuple #[v, .string x]) ∧ Below w.heap.size w w'
set_option maxRecDepth 100000 in
set_option maxHeartbeats 2000000 in
theorem l04Trace_any (k : Int) (R : List RulD) (a : Option Addr) (cap : Nat) (w0 : ByteArray) (w : World) (hl : RulesIn w a R) (hs : sysP k R) (hw : wordOkB k w0 = true) :
    Calls Try.prog 63 #[.agg #[.int .i64 k, .slice a R.length cap], .string w0] w (RetTr R w0 w) := by
  have HL := Lib.hid hl
  have HS := Lib.hid hs
  have HW := Lib.hid hw
  have HFS := Lib.hid (fun v W h (hv : v.size ≤ 16) => specFirstStep_any k R a cap v W h hs hv)
  have HAS := Lib.hid (fun v x y W h (hv : v.size ≤ 16) hm => specApplyStep_any k R a cap v x y W h hs hv hm)
  have hb1 := alloc_belowS w (.cells #[.int .i64 k, .slice a R.length cap] 52)
  have HBX := Lib.hid (fun W2 (h : Below (w.alloc (.cells #[.int .i64 k, .slice a R.length cap] 52)).heap.size (w.alloc (.cells #[.int .i64 k, .slice a R.length cap] 52)) W2) => box_two h)
  have HTOP := Lib.hid (rk_top (lw_of hw) (wdP_of hw).len)
  clear hl hs hw
  go_enter Try.func63, Try.ntmps63
  go_wp2_with fail
  have HW1 := Lib.hid hb1
  have HB0 : Hid (Bld 99 2 (w.alloc (.cells #[.int .i64 k, .slice a R.length cap] 52)) ((w.alloc (.cells #[.int .i64 k, .slice a R.length cap] 52)).alloc (.cells #[] 99)) (.slice (some ⟨(w.alloc (.cells #[.int .i64 k, .slice a R.length cap] 52)).heap.size, 0, none⟩) 0 0) 0 []) := Lib.hid (Bld.empty 99 2 _)
  have e1 : (w.alloc (.cells #[.int .i64 k, .slice a R.length cap] 52)).heap.size = w.heap.size + 1 := by simp
  rw [e1] at HB0
  generalize w.alloc (.cells #[.int .i64 k, .slice a R.length cap] 52) = w1 at *
  clear hb1 e1
  go_loopw [1, 6] (fun vw vo wr => ∃ (v : ByteArray) (n : Nat) (xs : List Value), vw = .string v ∧ Hid (wordOkB k v = true) ∧ Hid (∀ x, NormIs R v x → NormIs R w0 x) ∧ Bld 99 2 w1 wr vo n xs ∧ n + rk v.data.toList ≤ rk w0.data.toList) (fun vw _ _ => rkV vw)
  case atStart => exact ⟨w0, 0, [], rfl, HW, Lib.hid (fun x h => h), HB0.out, by omega⟩
  case round =>
    clear HB0
    obtain ⟨v, n, xs, rfl, HV, HNI, hbd, hrk⟩ := hrel
    obtain ⟨ao, co, rfl⟩ := owns_form hbd.1
    have HB := Lib.hid hbd
    obtain ⟨s0, s1⟩ := HBX.out wr hbd.2
    have hv16 := (wdP_of HV.out).len
    have HC := Lib.hid (HFS.out v wr (HL.out.later (Below.now HW1.out hbd.2)) hv16)
    have hn5 : n ≤ 152587890625 := by have := HTOP.out; omega
    have HRK := Lib.hid hrk
    clear hbd hrk
    go_wp2_with fail
    refine HC.out.mono ?_
    rintro e w2 ⟨hb2, ⟨s, hh, rfl⟩ | ⟨hh, rfl⟩⟩
    · obtain ⟨x, y⟩ := s
      have hm := head_mem hh
      have HB2 := Lib.hid hb2
      have HLESS := Lib.hid (step_less HS.out hm)
      have HWD : Hid (wordOkB k (applyF R v (x, y)) = true) := Lib.hid (step_word HS.out HV.out hm)
      have HNI2 : Hid (∀ z, NormIs R (applyF R v (x, y)) z → NormIs R w0 z) := Lib.hid (fun z hz => HNI.out z (.step hh hz))
      have HAC := Lib.hid (fun W h => HAS.out v x y W h hv16 hm)
      have s2 := fun o => (HBX.out _ (Below.now HB.out.2 (Below.now hb2 (alloc_belowS w2 o)))).1
      have s3 := fun o => (HBX.out _ (Below.now HB.out.2 (Below.now hb2 (alloc_belowS w2 o)))).2
      have HLL := Lib.hid (fun o => HL.out.later (Below.now HW1.out (Below.now HB.out.2 (Below.now hb2 (alloc_belowS w2 o)))))
      clear hh hm hb2 s0 s1 HC
      generalize applyF R v (x, y) = v2 at *
      go_wp2_with fail
      refine (HAC.out _ (HLL.out _)).mono ?_
      rintro e w3 ⟨rfl, hb3⟩
      obtain ⟨t0, t1⟩ := box_two hb3
      have HB3 := Lib.hid (HB.out.later (Below.now HB2.out (Below.now (alloc_belowS w2 _) hb3)))
      clear hb3 s2 s3 HAC HLL
      go_wp2_with (at_builtin; refine wpList_app1 rfl _ _ rfl Try.underlying93 Try.infoStep2 rfl (by decide) rfl HB3.out rfl ?c1 ?c2 ?c3 ?c4 ?c5)
      case c2 => intro u hu; simp at hu; rcases hu with rfl | rfl <;> rfl
      case c3 => unfold maxLen; omega
      case c4 => omega
      case c1 => rfl
      intro v4 w4 hb4
      obtain ⟨a4, c4, hv4⟩ := owns_form hb4.1
      subst hv4
      have HB4 := Lib.hid hb4
      clear hb4 t0 t1
      go_wp2_with fail
      go_roundw
      case rel => exact ⟨v2, n + 1, _, rfl, HWD, HNI2, HB4.out, by have := HLESS.out; have := HRK.out; omega⟩
      case measure => exact HLESS.out
    · have F : Hid (∀ o, RetTr R w0 w (.returned (.tuple #[.slice ao n co, .string v])) (w2.alloc o)) := Lib.hid (fun o => ⟨_, v, HNI.out v (.done hh), rfl, Below.now HW1.out (Below.now HB.out.2 (Below.now hb2 (alloc_belowS w2 o)))⟩)
      clear hh hb2 s0 s1 HC
      go_wp2_with fail
      go_ret2
      exact F.out _
set_option maxHeartbeats 1000000 in
theorem l04Ok_any (k : Int) (R : List RulD) (a : Option Addr) (cap : Nat) (w0 : ByteArray) (w : World) (hl : RulesIn w a R) (hlen : R.length ≤ 2 ^ 40) (hz : SzR R) (hw : w0.size ≤ maxLen) :
    Calls Try.prog 62 #[.agg #[.int .i64 k, .slice a R.length cap], .string w0] w (RetP (sysP k R ∧ wordOkB k w0 = true) w) := by
  have HL := Lib.hid hl
  have HSO := Lib.hid (fun W h => specSystemOk_any k R a cap W h hlen hz)
  have HWO := Lib.hid (fun W => specWordOk_any k w0 W hw)
  have HBX := Lib.hid (fun W2 (h : Below (w.alloc (.cells #[.int .i64 k, .slice a R.length cap] 52)).heap.size (w.alloc (.cells #[.int .i64 k, .slice a R.length cap] 52)) W2) => box_two h)
  have HA := Lib.hid (fun o => alloc_belowS w o)
  clear hl hz
  go_enter Try.func62, Try.ntmps62
  go_wp2_with fail
  refine (HSO.out _ (HL.out.later (HA.out _))).mono ?_
  rintro e w1 ⟨bb, hbb, rfl, hb1⟩
  obtain ⟨s0, s1⟩ := HBX.out _ hb1
  have HBB := Lib.hid hbb
  have HW1 := Lib.hid (Below.now (HA.out _) hb1)
  clear hbb hb1
  cases bb
  · have F : Hid (RetP (sysP k R ∧ wordOkB k w0 = true) w (.returned (.bool false)) w1) := Lib.hid (RetP.no (fun h => by have := HBB.out.2 h.1; cases this) HW1.out)
    go_wp2_with fail
    go_ret
    exact F.out
  · have F : Hid (RetP (sysP k R ∧ wordOkB k w0 = true) w (.returned (.bool (wordOkB k w0))) w1) := Lib.hid ⟨_, ⟨fun h => ⟨HBB.out.1 rfl, h⟩, fun h => h.2⟩, rfl, HW1.out⟩
    generalize wordOkB k w0 = ok at *
    go_wp2_with fail
    refine (HWO.out _).mono ?_
    rintro e w2 ⟨rfl, rfl⟩
    go_wp2_with fail
    go_ret
    exact F.out
set_option maxHeartbeats 1000000 in
theorem specNormalForm_ok (k : Int) (R : List RulD) (a : Option Addr) (cap : Nat) (w0 : ByteArray) (w : World) (hl : RulesIn w a R) (hs : sysP k R) (hw : wordOkB k w0 = true) :
    Calls Try.prog 49 #[.agg #[.int .i64 k, .slice a R.length cap], .string w0] w fun e w' => ∃ x, NormIs R w0 x ∧ e = .returned (.tuple #[.string x, .bool true]) ∧ Below w.heap.size w w' := by
  have HL := Lib.hid hl
  have hz : SzR R := fun j hj => by have := (hs.1.2 _ (nthR_mem hj)).1.2; unfold maxLen; omega
  have HOK := Lib.hid (fun W h => l04Ok_any k R a cap w0 W h (by have := hs.1.1.2; omega) hz (by have := (wdP_of hw).len; unfold maxLen; omega))
  have HYES : Hid (sysP k R ∧ wordOkB k w0 = true) := Lib.hid ⟨hs, hw⟩
  have HTR := Lib.hid (fun W h => l04Trace_any k R a cap w0 W h hs hw)
  have HBX := Lib.hid (fun W2 (h : Below (w.alloc (.cells #[.int .i64 k, .slice a R.length cap] 52)).heap.size (w.alloc (.cells #[.int .i64 k, .slice a R.length cap] 52)) W2) => box_two h)
  have HA := Lib.hid (fun o => alloc_belowS w o)
  clear hl hz hs hw
  go_enter Try.func49, Try.ntmps49
  go_wp2_with fail
  refine (HOK.out _ (HL.out.later (HA.out _))).mono ?_
  rintro e w1 ⟨bb, hbb, rfl, hb1⟩
  obtain rfl := hbb.2 HYES.out
  obtain ⟨s0, s1⟩ := HBX.out _ hb1
  have HW1 := Lib.hid (Below.now (HA.out _) hb1)
  clear hbb hb1
  go_wp2_with fail
  refine (HTR.out _ (HL.out.later HW1.out)).mono ?_
  rintro e w2 ⟨v, x, hx, rfl, hb2⟩
  have HX := Lib.hid hx
  have HW2 := Lib.hid (Below.now HW1.out hb2)
  clear hx hb2
  go_wp2_with fail
  go_ret2
  exact ⟨x, HX.out, rfl, HW2.out⟩
end Go.Proofs.Ytdhaebbfiaddnaa
namespace Go.Proofs.Ytdhaebbfiaddnaa
open Go.RowKit
set_option linter.unusedVariables false
theorem stTo_none {R : List RulD} {w : ByteArray} {i k : Nat} (h0 : stTo R w i k = []) (h : preAt w i (nthR R k).1 = false) : stTo R w i (k + 1) = [] := by rw [stTo_no h, h0]
end Go.Proofs.Ytdhaebbfiaddnaa
namespace Go.Proofs.Ytdhaebbfiaddnaa
open Go.RowKit
set_option linter.unusedVariables false
/-- a box of a step -/
def BoxS (g x y : Nat) (W : World) : Prop := W.heap[g]? = some (.cells #[.int .i64 (x : Nat), .int .i64 (y : Nat)] 99 (0, 0))
theorem BoxS.facts {g x y : Nat} {W : World} (h : BoxS g x y W) : (W.cell? ⟨g, 0, none⟩ = some (.int .i64 (x : Nat)) ∧ W.cell? ⟨g, 1, none⟩ = some (.int .i64 (y : Nat))) ∧ W.frozen? ⟨g, 0, none⟩ = false ∧ W.frozen? ⟨g, 1, none⟩ = false := by
  unfold BoxS at h
  refine ⟨sys_cells h, ?_, ?_⟩ <;> simp [World.frozen?, h]
theorem BoxS.set {g x y : Nat} {W : World} (h : BoxS g x y W) (x2 y2 : Nat) : BoxS g x2 y2 ((W.setCell ⟨g, 0, none⟩ (.int .i64 (x2 : Nat))).setCell ⟨g, 1, none⟩ (.int .i64 (y2 : Nat))) := by
  unfold BoxS at *
  unfold World.setCell
  simp [Array.getElem?_modify, h]
theorem BoxS.later {g x y : Nat} {W W' : World} (h : BoxS g x y W) (hb : Below W.heap.size W W') : BoxS g x y W' := (hb.block g (Array.getElem?_eq_some_iff.1 h).1).trans h
/-- what is known of the first step -/
def FsP (R : List RulD) (v : ByteArray) (x y : Nat) (b : Bool) : Prop := (b = true ∧ (stepsF R v).head? = some (x, y)) ∨ (b = false ∧ (stepsF R v).head? = none ∧ x = 0 ∧ y = 0)
theorem RetFS.form {R : List RulD} {v : ByteArray} {w : World} {e : Ending} {w' : World} (h : RetFS R v w e w') : ∃ x y b, FsP R v x y b ∧ e = .returned (.tuple #[.agg #[.int .i64 (x : Nat), .int .i64 (y : Nat)], .bool b]) ∧ Below w.heap.size w w' := by
  obtain ⟨hb, ⟨s, hs, rfl⟩ | ⟨hs, rfl⟩⟩ := h
  · exact ⟨s.1, s.2, true, .inl ⟨rfl, hs⟩, rfl, hb⟩
  · exact ⟨0, 0, false, .inr ⟨rfl, hs, rfl, rfl⟩, rfl, hb⟩
/-- what normal hands back -/
def RetNo (R : List RulD) (w0 : ByteArray) (w : World) (e : Ending) (w' : World) : Prop := ∃ x, NormIs R w0 x ∧ e = .returned (.string x) ∧ Below w.heap.size w w'
end Go.Proofs.Ytdhaebbfiaddnaa
namespace Go.Proofs.Ytdhaebbfiaddnaa
open Go.RowKit
set_option linter.unusedVariables false
/-- rules that make a word less -/
def sysW (k : Int) (R : List RulD) : Prop := ((1 ≤ k ∧ k ≤ 4) ∧ ∀ r ∈ R, ruleP k r) ∧ ∀ r ∈ R, lessS r.2 r.1 = true
theorem sysP.weak {k : Int} {R : List RulD} (h : sysP k R) : sysW k R := ⟨⟨h.1.1.1, h.1.2⟩, h.2⟩
/-- a step of an ordered system makes a word less -/
theorem step_lessW {k : Int} {R : List RulD} (hs : sysW k R) {w : ByteArray} {s : Nat × Nat} (hm : s ∈ stepsF R w) : rk (applyF R w s).data.toList < rk w.data.toList := by
  obtain ⟨h1, h2, h3⟩ := mem_stepsF.1 hm
  have hr := nthR_mem h2
  have hp := hs.1.2 _ hr
  have hl := hs.2 _ hr
  unfold applyF
  rw [replF_list]
  conv => rhs; rw [split_at h3]
  exact rk_swap (lw_of hp.1.1.1) (lw_of hp.1.1.2) hl
theorem step_sizeW {k : Int} {R : List RulD} (hs : sysW k R) {w : ByteArray} {s : Nat × Nat} (hm : s ∈ stepsF R w) : (applyF R w s).size ≤ w.size ∧ s.2 + (nthR R s.1).1.size ≤ w.size := by
  obtain ⟨h1, h2, h3⟩ := mem_stepsF.1 hm
  have hr := nthR_mem h2
  have hp := hs.1.2 _ hr
  have hl := hs.2 _ hr
  have hf := preAt_fits h3 (by have := hp.2; omega)
  have hle : (nthR R s.1).2.size ≤ (nthR R s.1).1.size := by
    unfold lessS ltW at hl
    have e1 : (blW (nthR R s.1).1).length = (nthR R s.1).1.size := rfl
    have e2 : (blW (nthR R s.1).2).length = (nthR R s.1).2.size := rfl
    rcases of_decide_eq_true hl with h | ⟨h, _⟩ <;> omega
  refine ⟨?_, hf⟩
  unfold applyF
  rw [replF_size hf]
  omega
theorem step_wordW {k : Int} {R : List RulD} (hs : sysW k R) {w : ByteArray} (hw : wordOkB k w = true) {s : Nat × Nat} (hm : s ∈ stepsF R w) : wordOkB k (applyF R w s) = true := by
  obtain ⟨h1, h2, h3⟩ := mem_stepsF.1 hm
  have hp := hs.1.2 _ (nthR_mem h2)
  obtain ⟨a1, a2, a3⟩ := wordOk_iff.1 hw
  obtain ⟨b1, b2, b3⟩ := wordOk_iff.1 hp.1.1.2
  refine wordOk_iff.2 ⟨a1, Nat.le_trans (step_sizeW hs hm).1 a2, fun y hy => ?_⟩
  unfold applyF at hy
  rw [replF_list] at hy
  rcases List.mem_append.1 hy with hy | hy
  · exact a3 y ((List.take_sublist _ _).subset hy)
  rcases List.mem_append.1 hy with hy | hy
  · exact b3 y hy
  · exact a3 y ((List.drop_sublist _ _).subset hy)
theorem NormIs.exW {k : Int} {R : List RulD} (hs : sysW k R) : ∀ (n : Nat) (w : ByteArray), rk w.data.toList < n → wordOkB k w = true → ∃ x, NormIs R w x ∧ wordOkB k x = true
  | 0, w, h, _ => by omega
  | n + 1, w, h, hw => by
    cases hh : (stepsF R w).head? with
    | none => exact ⟨w, .done hh, hw⟩
    | some s =>
      have hm := head_mem hh
      have h1 := step_lessW hs hm
      obtain ⟨x, hx, hx2⟩ := NormIs.exW hs n (applyF R w s) (by omega) (step_wordW hs hw hm)
      exact ⟨x, .step hh hx, hx2⟩
theorem NormIs.wordW {k : Int} {R : List RulD} (hs : sysW k R) {w x : ByteArray} (h : NormIs R w x) (hw : wordOkB k w = true) : wordOkB k x = true := by
  obtain ⟨y, h1, h2⟩ := NormIs.exW hs _ w (Nat.lt_succ_self _) hw
  rw [h.uniq h1]; exact h2
theorem left8W {k : Int} {R : List RulD} (hs : sysW k R) (r : Nat) : (nthR R r).1.size ≤ 8 := by
  by_cases h : r < R.length
  · exact (hs.1.2 _ (nthR_mem h)).1.2.1
  · rw [nthR_dflt h]; exact Nat.zero_le _
theorem apply_okW {k : Int} {R : List RulD} (hs : sysW k R) {w0 : ByteArray} (hw : w0.size ≤ 16) {s : Nat × Nat} (hm : s ∈ stepsF R w0) : s.2 + (nthR R s.1).1.size ≤ w0.size ∧ w0.size - (nthR R s.1).1.size + (nthR R s.1).2.size ≤ 16 := by
  have h := step_sizeW hs hm
  have h2 := h.1
  unfold applyF at h2
  rw [replF_size h.2] at h2
  exact ⟨h.2, by omega⟩
end Go.Proofs.Ytdhaebbfiaddnaa
namespace Go.Proofs.Ytdhaebbfiaddnaa
open Go.RowKit
set_option linter.unusedVariables false
open Classical in
/-- the normal form of a word, if there is one -/
noncomputable def nfC (R : List RulD) (u : ByteArray) : ByteArray := if h : ∃ x, NormIs R u x then Classical.choose h else ⟨#[]⟩
theorem nfC_eq {R : List RulD} {u x : ByteArray} (h : NormIs R u x) : nfC R u = x := by
  have h1 : ∃ x, NormIs R u x := ⟨x, h⟩
  unfold nfC
  rw [dif_pos h1]
  exact (Classical.choose_spec h1).uniq h
/-- the place of a word among words -/
def idxTo (L : List ByteArray) (v : ByteArray) (j : Nat) : Option Nat := (List.range j).find? fun i => (nthS L i).toList == v.toList
def idxB (L : List ByteArray) (v : ByteArray) : Int := match idxTo L v L.length with | some i => (i : Int) | none => -1
theorem idxTo_zero (L : List ByteArray) (v : ByteArray) : idxTo L v 0 = none := rfl
theorem idxTo_succ {L : List ByteArray} {v : ByteArray} {j : Nat} (h : idxTo L v j = none) (hne : ((nthS L j).toList == v.toList) = false) : idxTo L v (j + 1) = none := by
  unfold idxTo at *
  rw [List.range_succ, List.find?_append, h]
  simp [hne]
theorem idxB_at {L : List ByteArray} {v : ByteArray} {j : Nat} (h : idxTo L v j = none) (hj : j < L.length) (he : ((nthS L j).toList == v.toList) = true) : idxB L v = (j : Int) := by
  have h1 : idxTo L v (j + 1) = some j := by
    unfold idxTo at *
    rw [List.range_succ, List.find?_append, h]
    simp [he]
  have h2 : idxTo L v L.length = some j := by
    obtain ⟨d, hd⟩ := Nat.exists_eq_add_of_le hj
    rw [hd]
    unfold idxTo at *
    rw [List.range_add, List.find?_append, show j.succ = j + 1 from rfl, h1]
    rfl
  unfold idxB
  rw [h2]
theorem idxB_none {L : List ByteArray} {v : ByteArray} {j : Nat} (h : idxTo L v j = none) (hj : ¬ j < L.length) (hl : j ≤ L.length) : idxB L v = -1 := by
  obtain rfl : j = L.length := by omega
  unfold idxB
  rw [h]
/-- the entries of a row of the table, up to a column -/
noncomputable def rowTo (R : List RulD) (L : List ByteArray) (i j : Nat) : List Int := (List.range j).map fun b => idxB L (nfC R (nthS L i ++ nthS L b))
/-- the entries of the rows before i, and of the row i up to a column -/
noncomputable def prodTo (R : List RulD) (L : List ByteArray) (i j : Nat) : List Int := ((List.range i).flatMap fun a => rowTo R L a L.length) ++ rowTo R L i j
noncomputable def prodF (R : List RulD) (L : List ByteArray) : List Int := (List.range L.length).flatMap fun a => rowTo R L a L.length
theorem prodTo_start (R : List RulD) (L : List ByteArray) : prodTo R L 0 0 = [] := rfl
theorem prodTo_step (R : List RulD) (L : List ByteArray) (i j : Nat) : prodTo R L i (j + 1) = prodTo R L i j ++ [idxB L (nfC R (nthS L i ++ nthS L j))] := by
  unfold prodTo rowTo
  rw [List.range_succ, List.map_append, List.append_assoc]
  rfl
theorem prodTo_next (R : List RulD) (L : List ByteArray) (i : Nat) : prodTo R L i L.length = prodTo R L (i + 1) 0 := by
  unfold prodTo
  rw [List.range_succ, List.flatMap_append]
  simp [rowTo]
theorem prodTo_done (R : List RulD) (L : List ByteArray) : prodTo R L L.length 0 = prodF R L := by
  unfold prodTo prodF
  simp [rowTo]
theorem prodTo_len (R : List RulD) (L : List ByteArray) (i j : Nat) : (prodTo R L i j).length = i * L.length + j := by
  unfold prodTo
  rw [List.length_append]
  have h : ∀ n, ((List.range n).flatMap fun a => rowTo R L a L.length).length = n * L.length := fun n => by
    induction n with
    | zero => simp
    | succ n ih =>
      rw [List.range_succ, List.flatMap_append, List.length_append, ih, Nat.succ_mul]
      simp [rowTo]
  rw [h]
  simp [rowTo]
theorem prodTo_few {R : List RulD} {L : List ByteArray} (h : L.length ≤ 40) {i j : Nat} (hi : i ≤ L.length) (hj : j ≤ L.length) : (prodTo R L i j).length ≤ 1640 := by
  rw [prodTo_len]
  have : i * L.length ≤ 40 * 40 := Nat.mul_le_mul (by omega) h
  omega
end Go.Proofs.Ytdhaebbfiaddnaa
