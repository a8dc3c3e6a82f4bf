/-
  The walk of 'FnExactCompleteLine': CompleteLine of the program and of the reference, called on copies of the arguments.
-/
import Derived.Test.YtgoeadgpbidgiaaGreatDoorCom24
import Derived.Test.YtgoeadgpbidgiaaGreatDoorCom23
import Derived.Test.YtgoeadgpbidgiaaGreatDoorCom12
import Derived.Test.YtgoeadgpbidgiaaGreatDoorCom13
import Derived.Test.YtgoeadgpbidgiaaGreatDoorCom04
import Derived.Test.YtgoeadgpbidgiaaGreatDoorCom03
import Derived.Test.YtgoeadgpbidgiaaGreatDoorCom05
import Derived.Deep.Slices
import Derived.ChangeSame
import Derived.ChangeMaps
import Derived.Test.YtgoeadgpbidgiaaGreatDoorCom11
import Derived.Test.YtgoeadgpbidgiaaGreatDoorCom07
import Derived.Deep.RegionHeld3
namespace Go.Proofs.YtgoeadgpbidgiaaGreatDoor
open Go.RowKit
set_option linter.unusedVariables false
theorem turn_code (R Q : List RulD) (T : Nat) : (turnF R Q T).1 ≤ 3 := by
  cases Q with
  | nil => exact Nat.zero_le _
  | cons q Qt =>
    unfold turnF
    simp only
    repeat' split
    all_goals simp
theorem RunIs.code {R Q : List RulD} {T c : Nat} {R' Q' : List RulD} {T' : Nat} (r : RunIs R Q T c R' Q' T') : c ≤ 3 := by
  induction r with
  | done => omega
  | fail _ _ => exact turn_code _ _ _
  | step _ _ _ ih => exact ih
/-- the line at the end of a completion -/
noncomputable def lineC (k : Int) (c : Nat) (R : List RulD) : ByteArray := if c = 0 then sysT0 k R else ⟨#[99, 111, 100, 101, 32]⟩ ++ numB (c : Int)
def CLine (k : Int) (E : List RulD) (s : ByteArray) : Prop :=
  (startP k E ∧ ∃ c R Q T, RunIs [] E 0 c R Q T ∧ s = lineC k c R) ∨ (¬ startP k E ∧ s = lineC k 4 [])
theorem CLine.uniq {k : Int} {E : List RulD} {s t : ByteArray} (a : CLine k E s) (b : CLine k E t) : s = t := by
  rcases a with ⟨a1, c, R, Q, T, ar, rfl⟩ | ⟨a1, rfl⟩
  · rcases b with ⟨b1, c2, R2, Q2, T2, br, rfl⟩ | ⟨b1, rfl⟩
    · obtain ⟨rfl, rfl, _, _⟩ := ar.uniq br
      rfl
    · exact absurd a1 b1
  · rcases b with ⟨b1, _⟩ | ⟨b1, rfl⟩
    · exact absurd b1 a1
    · rfl
def RetCL (k : Int) (E : List RulD) (w : World) (e : Ending) (w' : World) : Prop := ∃ s, CLine k E s ∧ e = .returned (.string s) ∧ Below w.heap.size w w'
theorem lineC_zero (k : Int) (R : List RulD) : lineC k 0 R = sysT0 k R := if_pos rfl
theorem lineC_code {k : Int} {c : Nat} (R : List RulD) (h : ¬ c = 0) : lineC k c R = ⟨#[99, 111, 100, 101, 32]⟩ ++ numB (c : Int) := if_neg h
set_option maxRecDepth 20000 in
set_option maxHeartbeats 2000000 in
theorem specCompleteLine_any (k : Int) (E : List RulD) (a : Option Addr) (cap : Nat) (w : World) (hl : RulesIn w a E) (hlen : E.length ≤ 2 ^ 40) (hz : SzR E) :
    Calls Tryz.prog 7 #[.int .i64 k, .slice a E.length cap] w (RetCL k E w) := by
  have HC := Lib.hid (specComplete_any k E a cap w hl hlen hz)
  clear hl hz
  go_enter Tryz.func7, Tryz.ntmps7
  go_wp2_with fail
  refine HC.out.mono ?_
  rintro e w2 hr
  rcases hr with ⟨hst, c, R, Q, T, aR, cR, hrun, rfl, hR, hb2⟩ | ⟨hst, rfl, hb2⟩
  · have HB4 := Lib.hid (Below.now hb2 (alloc_belowS w2 (.cells #[.int .i64 k, .slice aR R.length cR] 33)))
    have HR4 := Lib.hid (hR.later (alloc_belowS w2 (.cells #[.int .i64 k, .slice aR R.length cR] 33)))
    obtain ⟨s0, s1, _, _⟩ := rec_cells (alloc_at w2 (.cells #[.int .i64 k, .slice aR R.length cR] 33))
    have HW := Lib.hid (hrun.work hst.work).1
    have HCD := Lib.hid hrun.code
    by_cases hc : c = 0
    · have hc2 : ((c : Nat) : Int) = 0 := by omega
      have HL : Hid (CLine k E (sysT0 k R)) := Lib.hid (.inl ⟨hst, c, R, Q, T, hrun, by subst hc; exact (lineC_zero k R).symm⟩)
      have HF := Lib.hid (specFormatSystem_any k R aR cR _ HR4.out (by have := HW.out.sys.1.1.2; omega) (szR_of HW.out.sys))
      clear hst hrun hR hb2 HC hc
      rw [hc2]
      clear hc2
      go_wp2_with fail
      refine HF.out.mono ?_
      rintro e w5 ⟨rfl, hb5⟩
      have HB5 := Lib.hid (Below.now HB4.out hb5)
      clear hb5 HF s0 s1
      go_wp2_with fail
      go_ret
      exact ⟨_, HL.out, rfl, HB5.out⟩
    · have hc2 : (((c : Nat) : Int) == 0) = false := by rw [beq_eq_false_iff_ne]; omega
      have hc3 : ¬ ((c : Nat) : Int) = 0 := by omega
      have HL : Hid (CLine k E (⟨#[99, 111, 100, 101, 32]⟩ ++ numB (c : Int))) := Lib.hid (.inl ⟨hst, c, R, Q, T, hrun, (lineC_code R hc).symm⟩)
      have hn := itoa_len (n := (c : Int)) (by have := HCD.out; omega) (by have := HCD.out; omega)
      have HF := Lib.hid (specFormatInt_any (c : Int) (w2.alloc (.cells #[.int .i64 k, .slice aR R.length cR] 33)) (by have := HCD.out; omega) (by have := HCD.out; omega))
      have HNB : Hid (numB (c : Int) = ⟨(Lib.itoa (c : Int)).toArray⟩) := Lib.hid rfl
      rw [← HNB.out] at HF
      generalize numB (c : Int) = nb at *
      have n1 : ¬ 9223372036854775807 < 5 + nb.size := by omega
      clear hst hrun hR hb2 HC hc hn HNB
      go_wp2_with fail
      refine HF.out.mono ?_
      rintro e w5 ⟨rfl, hb5⟩
      have HB5 := Lib.hid (Below.now HB4.out hb5)
      clear hb5 HF s0 s1
      go_wp2_with fail
      go_ret
      exact ⟨_, HL.out, rfl, HB5.out⟩
  · have HB4 := Lib.hid (Below.now hb2 (alloc_belowS w2 (.cells #[.int .i64 0, .slice none 0 0] 33)))
    have HL : Hid (CLine k E (⟨#[99, 111, 100, 101, 32]⟩ ++ numB (4 : Int))) := Lib.hid (.inr ⟨hst, (lineC_code (c := 4) [] (by decide)).symm⟩)
    have hn := itoa_len (n := (4 : Int)) (by omega) (by omega)
    have HF := Lib.hid (specFormatInt_any (4 : Int) (w2.alloc (.cells #[.int .i64 0, .slice none 0 0] 33)) (by omega) (by omega))
    have HNB : Hid (numB (4 : Int) = ⟨(Lib.itoa (4 : Int)).toArray⟩) := Lib.hid rfl
    rw [← HNB.out] at HF
    generalize numB (4 : Int) = nb at *
    have n1 : ¬ 9223372036854775807 < 5 + nb.size := by omega
    clear hst hb2 HC hn HNB
    go_wp2_with fail
    refine HF.out.mono ?_
    rintro e w5 ⟨rfl, hb5⟩
    have HB5 := Lib.hid (Below.now HB4.out hb5)
    clear hb5 HF
    go_wp2_with fail
    go_ret
    exact ⟨_, HL.out, rfl, HB5.out⟩
end Go.Proofs.YtgoeadgpbidgiaaGreatDoor
namespace Go.Proofs.YtgoeadgpbidgiaaGreatDoor
open Go.RowKit
set_option linter.unusedVariables false
set_option maxRecDepth 20000 in
set_option maxHeartbeats 1000000 in
theorem implFormatRule_any (x y : ByteArray) (w : World) (hx : x.size + y.size + 3 ≤ maxLen) :
    Calls Tryz.prog 48 #[.agg #[.string x, .string y]] w fun e w' => e = .returned (.string (ruleT (x, y))) ∧ Below w.heap.size w w' := by
  have h1 := dotB_size x
  have h2 := dotB_size y
  unfold maxLen at hx
  have P1 := Lib.hid (fun W => dotted_any x W)
  have P2 := Lib.hid (fun W => dotted_any y W)
  have HR : Hid (ruleT (x, y) = dotB x ++ ⟨#[62]⟩ ++ dotB y) := Lib.hid rfl
  generalize ruleT (x, y) = rt at *
  generalize dotB x = a at *
  generalize dotB y = b at *
  have c1 : ¬ 9223372036854775807 < a.size + 1 := by omega
  have c3 : ¬ 9223372036854775807 < a.size + 1 + b.size := by omega
  go_enter Tryz.func48, Tryz.ntmps48
  go_wp2_with fail
  obtain ⟨w0, hw0⟩ : ∃ w0, w0 = (w.alloc (.cells #[.string x, .string y] 39)) := ⟨_, rfl⟩
  have HX : Hid (Below w.heap.size w w0) := Lib.hid (by rw [hw0]; exact (Below.refl _ _).alloc (Nat.le_refl _) _)
  have hx0 : ∀ W, Below w0.heap.size w0 W → W.cell? ⟨w.heap.size, 0, none⟩ = some (.string x) := fun W hW => by rw [hW.cell (by rw [hw0]; simp), hw0]; simp
  have hx1 : ∀ W, Below w0.heap.size w0 W → W.cell? ⟨w.heap.size, 1, none⟩ = some (.string y) := fun W hW => by rw [hW.cell (by rw [hw0]; simp), hw0]; simp
  rw [← hw0]
  clear hw0
  have q0 : ∀ x, (wide w0 x).cell? ⟨w.heap.size, 0, none⟩ = some _ := wide_cell (hx0 _ (Below.refl _ _))
  have q1 : ∀ x, (wide w0 x).cell? ⟨w.heap.size, 1, none⟩ = some _ := wide_cell (hx1 _ (Below.refl _ _))
  clear hx0 hx1
  refine region_wide (by kernel_rfl) (by kernel_rfl) ?_
  repeat (quiet_step (first
    | (go_at_call 95; refine (P1.out _).mono ?_; rintro e w2 ⟨rfl, rfl⟩; exact ⟨rfl, _, rfl⟩)
    | (go_at_call 95; refine (P2.out _).mono ?_; rintro e w2 ⟨rfl, rfl⟩; exact ⟨rfl, _, rfl⟩)))
  refine wpQuiet_nil ?_
  rintro w4 ⟨x4, rfl⟩
  have hend := Below.now HX.out (below_wide w0 x4)
  clear q0 q1
  go_wp2_with fail
  go_ret
  exact ⟨ret_str HR.out.symm, hend⟩
end Go.Proofs.YtgoeadgpbidgiaaGreatDoor
namespace Go.Proofs.YtgoeadgpbidgiaaGreatDoor
open Go.RowKit
set_option linter.unusedVariables false
def sysL (k : Int) (R : List RulD) (j : Nat) : List ByteArray := numB k :: (R.take j).map ruleT
theorem sysL_len {k : Int} {R : List RulD} {j : Nat} (h : j ≤ R.length) : (sysL k R j).length = j + 1 := by
  simp [sysL]; omega
theorem sysL_succ {k : Int} {R : List RulD} {j : Nat} (h : j < R.length) : sysL k R (j + 1) = sysL k R j ++ [ruleT (nthR R j)] := by
  unfold sysL
  rw [List.take_succ_eq_append_getElem h, List.map_append, nthR_lt h]
  rfl
theorem sysL_nth {k : Int} {R : List RulD} {j : Nat} (h : j < R.length) : nthS (sysL k R R.length) (j + 1) = ruleT (nthR R j) := by
  have e : nthS (sysL k R R.length) (j + 1) = nthS (R.map ruleT) j := by
    unfold sysL
    rw [List.take_length]
    rfl
  rw [e, nthS_lt (by simpa using h), List.getElem_map, nthR_lt h]
theorem sysL_join {k : Int} {R : List RulD} : ∀ j, j ≤ R.length → joinTo (sysL k R R.length) ⟨#[32]⟩ (j + 1) = rulesT (numB k) R j
  | 0, _ => joinTo_one _ _
  | j + 1, h => by
    rw [joinTo_succ _ _ (by omega), sysL_join j (by omega), sysL_nth (by omega)]
    rfl
theorem sysL_all {k : Int} {R : List RulD} : joinF (sysL k R R.length) ⟨#[32]⟩ = rulesT (numB k) R R.length := by
  unfold joinF
  rw [sysL_len (Nat.le_refl _)]
  exact sysL_join _ (Nat.le_refl _)
set_option maxRecDepth 20000 in
set_option maxHeartbeats 2000000 in
theorem implFormatSystem_any (k : Int) (l : List RulD) (a : Option Addr) (cap : Nat) (w : World) (hl : RulesIn w a l) (hlen : l.length ≤ 2 ^ 40) (hz : SzR l) (ht : Tab10 w) :
    Calls Tryz.prog 18 #[.agg #[.int .i64 k, .slice a l.length cap]] w fun e w' => e = .returned (.string (sysT0 k l)) ∧ Below w.heap.size w w' := by
  have HL := Lib.hid hl
  have HR := Lib.hid (fun W h => implRulesOk_any k l a cap W h hlen hz)
  have HA := Lib.hid (fun o => alloc_belowS w o)
  have HT := Lib.hid ht
  clear hl hz ht
  go_enter Tryz.func18, Tryz.ntmps18
  go_wp2_with fail
  refine (HR.out _ (HL.out.later (HA.out _))).mono ?_
  rintro e w2 ⟨bb, hbb, rfl, hb2⟩
  have HBB := Lib.hid hbb
  have hb0 := (hb2.block w.heap.size (by simp)).trans (alloc_at w (.cells #[.int .i64 k, .slice a l.length cap] 33))
  obtain ⟨s0, s1⟩ := sys_cells hb0
  have HW2 := Lib.hid (Below.now (HA.out _) hb2)
  clear hbb hb2 HR
  cases bb
  · have F : Hid (sysT0 k l = ⟨#[]⟩) := Lib.hid (if_neg (fun h => by have := HBB.out.2 h; cases this))
    go_wp2_with fail
    go_ret
    exact ⟨ret_str F.out.symm, HW2.out⟩
  · have HRP := Lib.hid (HBB.out.1 rfl)
    have F : Hid (sysT0 k l = joinF (sysL k l l.length) ⟨#[32]⟩) := Lib.hid (by rw [sysL_all]; exact if_pos HRP.out)
    clear HBB
    have hk1 := HRP.out.1.1
    have hn := itoa_len (n := k) (by omega) (by omega)
    have HF := Lib.hid (fun W h => implFormatInt_any k W (by omega) (by omega) h)
    go_wp2_with fail
    refine (HF.out _ (HT.out.later HW2.out)).mono ?_
    rintro e w3 ⟨rfl, hb3⟩
    have hb03 := (hb3.block w.heap.size (Array.getElem?_eq_some_iff.1 hb0).1).trans hb0
    have HW3 := Lib.hid (Below.now HW2.out hb3)
    obtain ⟨s0, s1⟩ := sys_cells ((alloc_belowS w3 (.cells #[.string (numB k)] 9)).block w.heap.size (Array.getElem?_eq_some_iff.1 hb03).1 |>.trans hb03)
    have HB1 : Hid (Bld 9 1 w (w3.alloc (.cells #[.string (numB k)] 9)) (.slice (some ⟨w3.heap.size, 0, none⟩) 1 1) 1 (strVals (sysL k l 0))) := Lib.hid ⟨World.ownsRow_lit w3 (e := 9) (size := 1) #[.string (numB k)] 1 HW3.out.size (by unfold maxLen; omega) rfl, HW3.out.alloc HW3.out.size _⟩
    have h12 := HRP.out.1.2
    clear hb3 HF hb0 hb03
    go_wp2_with fail
    clear s0 s1
    go_loopw [3, 16] (fun v i wr => ∃ j : Nat, j ≤ l.length ∧ i = .int .i64 (j : Nat) ∧ Bld 9 1 w wr v (j + 1) (strVals (sysL k l j))) (fun _ i _ => l.length - (intOf i).toNat)
    case atStart => exact ⟨0, Nat.zero_le _, rfl, HB1.out⟩
    case round =>
      clear HB1
      obtain ⟨j, hj, rfl, hbd⟩ := hrel
      obtain ⟨a3, c3, rfl⟩ := owns_form hbd.1
      have HB := Lib.hid hbd
      by_cases hlt : j < l.length
      · obtain ⟨b, off, rfl, hb, hc⟩ := (HL.out.later hbd.2).cell hlt
        obtain ⟨c1, c2⟩ := hc j hlt
        have hz2 := (HRP.out.2 _ (nthR_mem hlt)).1.2
        have F1 := Lib.hid (sysL_succ (k := k) hlt)
        clear hc hbd
        have HNE : Hid (nthR l j = ((nthR l j).1, (nthR l j).2)) := Lib.hid rfl
        rw [HNE.out] at F1
        generalize (nthR l j).1 = x at *
        generalize (nthR l j).2 = y at *
        have HFR := Lib.hid (fun W => implFormatRule_any x y W (by unfold maxLen; omega))
        generalize ruleT (x, y) = rt at *
        have HB4 := Lib.hid (HB.out.later (alloc_belowS wr (.cells #[.string x, .string y] 39)))
        clear HNE
        go_wp2_with fail
        refine (HFR.out _).mono ?_
        rintro e w5 ⟨rfl, hb5⟩
        have HB5 := Lib.hid (HB4.out.later hb5)
        clear hb5 HB4 c1 c2
        go_wp2_with (at_builtin; refine wpList_app1 rfl _ _ rfl Tryz.underlying48 Tryz.infoStr rfl (by decide) rfl HB5.out rfl rfl ?c1 ?c2 ?c3 ?c4)
        case c1 => simp [Value.oneCell']
        case c2 => unfold maxLen; omega
        case c3 => omega
        intro v2 w4 hb2
        have F2 : Hid (Bld 9 1 w w4 v2 (j + 1 + 1) (strVals (sysL k l (j + 1)))) := by
          rw [F1.out]; unfold strVals at *; rw [List.map_append]; exact Lib.hid hb2
        clear hb2
        go_wp2_with fail
        go_roundw
        case rel => exact ⟨j + 1, by omega, by go_num, F2.out⟩
        case measure => simp [intOf]; omega
      · obtain rfl : j = l.length := by omega
        have hdl := sysL_len (k := k) (Nat.le_refl l.length)
        have HZ : Hid ((joinF (sysL k l l.length) ⟨#[32]⟩).size ≤ 2 ^ 46) := Lib.hid (by
          rw [sysL_all]
          have h1 := rulesT_size (s := numB k) HRP.out l.length (Nat.le_refl _)
          have h2 : (numB k).size ≤ 100 := by first | exact Nat.le_trans hn (by omega) | (unfold numB; omega) | omega
          omega)
        have hJ := Lib.hid (implJoin_any (sysL k l l.length) ⟨#[32]⟩ a3 c3 wr (owns_strs HB.out.1) (by decide) (by decide) (by omega) (by rw [hdl]; exact owns_capS HB.out.1) HZ.out)
        rw [hdl] at hJ
        have HBW := Lib.hid hbd.2
        clear hbd hdl
        go_wp2_with fail
        refine hJ.out.mono ?_
        rintro e w5 ⟨rfl, hb5⟩
        have HB6 := Lib.hid (Below.now HBW.out hb5)
        clear hb5 hJ
        go_wp2_with fail
        go_ret
        exact ⟨ret_str F.out.symm, HB6.out⟩
end Go.Proofs.YtgoeadgpbidgiaaGreatDoor
namespace Go.Proofs.YtgoeadgpbidgiaaGreatDoor
open Go.RowKit
set_option linter.unusedVariables false
set_option maxRecDepth 20000 in
set_option maxHeartbeats 2000000 in
theorem implCompleteLine_any (k : Int) (E : List RulD) (a : Option Addr) (cap : Nat) (w : World) (hl : RulesIn w a E) (hlen : E.length ≤ 2 ^ 40) (hz : SzR E) (hmx : MaxL w) (ht : Tab10 w) :
    Calls Tryz.prog 9 #[.int .i64 k, .slice a E.length cap] w (RetCL k E w) := by
  have HC := Lib.hid (implComplete_any k E a cap w hl hlen hz hmx)
  have HT := Lib.hid ht
  clear hl hz
  go_enter Tryz.func9, Tryz.ntmps9
  go_wp2_with fail
  refine HC.out.mono ?_
  rintro e w2 hr
  rcases hr with ⟨hst, c, R, Q, T, aR, cR, hrun, rfl, hR, hb2⟩ | ⟨hst, rfl, hb2⟩
  · have HB4 := Lib.hid (Below.now hb2 (alloc_belowS w2 (.cells #[.int .i64 k, .slice aR R.length cR] 33)))
    have HR4 := Lib.hid (hR.later (alloc_belowS w2 (.cells #[.int .i64 k, .slice aR R.length cR] 33)))
    obtain ⟨s0, s1, _, _⟩ := rec_cells (alloc_at w2 (.cells #[.int .i64 k, .slice aR R.length cR] 33))
    have HW := Lib.hid (hrun.work hst.work).1
    have HCD := Lib.hid hrun.code
    by_cases hc : c = 0
    · have hc2 : ((c : Nat) : Int) = 0 := by omega
      have HL : Hid (CLine k E (sysT0 k R)) := Lib.hid (.inl ⟨hst, c, R, Q, T, hrun, by subst hc; exact (lineC_zero k R).symm⟩)
      have HF := Lib.hid (implFormatSystem_any k R aR cR _ HR4.out (by have := HW.out.sys.1.1.2; omega) (szR_of HW.out.sys) (HT.out.later HB4.out))
      clear hst hrun hR hb2 HC hc
      rw [hc2]
      clear hc2
      go_wp2_with fail
      refine HF.out.mono ?_
      rintro e w5 ⟨rfl, hb5⟩
      have HB5 := Lib.hid (Below.now HB4.out hb5)
      clear hb5 HF s0 s1
      go_wp2_with fail
      go_ret
      exact ⟨_, HL.out, rfl, HB5.out⟩
    · have hc2 : (((c : Nat) : Int) == 0) = false := by rw [beq_eq_false_iff_ne]; omega
      have hc3 : ¬ ((c : Nat) : Int) = 0 := by omega
      have HL : Hid (CLine k E (⟨#[99, 111, 100, 101, 32]⟩ ++ numB (c : Int))) := Lib.hid (.inl ⟨hst, c, R, Q, T, hrun, (lineC_code R hc).symm⟩)
      have hn := itoa_len (n := (c : Int)) (by have := HCD.out; omega) (by have := HCD.out; omega)
      have HF := Lib.hid (implFormatInt_any (c : Int) (w2.alloc (.cells #[.int .i64 k, .slice aR R.length cR] 33)) (by have := HCD.out; omega) (by have := HCD.out; omega) (HT.out.later HB4.out))
      have HNB : Hid (numB (c : Int) = ⟨(Lib.itoa (c : Int)).toArray⟩) := Lib.hid rfl
      generalize numB (c : Int) = nb at *
      have n1 : ¬ 9223372036854775807 < 5 + nb.size := by omega
      clear hst hrun hR hb2 HC hc hn HNB
      go_wp2_with fail
      refine HF.out.mono ?_
      rintro e w5 ⟨rfl, hb5⟩
      have HB5 := Lib.hid (Below.now HB4.out hb5)
      clear hb5 HF s0 s1
      go_wp2_with fail
      go_ret
      exact ⟨_, HL.out, rfl, HB5.out⟩
  · have HB4 := Lib.hid (Below.now hb2 (alloc_belowS w2 (.cells #[.int .i64 0, .slice none 0 0] 33)))
    have HL : Hid (CLine k E (⟨#[99, 111, 100, 101, 32]⟩ ++ numB (4 : Int))) := Lib.hid (.inr ⟨hst, (lineC_code (c := 4) [] (by decide)).symm⟩)
    have hn := itoa_len (n := (4 : Int)) (by omega) (by omega)
    have HF := Lib.hid (implFormatInt_any (4 : Int) (w2.alloc (.cells #[.int .i64 0, .slice none 0 0] 33)) (by omega) (by omega) (HT.out.later HB4.out))
    have HNB : Hid (numB (4 : Int) = ⟨(Lib.itoa (4 : Int)).toArray⟩) := Lib.hid rfl
    generalize numB (4 : Int) = nb at *
    have n1 : ¬ 9223372036854775807 < 5 + nb.size := by omega
    clear hst hb2 HC hn HNB
    go_wp2_with fail
    refine HF.out.mono ?_
    rintro e w5 ⟨rfl, hb5⟩
    have HB5 := Lib.hid (Below.now HB4.out hb5)
    clear hb5 HF
    go_wp2_with fail
    go_ret
    exact ⟨_, HL.out, rfl, HB5.out⟩
end Go.Proofs.YtgoeadgpbidgiaaGreatDoor
namespace Go.Proofs.YtgoeadgpbidgiaaGreatDoor
open Go.RowKit Go.ChangeShapes Go.WideShapes Go.ChangeAt Go.Joins Go.Deep
set_option linter.unusedVariables false
section
variable {H : Type} {enc : TypeId × Value → H} {P : Program} {w : World}
/-- the cells of each element, and that they read -/
theorem open_slice_raw {t e : TypeId} {fuel : Nat} {cs0 : List Value} {x0 : DataW H × List MemPlace} (ht : P.underlying t = some (.slice e)) (hpos : 0 < P.cellsOf e)
    (hf : DataW.trod enc P w 0 (fun _ => true) true fuel t cs0 = some x0) : ∃ a len cap, cs0 = [.slice a len cap] ∧ len ≤ maxLen ∧ (len = 0 ∨ ∃ b off, a = some ⟨b, off, none⟩ ∧
      ∀ i, i < len → ∃ (cs : List Value) (n : Nat) (y : DataW H × List MemPlace), cs.length = P.cellsOf e ∧ (∀ k, k < P.cellsOf e → w.cell? ⟨b, off + i * P.cellsOf e + k, none⟩ = cs[k]?) ∧ DataW.trod enc P w 0 (fun _ => true) true n e cs = some y) := by
  rcases open_slice ht hf with ⟨rfl, _⟩ | ⟨a, len, cap, m, n, D, Pl, rfl, hb, hl, hm, hmm, hx, hi⟩
  · exact ⟨none, 0, 0, rfl, Nat.zero_le _, .inl rfl⟩
  · skip
    simp only [if_true] at hmm
    refine ⟨some a, len, cap, rfl, Nat.le_trans hl hm, ?_⟩
    rcases Nat.eq_zero_or_pos len with h0 | h0
    · exact .inl h0
    · obtain ⟨b, off, spot⟩ := a
      have hspot : spot = none := by
        obtain ⟨cs', hc, ht'⟩ := hi 0 (by omega)
        obtain ⟨_, hcl, hat⟩ := World.cells?_some hc
        have := hat 0 hpos
        rw [List.getElem?_eq_getElem (by omega)] at this
        have := World.cell?_spot this
        simpa [Addr.add] using this
      subst hspot
      refine .inr ⟨b, off, rfl, fun i hi' => ?_⟩
      obtain ⟨cs', hc, ht'⟩ := hi i (by omega)
      obtain ⟨_, hcl, hat⟩ := World.cells?_some hc
      refine ⟨cs', n, _, hcl, fun k hk => ?_, ht'⟩
      have := hat k hk
      rw [Go.Deep.add_add, add_plain] at this
      rw [← this, Nat.add_assoc]
end
section
variable {H : Type} {enc : TypeId × Value → H} {P : Program} {w : World}
/-- a slice of rules that came in -/
theorem open_rulesIn {t e : TypeId} {f0 f1 : Field} {fuel : Nat} {cs0 : List Value} {q : DataW H × List MemPlace} (ht : P.underlying t = some (.slice e)) (hs : P.underlying e = some (.struct #[f0, f1])) (hC : P.cellsOf e = 2)
    (h0 : P.underlying f0.type = some .string) (h1 : P.underlying f1.type = some .string) (o0 : f0.offset = 0) (o1 : f1.offset = 1) (k0 : P.cellsOf f0.type = 1) (k1 : P.cellsOf f1.type = 1)
    (h : DataW.trod enc P w 0 (fun _ => true) true fuel t cs0 = some q) : ∃ a l cap, cs0 = [.slice a l.length cap] ∧ RulesIn w a l ∧ l.length ≤ 9223372036854775807 ∧ SzR l := by
  obtain ⟨a, len, cap, rfl, hm, hcase⟩ := open_slice_raw ht (by omega) h
  rw [hC] at hcase
  rcases hcase with rfl | ⟨b, off, rfl, hel⟩
  · exact ⟨a, [], cap, rfl, .inl rfl, by simp, fun j hj => absurd hj (by simp)⟩
  · have key : ∀ i, i < len → ∃ p : RulD, w.cell? ⟨b, off + i * 2, none⟩ = some (.string p.1) ∧ w.cell? ⟨b, off + i * 2 + 1, none⟩ = some (.string p.2) ∧ p.1.size ≤ maxLen ∧ p.2.size ≤ maxLen := fun i hi => by
      obtain ⟨cs, n, y, hcl, hat, htr⟩ := hel i hi
      obtain ⟨y0, y1, m, _, _, hy0, hy1⟩ := trod_struct2 hs htr
      rw [o0, k0] at hy0
      rw [o1, k1] at hy1
      match cs, hcl with
      | [c0, c1], _ =>
        obtain ⟨x0, e0, _, w0⟩ := DataW.trod_string h0 hy0
        obtain ⟨x1, e1, _, w1⟩ := DataW.trod_string h1 hy1
        simp at e0 e1
        subst e0 e1
        have z0 := hat 0 (by omega)
        rw [Nat.add_zero] at z0
        exact ⟨(x0, x1), z0, hat 1 (by omega), w0, w1⟩
    obtain ⟨l, hl, hc⟩ : ∃ l : List RulD, l.length = len ∧ ∀ i, i < len → w.cell? ⟨b, off + i * 2, none⟩ = some (.string (nthR l i).1) ∧ w.cell? ⟨b, off + i * 2 + 1, none⟩ = some (.string (nthR l i).2) ∧ (nthR l i).1.size ≤ maxLen ∧ (nthR l i).2.size ≤ maxLen := by
      refine ⟨(List.range len).map fun i => if h : i < len then Classical.choose (key i h) else (⟨#[]⟩, ⟨#[]⟩), by simp, fun i hi => ?_⟩
      have e : nthR ((List.range len).map fun i => if h : i < len then Classical.choose (key i h) else (⟨#[]⟩, ⟨#[]⟩)) i = Classical.choose (key i hi) := by
        rw [nthR_lt (by simpa using hi)]; simp [hi]
      rw [e]
      exact Classical.choose_spec (key i hi)
    refine ⟨some ⟨b, off, none⟩, l, cap, by rw [hl], ?_, by rw [hl]; unfold maxLen at hm; omega, fun j hj => (hc j (by omega)).2.2⟩
    right
    refine ⟨b, off, rfl, fun i hi => ?_⟩
    have hlen := ruleCells_len l
    have hi2 : i / 2 < l.length := by omega
    obtain ⟨s1, s2⟩ := ruleCells_at l (i / 2) hi2
    obtain ⟨c1, c2, _⟩ := hc (i / 2) (by omega)
    rcases Nat.mod_two_eq_zero_or_one i with h2 | h2
    · have e : i = i / 2 * 2 := by omega
      rw [List.getElem?_eq_getElem (by omega)] at s1
      have s1' : (ruleCells l)[i] = .string (nthR l (i / 2)).1 := by
        have := Option.some.inj s1
        rw [← this]; congr 1
      rw [s1', ← c1, ← e]
    · have e : i = i / 2 * 2 + 1 := by omega
      rw [List.getElem?_eq_getElem (by omega)] at s2
      have s2' : (ruleCells l)[i] = .string (nthR l (i / 2)).2 := by
        have := Option.some.inj s2
        rw [← this]; congr 1
      rw [s2', ← c2, Nat.add_assoc, ← e]
/-- a system that came in -/
theorem open_systemIn {r : Reach} {b0 : Nat} {t e : TypeId} {f0 f1 g0 g1 : Field} {v : Value} {d : DataW H} {p : List MemPlace} (hs : P.underlying t = some (.struct #[f0, f1])) (hone : oneCellFields P #[f0, f1] = true) (hC : P.cellsOf t = 2)
    (h0 : P.underlying f0.type = some (.int .i64)) (h1 : P.underlying f1.type = some (.slice e)) (he : P.underlying e = some (.struct #[g0, g1])) (hCe : P.cellsOf e = 2)
    (j0 : P.underlying g0.type = some .string) (j1 : P.underlying g1.type = some .string) (o0 : g0.offset = 0) (o1 : g1.offset = 1) (k0 : P.cellsOf g0.type = 1) (k1 : P.cellsOf g1.type = 1)
    (hv : Value.okWide P w r b0 t v) (h : DataW.Trod enc P w 0 (fun _ => true) true t v d p) : ∃ n a l cap, v = .agg #[.int .i64 n, .slice a l.length cap] ∧ RulesIn w a l ∧ l.length ≤ 9223372036854775807 ∧ SzR l := by
  obtain ⟨c0, c1, y0, y1, m, rfl, _, _, hy0, hy1⟩ := open_agg2 hs hone hC hv h
  obtain ⟨n, e0, _, _⟩ := DataW.trod_int h0 hy0
  obtain ⟨a, l, cap, e1, hl, hn, hz⟩ := open_rulesIn h1 he hCe j0 j1 o0 o1 k0 k1 hy1
  simp only [List.cons.injEq, and_true] at e0 e1
  subst e0 e1
  exact ⟨n, a, l, cap, rfl, hl, hn, hz⟩
end
end Go.Proofs.YtgoeadgpbidgiaaGreatDoor
namespace Go.Proofs.YtgoeadgpbidgiaaGreatDoor
open Go.RowKit
set_option linter.unusedVariables false
/-- marks: the numbers from k on -/
def markVals (k : Nat) (n : Nat) : List Int := (List.range n).map fun (i : Nat) => ((k + i : Nat) : Int)
theorem markVals_len (k n : Nat) : (markVals k n).length = n := by simp [markVals]
theorem markVals_at {k n j : Nat} (h : j < n) : ((markVals k n).map (Value.int .i64))[j]? = some (.int .i64 ((k + j : Nat) : Int)) := by simp [markVals, h]
theorem markVals_nth {k n j : Nat} (h : j < n) : nthZ (markVals k n) j = ((k + j : Nat) : Int) := by rw [nthZ_lt (by simpa [markVals] using h)]; simp [markVals]
/-- only the row of a slice has turned -/
def OnlyRow (w : World) (a : Option Addr) (w' : World) : Prop := w.grownBy w' (Value.slice a 0 0).ownBlock
/-- what a function leaves that marks a slice -/
def Marked (T : TypeId) (w : World) (base : Nat) (a : Option Addr) (n cap k : Nat) (e : Ending) (w' : World) : Prop :=
  e = .returned (.int .i64 ((k + n : Nat) : Int)) ∧ w'.ownsRow base T 1 (.slice a n cap) n ((markVals k n).map (Value.int .i64)) ∧ OnlyRow w a w'
/-- a row that is being marked -/
def Marking (T : TypeId) (w wr : World) (base : Nat) (a : Option Addr) (n cap k j : Nat) : Prop :=
  ∃ xs, wr.ownsRow base T 1 (.slice a n cap) n xs ∧ xs.take j = ((markVals k n).map (Value.int .i64)).take j ∧ OnlyRow w a wr
theorem Marking.start {T : TypeId} {w : World} {base : Nat} {a : Option Addr} {n cap k : Nat} {xs : List Value} (h : w.ownsRow base T 1 (.slice a n cap) n xs) : Marking T w w base a n cap k 0 :=
  ⟨xs, h, by simp, ⟨rfl, rfl, rfl, Nat.le_refl _, fun _ _ _ => rfl⟩⟩
theorem Marking.addr {T : TypeId} {w wr : World} {base : Nat} {a : Option Addr} {n cap k j : Nat} (h : Marking T w wr base a n cap k j) (hj : j < n) : ∃ g, a = some ⟨g, 0, none⟩ := by
  obtain ⟨xs, ho, _⟩ := h
  rcases ho.2 with ⟨hv, h0⟩ | ⟨g, cap', cur, hv, _⟩
  · omega
  · simp only [Value.slice.injEq] at hv
    exact ⟨g, hv.1⟩
theorem Marking.cell {T : TypeId} {w wr : World} {base g n cap k j : Nat} (h : Marking T w wr base (some ⟨g, 0, none⟩) n cap k j) (hj : j < n) : ∃ v, wr.cell? ⟨g, j, none⟩ = some v := by
  obtain ⟨xs, ho, _⟩ := h
  have h1 := ho.1
  exact ⟨xs[j]'(by omega), by rw [ho.cellAt j (by omega), List.getElem?_eq_getElem]⟩
theorem Marking.frozen {T : TypeId} {w wr : World} {base g n cap k j : Nat} (h : Marking T w wr base (some ⟨g, 0, none⟩) n cap k j) (i : Nat) : wr.frozen? ⟨g, i, none⟩ = false := by
  obtain ⟨xs, ho, _⟩ := h
  exact ho.frozenAt i
theorem only_trans {w w1 w2 : World} {a : Option Addr} (h : OnlyRow w a w1) (h' : OnlyRow w1 a w2) : OnlyRow w a w2 :=
  ⟨h'.os.trans h.os, h'.tape.trans h.tape, h'.output.trans h.output, Nat.le_trans h.size h'.size, fun k hk hne => (h'.block k (Nat.lt_of_lt_of_le hk h.size) hne).trans (h.block k hk hne)⟩
theorem Marking.store {T : TypeId} {w wr : World} {base g n cap k j : Nat} (h : Marking T w wr base (some ⟨g, 0, none⟩) n cap k j) (hj : j < n) :
    Marking T w (wr.setCell ⟨g, j, none⟩ (.int .i64 ((k + j : Nat) : Int))) base (some ⟨g, 0, none⟩) n cap k (j + 1) := by
  obtain ⟨xs, ho, ht, hr⟩ := h
  have h1 := ho.1
  have hs := ho.stored j (.int .i64 ((k + j : Nat) : Int))
  have hu := List.getElem?_eq_some_iff.1 (markVals_at (k := k) hj)
  obtain ⟨hu1, hu2⟩ := hu
  refine ⟨_, hs.1, ?_, only_trans hr hs.2⟩
  rw [← hu2]
  exact fill_step (by simp [markVals]; omega) ht hu1
theorem Marking.done {T : TypeId} {w wr : World} {base : Nat} {a : Option Addr} {n cap k j : Nat} (h : Marking T w wr base a n cap k j) (hj : ¬ j < n) : Marked T w base a n cap k (.returned (.int .i64 ((k + n : Nat) : Int))) wr := by
  obtain ⟨xs, ho, ht, hr⟩ := h
  have h1 := ho.1
  have : xs = (markVals k n).map (Value.int .i64) := fill_done (by simp [markVals]; omega) ht (by simp [markVals]; omega)
  subst this
  exact ⟨rfl, ho, hr⟩
end Go.Proofs.YtgoeadgpbidgiaaGreatDoor
namespace Go.Proofs.YtgoeadgpbidgiaaGreatDoor
open Go.RowKit
set_option linter.unusedVariables false
/-- what toTable hands back -/
def RetTab (T : TypeId) (n : Int) (l : List Int) (w : World) (e : Ending) (w' : World) : Prop :=
  ∃ a cap, e = .returned (.agg #[.int .i64 n, .slice a l.length cap]) ∧ w'.ownsRow w.heap.size T 1 (.slice a l.length cap) l.length (l.map (Value.int .i64)) ∧ Below w.heap.size w w'
theorem owns_only {w w' : World} {base : Nat} {T : TypeId} {size : Nat} {a a' : Option Addr} {n m cap : Nat} {xs : List Value} (h : w.ownsRow base T size (.slice a n cap) m xs) (hr : OnlyRow w a' w')
    (hne : ∀ x y, a = some x → a' = some y → x.block ≠ y.block) : w'.ownsRow base T size (.slice a n cap) m xs := by
  refine h.kept hr ?_
  cases a with
  | none => left; rfl
  | some x =>
    right
    cases a' with
    | none => simp [Value.ownBlock]
    | some y => simpa [Value.ownBlock] using hne x y rfl rfl
theorem below_only {B : Nat} {w w1 w' : World} {a : Option Addr} (h : Below B w w1) (hr : OnlyRow w1 a w') (hB : B ≤ w1.heap.size) (hlo : ∀ x, a = some x → B ≤ x.block) : Below B w w' :=
  h.grown hr hB (fun k hk => by
    cases a with
    | none => simp [Value.ownBlock] at hk
    | some x => simp only [Value.ownBlock, Option.some.injEq] at hk; rw [← hk]; exact hlo x rfl)
theorem owns_range {w : World} {base : Nat} {T : TypeId} {size : Nat} {a : Option Addr} {n m cap : Nat} {xs : List Value} (h : w.ownsRow base T size (.slice a n cap) m xs) : ∀ x, a = some x → base ≤ x.block ∧ x.block < w.heap.size := by
  rintro x rfl
  exact h.lt x.block rfl
end Go.Proofs.YtgoeadgpbidgiaaGreatDoor
namespace Go.Proofs.YtgoeadgpbidgiaaGreatDoor.fnExactCompleteLine
open Go.ChangeShapes Go.WideShapes Go.ChangeAt Go.RowKit Go.Joins
open Go.ChangeMaps (open_string shut_string)
set_option linter.unusedVariables false
set_option maxHeartbeats 1000000 in
theorem walkBig0 (k : Int) (l0 : List RulD) (a0 : Option Addr) (c0 : Nat) (w : World) (hl0 : RulesIn w a0 l0) (hn0 : l0.length ≤ 9223372036854775807) (hr0 : SzR l0) (ht : Tab10 w) (hmx : MaxL w) (hs0 : (1048576 : Int) < (l0.length : Int) + ruleSum l0) :
    Calls Tryz.prog 3 #[.int .i64 k, .slice a0 l0.length c0] w fun e w' => e = .returned (.bool true) ∧ Below w.heap.size w w' := by
  have HS0 := fun w hl => szRuleS_any l0 a0 c0 1048576 w hl hn0 hr0 (by omega) (by omega)
  rw [szRF_big hs0] at HS0
  have HT0 := fun w hl => Lib.hid (HS0 w hl)
  clear HS0
  have HL0 := Lib.hid hl0
  clear hl0
  clear ht
  go_enter Tryz.func3, Tryz.ntmps3
  go_wp2_with fail
  refine (HT0 _ (HL0.out.later (by repeat (first | exact Below.refl _ _ | refine Below.drew ?_ | refine below_drewN ?_ _ | refine Below.alloc ?_ (by simp; try omega) _)))).out.mono ?_
  rintro e u0 ⟨rfl, hb0⟩
  have hk0 : Below w.heap.size w u0 := Below.now (by repeat (first | exact Below.refl _ _ | refine Below.drew ?_ | refine below_drewN ?_ _ | refine Below.alloc ?_ (by simp; try omega) _)) hb0
  clear hb0
  go_wp2_with fail
  go_ret
  exact ⟨rfl, hk0⟩
set_option maxRecDepth 100000 in
set_option maxHeartbeats 2000000 in
theorem walkSmall (k : Int) (l0 : List RulD) (a0 : Option Addr) (c0 : Nat) (w : World) (hl0 : RulesIn w a0 l0) (hn0 : l0.length ≤ 9223372036854775807) (hr0 : SzR l0) (ht : Tab10 w) (hmx : MaxL w) (hs0 : ¬ (1048576 : Int) < (l0.length : Int) + ruleSum l0) :
    Calls Tryz.prog 3 #[.int .i64 k, .slice a0 l0.length c0] w fun e w' => e = .returned (.bool true) ∧ Below w.heap.size w w' := by
  have HS0 := fun w hl => szRuleS_any l0 a0 c0 1048576 w hl hn0 hr0 (by omega) (by omega)
  rw [szRF_ok hs0] at HS0
  have HT0 := fun w hl => Lib.hid (HS0 w hl)
  clear HS0
  have hz0 : l0.length + ruleSum l0 ≤ 1048576 := by omega
  have HL0 := Lib.hid hl0
  have HT10 := Lib.hid ht
  have HMX := Lib.hid hmx
  have HSZ := Lib.hid hr0
  clear ht hmx
  clear hl0
  clear hs0
  go_enter Tryz.func3, Tryz.ntmps3
  go_wp2_with fail
  refine (HT0 _ (HL0.out.later (by repeat (first | exact Below.refl _ _ | refine Below.drew ?_ | refine below_drewN ?_ _ | refine Below.alloc ?_ (by simp; try omega) _)))).out.mono ?_
  rintro e u0 ⟨rfl, hb0⟩
  have hk0 : Below w.heap.size w u0 := Below.now (by repeat (first | exact Below.refl _ _ | refine Below.drew ?_ | refine below_drewN ?_ _ | refine Below.alloc ?_ (by simp; try omega) _)) hb0
  clear hb0
  have hbel := Lib.hid hk0
  clear hk0
  replace HL0 := Lib.hid (HL0.out.later hbel.out)
  have d1 := Below.refl u0.heap.size u0
  go_wp2_with fail
  refine (toRuleS_any l0 a0 c0 _ (HL0.out.later (Below.now d1 (by repeat (first | exact Below.refl _ _ | refine Below.drew ?_ | refine below_drewN ?_ _ | refine Below.alloc ?_ (by simp; try omega) _)))) (by omega)).mono ?_
  rintro e v1 ⟨ap0, cp0, rfl, ho, hb⟩
  have hc : Below u0.heap.size u0 v1 := Below.now (by repeat (first | exact Below.refl _ _ | refine Below.drew ?_ | refine below_drewN ?_ _ | refine Below.alloc ?_ (by simp; try omega) _)) hb
  have hsz := hc.size
  replace d1 := Below.now d1 hc
  have HOp0 : Hid (v1.ownsRow u0.heap.size 39 2 (.slice ap0 l0.length cp0) l0.length (ruleCells l0)) := owns_mono ho (by simp; try omega)
  have lop0 : Hid (u0.heap.size ≤ v1.heap.size) := hc.size
  clear ho hb hc hsz
  have ep0 := Below.refl v1.heap.size v1
  go_wp2_with fail
  refine (specCompleteLine_any k l0 ap0 cp0 _ ((owns_rules (l := l0) HOp0.out).later (Below.now ep0 (by repeat (first | exact Below.refl _ _ | refine Below.drew ?_ | refine below_drewN ?_ _ | refine Below.alloc ?_ (by simp; try omega) _)))) (by omega) HSZ.out).mono ?_
  rintro e v2 ⟨s, hcl, rfl, hb⟩
  have HCL := Lib.hid hcl
  clear hcl
  have hc : Below v1.heap.size v1 v2 := Below.now (by repeat (first | exact Below.refl _ _ | refine Below.drew ?_ | refine below_drewN ?_ _ | refine Below.alloc ?_ (by simp; try omega) _)) hb
  have hsz := hc.size
  replace d1 := Below.now d1 hc
  replace ep0 := Below.now ep0 hc
  clear HOp0 lop0 ep0
  clear hb hc hsz
  have sz3 : Hid (u0.heap.size ≤ v2.heap.size) := d1.size
  have d3 := Below.refl v2.heap.size v2
  go_wp2_with fail
  refine (toRuleS_any l0 a0 c0 _ (HL0.out.later (Below.now d1 (by repeat (first | exact Below.refl _ _ | refine Below.drew ?_ | refine below_drewN ?_ _ | refine Below.alloc ?_ (by simp; try omega) _)))) (by omega)).mono ?_
  rintro e v3 ⟨ax0, cx0, rfl, ho, hb⟩
  have hc : Below v2.heap.size v2 v3 := Below.now (by repeat (first | exact Below.refl _ _ | refine Below.drew ?_ | refine below_drewN ?_ _ | refine Below.alloc ?_ (by simp; try omega) _)) hb
  have hsz := hc.size
  replace d1 := Below.now d1 hc
  replace d3 := Below.now d3 hc
  have HOx0 : Hid (v3.ownsRow v2.heap.size 39 2 (.slice ax0 l0.length cx0) l0.length (ruleCells l0)) := owns_mono ho (by simp; try omega)
  have lox0 : Hid (v2.heap.size ≤ v3.heap.size) := hc.size
  clear ho hb hc hsz
  have ex0 := Below.refl v3.heap.size v3
  go_wp2_with fail
  refine (implCompleteLine_any k l0 ax0 cx0 _ ((owns_rules (l := l0) HOx0.out).later (Below.now ex0 (by repeat (first | exact Below.refl _ _ | refine Below.drew ?_ | refine below_drewN ?_ _ | refine Below.alloc ?_ (by simp; try omega) _)))) (by omega) HSZ.out (HMX.out.later (Below.now hbel.out (Below.now d1 (by repeat (first | exact Below.refl _ _ | refine Below.drew ?_ | refine below_drewN ?_ _ | refine Below.alloc ?_ (by simp; try omega) _))))) (HT10.out.later (Below.now hbel.out (Below.now d1 (by repeat (first | exact Below.refl _ _ | refine Below.drew ?_ | refine below_drewN ?_ _ | refine Below.alloc ?_ (by simp; try omega) _)))))).mono ?_
  rintro e v4 ⟨s2, hcl2, rfl, hb⟩
  obtain rfl := CLine.uniq HCL.out hcl2
  clear hcl2
  have hc : Below v3.heap.size v3 v4 := Below.now (by repeat (first | exact Below.refl _ _ | refine Below.drew ?_ | refine below_drewN ?_ _ | refine Below.alloc ?_ (by simp; try omega) _)) hb
  have hsz := hc.size
  replace d1 := Below.now d1 hc
  replace d3 := Below.now d3 hc
  replace ex0 := Below.now ex0 hc
  clear hb hc hsz
  have d7 := Below.refl v4.heap.size v4
  go_wp2_with fail
  refine (toRuleS_any l0 a0 c0 _ (HL0.out.later (Below.now d1 (by repeat (first | exact Below.refl _ _ | refine Below.drew ?_ | refine below_drewN ?_ _ | refine Below.alloc ?_ (by simp; try omega) _)))) (by omega)).mono ?_
  rintro e v5 ⟨at0, ct0, rfl, ho, hb⟩
  have hc : Below v4.heap.size v4 v5 := Below.now (by repeat (first | exact Below.refl _ _ | refine Below.drew ?_ | refine below_drewN ?_ _ | refine Below.alloc ?_ (by simp; try omega) _)) hb
  have hsz := hc.size
  replace d1 := Below.now d1 hc
  replace d3 := Below.now d3 hc
  replace ex0 := Below.now ex0 hc
  replace d7 := Below.now d7 hc
  have HOt0 : Hid (v5.ownsRow v4.heap.size 39 2 (.slice at0 l0.length ct0) l0.length (ruleCells l0)) := owns_mono ho (by simp; try omega)
  have lot0 : Hid (v4.heap.size ≤ v5.heap.size) := hc.size
  clear ho hb hc hsz
  go_wp2_with fail
  refine (eqRuleS_same l0 ax0 at0 _ _ _ ((owns_rules (l := l0) HOx0.out).later (Below.now ex0 (by repeat (first | exact Below.refl _ _ | refine Below.drew ?_ | refine below_drewN ?_ _ | refine Below.alloc ?_ (by simp; try omega) _)))) ((owns_rules (l := l0) HOt0.out).later (by repeat (first | exact Below.refl _ _ | refine Below.drew ?_ | refine below_drewN ?_ _ | refine Below.alloc ?_ (by simp; try omega) _))) (by omega)).mono ?_
  rintro e v6 ⟨rfl, hb⟩
  have hc : Below v5.heap.size v5 v6 := Below.now (by repeat (first | exact Below.refl _ _ | refine Below.drew ?_ | refine below_drewN ?_ _ | refine Below.alloc ?_ (by simp; try omega) _)) hb
  have hsz := hc.size
  replace d1 := Below.now d1 hc
  replace d3 := Below.now d3 hc
  replace ex0 := Below.now ex0 hc
  replace d7 := Below.now d7 hc
  clear hb hc hsz HOt0 lot0
  go_wp2_with fail
  go_ret
  exact ⟨rfl, Below.now hbel.out d1⟩
theorem walk (k : Int) (l0 : List RulD) (a0 : Option Addr) (c0 : Nat) (w : World) (hl0 : RulesIn w a0 l0) (hn0 : l0.length ≤ 9223372036854775807) (hr0 : SzR l0) (ht : Tab10 w) (hmx : MaxL w) :
    Calls Tryz.prog 3 #[.int .i64 k, .slice a0 l0.length c0] w fun e w' => e = .returned (.bool true) ∧ Below w.heap.size w w' := by
  by_cases hs0 : (1048576 : Int) < (l0.length : Int) + ruleSum l0
  · exact walkBig0 k l0 a0 c0 w hl0 hn0 hr0 ht hmx hs0
  exact walkSmall k l0 a0 c0 w hl0 hn0 hr0 ht hmx hs0
end Go.Proofs.YtgoeadgpbidgiaaGreatDoor.fnExactCompleteLine
