/-
  FirstFit, AvoidsPattern.
-/
import Derived.Test.YtldkghfnlkbmpaaFirst
namespace Go.Proofs.Ytldkghfnlkbmpaa
open Go.RowKit
set_option linter.unusedVariables false
set_option maxRecDepth 20000 in
set_option maxHeartbeats 4000000 in
theorem l28First_any (p s : ByteArray) (w : World) (hp8 : p.size ≤ 8) (hs : s.size ≤ 16) : Calls Try.prog 55 #[.string p, .string s] w (RetFst (outF p s) w) := by
  have HX := Lib.hid (noOut_start p s)
  have hb0 := Below.refl w.heap.size w
  go_enter Try.func55, Try.ntmps55
  go_wp2_with fail
  go_loopw [7] (fun x wr => ∃ i : Nat, i ≤ s.size + 1 ∧ x = .int .i64 i ∧ noOut p s i ∧ Below w.heap.size w wr) (fun x _ => s.size + 1 - (intOf x).toNat)
  case atStart => exact ⟨0, Nat.zero_le _, rfl, HX.out, hb0⟩
  case round =>
    clear HX hb0
    obtain ⟨i, hi, rfl, hno, hbw⟩ := hrel
    have HO := Lib.hid hno
    clear hno
    by_cases hlt : i ≤ s.size
    · have HI0 := Lib.hid (noIn_start p s i)
      go_wp2_with fail
      go_loopw [8] (fun x wr => ∃ k : Nat, i ≤ k ∧ k ≤ s.size + 1 ∧ x = .int .i64 k ∧ noIn p s i k ∧ Below w.heap.size w wr) (fun x _ => s.size + 1 - (intOf x).toNat)
      case atStart => exact ⟨i, Nat.le_refl _, by omega, rfl, HI0.out, hbw⟩
      case round =>
        clear HI0 hbw
        obtain ⟨k, hik, hk, rfl, hni, hbw⟩ := hrel
        have HI := Lib.hid hni
        have HBW := Lib.hid hbw
        clear hni
        by_cases hkl : k ≤ s.size
        · have hs1 : (0 : Int) ≤ (i : Int) := by omega
          have hs2 : (i : Int) ≤ (k : Int) := by omega
          have hs3 : (k : Int) ≤ (s.size : Int) := by omega
          have hs4 : (0 : Int) ≤ (k : Int) := by omega
          have HW := Lib.hid (fun b cap W hb => l28Fits_whole p (s.extract i k) true b 0 cap W hp8 (by rw [ByteArray.size_extract]; omega) hb)
          have HY : Hid (0 < (cutF true (fits (bl (varsOf p)) (bl p) (bl (s.extract i k)) [])).length → outF p s = some (i, k)) := Lib.hid (fun h => outF_at HO.out (by omega) (inF_at HI.out hik hkl (by rw [cutF_pos] at h; unfold fitB fitN; rw [decide_eq_true_eq]; omega)))
          have HN : Hid (¬ 0 < (cutF true (fits (bl (varsOf p)) (bl p) (bl (s.extract i k)) [])).length → noIn p s i (k + 1)) := Lib.hid (fun h => noIn_succ HI.out (by rw [cutF_pos] at h; unfold fitB fitN; rw [decide_eq_false_iff_not]; omega))
          have hsz : (cutF true (fits (bl (varsOf p)) (bl p) (bl (s.extract i k)) [])).length ≤ 1 := by rw [cutF_pos]; omega
          generalize hn : (cutF true (fits (bl (varsOf p)) (bl p) (bl (s.extract i k)) [])).length = n at *
          clear hn hbw
          have kr := Below.refl wr.heap.size wr
          go_wp2_with fail
          go_region_held3 (fun _ => True) (go_keep) (first
            | (go_at_call 48; refine (l28Variables_any p _ (by omega)).mono ?_; rintro e w2 ⟨rfl, hb2⟩; have KB := Lib.hid hb2; replace kr : Below wr.heap.size wr w2 := Below.now (by repeat (first | exact kr | refine Below.drew ?_ | refine below_drewN ?_ _ | refine Below.alloc ?_ (by have := kr.size; simp; try omega) _)) hb2; clear hb2)
            | (go_at_call 52; refine (HW.out _ 0 _ (by first | (simp; done) | (have hz := KB.out.size; simp at hz ⊢; omega))).mono ?_; rintro e w3 ⟨a3, c3, rfl, hb3⟩; have KR3 : Hid (Below wr.heap.size wr w3) := Lib.hid (Below.now (by repeat (first | exact kr | refine Below.drew ?_ | refine below_drewN ?_ _ | refine Below.alloc ?_ (by have := kr.size; simp; try omega) _)) hb3); clear hb3))
          all_goals
            have hbw2 := Below.now HBW.out KR3.out
            by_cases hpos : 0 < n
            · have F := Lib.hid (HY.out hpos)
              go_wp2_with fail
              exact bodyPost_ret (v := .tuple #[.int .i64 (i : Nat), .int .i64 ((k : Nat) - (i : Nat)), .bool true]) (by simp [results, Try.results55, go_sem]) rfl (RetFst.yes F.out hbw2)
            · have F := Lib.hid (HN.out hpos)
              clear KB
              go_wp2_with fail
              go_roundw
              case rel => exact ⟨k + 1, by omega, by omega, by go_num, F.out, hbw2⟩
              case measure => simp [intOf]; omega
        · have F := Lib.hid (noOut_succ HO.out (inF_none HI.out (by omega)))
          go_wp2_with fail
          go_roundw
          case rel => exact ⟨i + 1, by omega, by go_num, F.out, hbw⟩
          case measure => simp [intOf]; omega
    · have F := Lib.hid (outF_none HO.out (by omega))
      go_wp2_with fail
      exact bodyPost_ret (v := .tuple #[.int .i64 0, .int .i64 0, .bool false]) (by simp [results, Try.results55, go_sem]) rfl (RetFst.no F.out hbw)
/-- FirstFit and AvoidsPattern as functions of plain data -/
def firstV (p s : ByteArray) : Option (Nat × Nat) := if fitOkB p s = true then outF p s else none
theorem firstV_not {p s : ByteArray} (h : fitOkB p s = false) : firstV p s = none := by simp [firstV, h]
theorem firstV_yes {p s : ByteArray} (h : fitOkB p s = true) : firstV p s = outF p s := by simp [firstV, h]
def ffI (p s : ByteArray) : Int := fstI (firstV p s)
def ffN (p s : ByteArray) : Int := fstN (firstV p s)
def avoidB (p s : ByteArray) : Bool := fitOkB p s && !(outF p s).isSome
theorem avoidB_not {p s : ByteArray} (h : fitOkB p s = false) : avoidB p s = false := by simp [avoidB, h]
theorem avoidB_yes {p s : ByteArray} (h : fitOkB p s = true) : avoidB p s = !(outF p s).isSome := by simp [avoidB, h]
theorem ret_ii' {a b c d : Int} (h : a = b) (h2 : c = d) : Ending.returned (.tuple #[.int .i64 a, .int .i64 c]) = .returned (.tuple #[.int .i64 b, .int .i64 d]) := by rw [h, h2]
set_option maxHeartbeats 1000000 in
theorem implFirstFit_any (p s : ByteArray) (w : World) (hp : p.size ≤ maxLen) (hs : s.size ≤ maxLen) :
    Calls Try.prog 29 #[.string p, .string s] w fun e w' => e = .returned (.tuple #[.int .i64 (ffI p s), .int .i64 (ffN p s)]) ∧ Below w.heap.size w w' := by
  cases h1 : patternOkB p
  · skip
    have F := Lib.hid (firstV_not (fitOk_not1 (s := s) h1))
    go_enter Try.func29, Try.ntmps29
    go_wp2_with (go_at_call 49; refine (implPatternOk_any _ _ hp).mono ?_; rintro e w' ⟨h9, rfl⟩; rw [h1] at h9; subst h9)
    go_ret2
    exact ⟨ret_ii' (by unfold ffI; rw [F.out]; rfl) (by unfold ffN; rw [F.out]; rfl), Below.refl _ _⟩
  · cases h2 : wordOkB 4 s
    · skip
      have F := Lib.hid (firstV_not (fitOk_not2 (p := p) h2))
      go_enter Try.func29, Try.ntmps29
      go_wp2_with (first
        | (go_at_call 49; refine (implPatternOk_any _ _ hp).mono ?_; rintro e w' ⟨h9, rfl⟩; rw [h1] at h9; subst h9)
        | (go_at_call 53; refine (implWordOk_any _ _ _ hs).mono ?_; rintro e w' ⟨h9, rfl⟩; rw [h2] at h9; subst h9))
      go_ret2
      exact ⟨ret_ii' (by unfold ffI; rw [F.out]; rfl) (by unfold ffN; rw [F.out]; rfl), Below.refl _ _⟩
    · have hok := fitOk_yes h1 h2
      obtain ⟨_, _, hp8, hs16⟩ := fitOk_out hok
      have F := Lib.hid (firstV_yes hok)
      clear hok
      go_enter Try.func29, Try.ntmps29
      go_wp2_with (first
        | (go_at_call 49; refine (implPatternOk_any _ _ hp).mono ?_; rintro e w' ⟨h9, rfl⟩; rw [h1] at h9; subst h9)
        | (go_at_call 53; refine (implWordOk_any _ _ _ hs).mono ?_; rintro e w' ⟨h9, rfl⟩; rw [h2] at h9; subst h9))
      refine (firstFit_any p s _ hp8 hs16).mono ?_
      rintro e w2 ⟨rfl, hb2⟩
      have F1 : Hid (ffI p s = fstI (outF p s)) := Lib.hid (by unfold ffI; rw [F.out])
      have F2 : Hid (ffN p s = fstN (outF p s)) := Lib.hid (by unfold ffN; rw [F.out])
      generalize outF p s = r at *
      go_wp2_with fail
      go_ret2
      exact ⟨ret_ii' F1.out.symm F2.out.symm, hb2⟩
set_option maxHeartbeats 1000000 in
theorem specFirstFit_any (p s : ByteArray) (w : World) (hp : p.size ≤ maxLen) (hs : s.size ≤ maxLen) :
    Calls Try.prog 28 #[.string p, .string s] w fun e w' => e = .returned (.tuple #[.int .i64 (ffI p s), .int .i64 (ffN p s)]) ∧ Below w.heap.size w w' := by
  cases hok : fitOkB p s
  · skip
    have F := Lib.hid (firstV_not hok)
    go_enter Try.func28, Try.ntmps28
    go_wp2_with (go_at_call 51; refine (l28Ok_any _ _ _ hp hs).mono ?_; rintro e w' ⟨h9, rfl⟩; rw [hok] at h9; subst h9)
    go_ret2
    exact ⟨ret_ii' (by unfold ffI; rw [F.out]; rfl) (by unfold ffN; rw [F.out]; rfl), Below.refl _ _⟩
  · skip
    obtain ⟨_, _, hp8, hs16⟩ := fitOk_out hok
    have F := Lib.hid (firstV_yes hok)
    go_enter Try.func28, Try.ntmps28
    go_wp2_with (go_at_call 51; refine (l28Ok_any _ _ _ hp hs).mono ?_; rintro e w' ⟨h9, rfl⟩; rw [hok] at h9; subst h9)
    refine (l28First_any p s _ hp8 hs16).mono ?_
    rintro e w2 ⟨rfl, hb2⟩
    have F1 : Hid (ffI p s = fstI (outF p s)) := Lib.hid (by unfold ffI; rw [F.out])
    have F2 : Hid (ffN p s = fstN (outF p s)) := Lib.hid (by unfold ffN; rw [F.out])
    generalize outF p s = r at *
    go_wp2_with fail
    go_ret2
    exact ⟨ret_ii' F1.out.symm F2.out.symm, hb2⟩
set_option maxHeartbeats 1000000 in
theorem implAvoidsPattern_any (p s : ByteArray) (w : World) (hp : p.size ≤ maxLen) (hs : s.size ≤ maxLen) :
    Calls Try.prog 27 #[.string p, .string s] w fun e w' => e = .returned (.bool (avoidB p s)) ∧ Below w.heap.size w w' := by
  cases h1 : patternOkB p
  · skip
    have F := Lib.hid (avoidB_not (fitOk_not1 (s := s) h1))
    go_enter Try.func27, Try.ntmps27
    go_wp2_with (go_at_call 49; refine (implPatternOk_any _ _ hp).mono ?_; rintro e w' ⟨h9, rfl⟩; rw [h1] at h9; subst h9)
    go_ret
    exact ⟨ret_bool F.out.symm, Below.refl _ _⟩
  · cases h2 : wordOkB 4 s
    · skip
      have F := Lib.hid (avoidB_not (fitOk_not2 (p := p) h2))
      go_enter Try.func27, Try.ntmps27
      go_wp2_with (first
        | (go_at_call 49; refine (implPatternOk_any _ _ hp).mono ?_; rintro e w' ⟨h9, rfl⟩; rw [h1] at h9; subst h9)
        | (go_at_call 53; refine (implWordOk_any _ _ _ hs).mono ?_; rintro e w' ⟨h9, rfl⟩; rw [h2] at h9; subst h9))
      go_ret
      exact ⟨ret_bool F.out.symm, Below.refl _ _⟩
    · have hok := fitOk_yes h1 h2
      obtain ⟨_, _, hp8, hs16⟩ := fitOk_out hok
      have F := Lib.hid (avoidB_yes hok)
      clear hok
      go_enter Try.func27, Try.ntmps27
      go_wp2_with (first
        | (go_at_call 49; refine (implPatternOk_any _ _ hp).mono ?_; rintro e w' ⟨h9, rfl⟩; rw [h1] at h9; subst h9)
        | (go_at_call 53; refine (implWordOk_any _ _ _ hs).mono ?_; rintro e w' ⟨h9, rfl⟩; rw [h2] at h9; subst h9))
      refine (firstFit_any p s _ hp8 hs16).mono ?_
      rintro e w2 ⟨rfl, hb2⟩
      generalize (outF p s).isSome = r at *
      cases r
      all_goals
        go_wp2_with fail
        go_ret
        exact ⟨ret_bool F.out.symm, hb2⟩
set_option maxHeartbeats 1000000 in
theorem specAvoidsPattern_any (p s : ByteArray) (w : World) (hp : p.size ≤ maxLen) (hs : s.size ≤ maxLen) :
    Calls Try.prog 26 #[.string p, .string s] w fun e w' => e = .returned (.bool (avoidB p s)) ∧ Below w.heap.size w w' := by
  cases hok : fitOkB p s
  · skip
    have F := Lib.hid (avoidB_not hok)
    go_enter Try.func26, Try.ntmps26
    go_wp2_with (go_at_call 51; refine (l28Ok_any _ _ _ hp hs).mono ?_; rintro e w' ⟨h9, rfl⟩; rw [hok] at h9; subst h9)
    go_ret
    exact ⟨ret_bool F.out.symm, Below.refl _ _⟩
  · skip
    obtain ⟨_, _, hp8, hs16⟩ := fitOk_out hok
    have F := Lib.hid (avoidB_yes hok)
    go_enter Try.func26, Try.ntmps26
    go_wp2_with (go_at_call 51; refine (l28Ok_any _ _ _ hp hs).mono ?_; rintro e w' ⟨h9, rfl⟩; rw [hok] at h9; subst h9)
    refine (l28First_any p s _ hp8 hs16).mono ?_
    rintro e w2 ⟨rfl, hb2⟩
    generalize (outF p s).isSome = r at *
    cases r
    all_goals
      go_wp2_with fail
      go_ret
      exact ⟨ret_bool F.out.symm, hb2⟩
end Go.Proofs.Ytldkghfnlkbmpaa
