/-
  RepeatLine: the lines.
-/
import Derived.Test.YtldkghfnlkbmpaaDoorLine
import Derived.Test.YtldkghfnlkbmpaaDoorJoins
namespace Go.Proofs.YtldkghfnlkbmpaaDoor
open Go.RowKit
set_option linter.unusedVariables false
theorem ba_ext {a b : ByteArray} (h : bl a = bl b) : a = b := by
  obtain ⟨⟨x⟩⟩ := a
  obtain ⟨⟨y⟩⟩ := b
  have : x = y := h
  rw [this]
theorem StrsIn.lit (w : World) (ls : List ByteArray) : StrsIn (w.alloc (.cells (strVals ls).toArray 9)) (some ⟨w.heap.size, 0, none⟩) ls := by
  refine .inr ⟨_, _, rfl, fun i hi => ?_⟩
  rw [Nat.zero_add, World.cell?_alloc_new]
  have h2 : i < (strVals ls).length := by simpa [strVals] using hi
  show (strVals ls).toArray[i]? = some _
  rw [List.getElem?_toArray, List.getElem?_eq_getElem h2]
  rfl
def lineB (G P C : ByteArray) : ByteArray := ⟨#[112, 111, 119, 101, 114, 32]⟩ ++ G ++ ⟨#[32, 112, 101, 114, 105, 111, 100, 32]⟩ ++ P ++ ⟨#[32, 112, 97, 114, 116, 115, 32]⟩ ++ C
def lineL (G P C : ByteArray) : List ByteArray := [⟨#[112, 111, 119, 101, 114]⟩, G, ⟨#[112, 101, 114, 105, 111, 100]⟩, P, ⟨#[112, 97, 114, 116, 115]⟩, C]
theorem line_join (G P C : ByteArray) : joinF (lineL G P C) ⟨#[32]⟩ = lineB G P C := by
  refine ba_ext ?_
  simp [joinF, lineL, joinTo, nthS, lineB, bl]
theorem lineB_size (G P C : ByteArray) : (lineB G P C).size = 6 + G.size + 8 + P.size + 7 + C.size := by
  unfold lineB
  simp only [ByteArray.size_append]
  rfl
theorem numB_size (n : Nat) (h : n ≤ 9223372036854775807) : (numB ((n : Nat) : Int)).size ≤ 21 := itoa_len (by omega) (by omega)
/-- what RepeatLine hands back for a word -/
def RetLine (s : ByteArray) (w : World) (e : Ending) (w' : World) : Prop := ∃ g p : Nat, (grOk s g ∧ lpOk s p) ∧ e = .returned (.string (lineB (numB (g : Int)) (numB (p : Int)) (numB ((partsN s : Nat) : Int)))) ∧ Below w.heap.size w w'
set_option maxRecDepth 20000 in
set_option maxHeartbeats 2000000 in
theorem specRepeatLine_ok (s : ByteArray) (w : World) (hok : longOkB 4 s = true) :
    Calls Tryd.prog 26 #[.string s] w (RetLine s w) := by
  have hsz := longOk_size hok
  have HL := Lib.hid (fun W => l21Ok_any s W (by unfold maxLen; omega))
  rw [hok] at HL
  have HG := Lib.hid (fun W => specGP s W hok)
  have HP := Lib.hid (fun W => specLP s W hok)
  have HC := Lib.hid (fun W => specPN s W hok)
  have HF : Hid (∀ (n : Nat) W, n ≤ 10000 → Calls Tryd.prog 28 #[.int .i64 (n : Nat)] W fun e w' => e = .returned (.string (numB ((n : Nat) : Int))) ∧ Below W.heap.size W w') := Lib.hid (fun n W hn => specFormatInt_any _ W (by omega) (by omega))
  have hcn := partsN_le s
  have HRL : Hid (RetLine s w = fun e w' => ∃ g p : Nat, (grOk s g ∧ lpOk s p) ∧ e = .returned (.string (lineB (numB (g : Int)) (numB (p : Int)) (numB ((partsN s : Nat) : Int)))) ∧ Below w.heap.size w w') := Lib.hid rfl
  generalize partsN s = cn at *
  clear hok
  go_enter Tryd.func26, Tryd.ntmps26
  go_wp2_with (go_at_call 39; refine (HL.out _).mono ?_; rintro e w' ⟨rfl, rfl⟩)
  refine (HG.out _).mono ?_
  rintro e w2 ⟨g, hg, rfl, hb2⟩
  have B2 := Lib.hid hb2
  have HGK := Lib.hid hg
  have hgl := grOk_le hsz hg
  clear hb2 hg
  go_wp2_with fail
  refine (HF.out g _ (by omega)).mono ?_
  rintro e w3 ⟨rfl, hb3⟩
  have B3 := Lib.hid (Below.now B2.out hb3)
  have hG := numB_size g (by omega)
  have HGN : Hid (numB (g : Int) = numB (g : Int)) := Lib.hid rfl
  clear hb3
  generalize hGe : numB (g : Int) = G at *
  have k1 : ¬ 9223372036854775807 < 6 + G.size := by omega
  have k2 : ¬ 9223372036854775807 < 6 + G.size + 8 := by omega
  have HGe := Lib.hid hGe
  clear hGe HGN
  go_wp2_with fail
  refine (HP.out _).mono ?_
  rintro e w4 ⟨p, hp, rfl, hb4⟩
  have B4 := Lib.hid (Below.now B3.out hb4)
  have HPK := Lib.hid hp
  have hpl := lpOk_le hsz hp
  clear hb4 hp
  go_wp2_with fail
  refine (HF.out p _ (by omega)).mono ?_
  rintro e w5 ⟨rfl, hb5⟩
  have B5 := Lib.hid (Below.now B4.out hb5)
  have hP := numB_size p (by omega)
  clear hb5
  generalize hPe : numB (p : Int) = P at *
  have k3 : ¬ 9223372036854775807 < 6 + G.size + 8 + P.size := by omega
  have k4 : ¬ 9223372036854775807 < 6 + G.size + 8 + P.size + 7 := by omega
  have HPe := Lib.hid hPe
  clear hPe
  go_wp2_with fail
  refine (HC.out _).mono ?_
  rintro e w6 ⟨rfl, hb6⟩
  have B6 := Lib.hid (Below.now B5.out hb6)
  clear hb6
  go_wp2_with fail
  refine (HF.out cn _ (by omega)).mono ?_
  rintro e w7 ⟨rfl, hb7⟩
  have B7 := Lib.hid (Below.now B6.out hb7)
  have hC := numB_size cn (by omega)
  clear hb7
  generalize hCe : numB (cn : Int) = C at *
  have k5 : ¬ 9223372036854775807 < 6 + G.size + 8 + P.size + 7 + C.size := by omega
  have HCe := Lib.hid hCe
  have F : Hid (∃ g p : Nat, (grOk s g ∧ lpOk s p) ∧ Ending.returned (.string (lineB G P C)) = .returned (.string (lineB (numB (g : Int)) (numB (p : Int)) (numB (cn : Int)))) ∧ Below w.heap.size w w7) := Lib.hid ⟨g, p, ⟨HGK.out, HPK.out⟩, by rw [HGe.out, HPe.out, hCe], B7.out⟩
  clear hCe
  go_wp2_with fail
  go_ret
  rw [HRL.out]
  rw [HCe.out] at F
  exact F.out
set_option maxRecDepth 20000 in
set_option maxHeartbeats 2000000 in
theorem implRepeatLine_ok (s : ByteArray) (w : World) (hok : longOkB 4 s = true) (ht : Tab10 w) :
    Calls Tryd.prog 27 #[.string s] w (RetLine s w) := by
  have hsz := longOk_size hok
  have HL := Lib.hid (fun W => implLongOk_any 4 s W (by unfold maxLen; omega))
  rw [hok] at HL
  have HG := Lib.hid (fun W => implGP s W hok)
  have HP := Lib.hid (fun W => implLP s W hok)
  have HC := Lib.hid (fun W => implPN s W hok)
  have HT := Lib.hid ht
  have HF : Hid (∀ (n : Nat) W, n ≤ 10000 → Below w.heap.size w W → Calls Tryd.prog 30 #[.int .i64 (n : Nat)] W fun e w' => e = .returned (.string (numB ((n : Nat) : Int))) ∧ Below W.heap.size W w') := Lib.hid (fun n W hn hW => implFormatInt_any _ W (by omega) (by omega) (HT.out.later hW))
  have hcn := partsN_le s
  have HRL : Hid (RetLine s w = fun e w' => ∃ g p : Nat, (grOk s g ∧ lpOk s p) ∧ e = .returned (.string (lineB (numB (g : Int)) (numB (p : Int)) (numB ((partsN s : Nat) : Int)))) ∧ Below w.heap.size w w') := Lib.hid rfl
  generalize partsN s = cn at *
  clear hok ht
  go_enter Tryd.func27, Tryd.ntmps27
  go_wp2_with (go_at_call 43; refine (HL.out _).mono ?_; rintro e w' ⟨rfl, rfl⟩)
  refine (HG.out _).mono ?_
  rintro e w2 ⟨g, hg, rfl, hb2⟩
  have B2 := Lib.hid hb2
  have HGK := Lib.hid hg
  have hgl := grOk_le hsz hg
  clear hb2 hg
  go_wp2_with fail
  refine (HF.out g _ (by omega) B2.out).mono ?_
  rintro e w3 ⟨rfl, hb3⟩
  have B3 := Lib.hid (Below.now B2.out hb3)
  have hG := numB_size g (by omega)
  have HGN : Hid (numB (g : Int) = numB (g : Int)) := Lib.hid rfl
  clear hb3
  generalize hGe : numB (g : Int) = G at *
  have HGe := Lib.hid hGe
  clear hGe HGN
  go_wp2_with fail
  refine (HP.out _).mono ?_
  rintro e w4 ⟨p, hp, rfl, hb4⟩
  have B4 := Lib.hid (Below.now B3.out hb4)
  have HPK := Lib.hid hp
  have hpl := lpOk_le hsz hp
  clear hb4 hp
  go_wp2_with fail
  refine (HF.out p _ (by omega) B4.out).mono ?_
  rintro e w5 ⟨rfl, hb5⟩
  have B5 := Lib.hid (Below.now B4.out hb5)
  have hP := numB_size p (by omega)
  clear hb5
  generalize hPe : numB (p : Int) = P at *
  have HPe := Lib.hid hPe
  clear hPe
  go_wp2_with fail
  refine (HC.out _).mono ?_
  rintro e w6 ⟨rfl, hb6⟩
  have B6 := Lib.hid (Below.now B5.out hb6)
  clear hb6
  go_wp2_with fail
  refine (HF.out cn _ (by omega) B6.out).mono ?_
  rintro e w7 ⟨rfl, hb7⟩
  have B7 := Lib.hid (Below.now B6.out hb7)
  have hC := numB_size cn (by omega)
  clear hb7
  generalize hCe : numB (cn : Int) = C at *
  have HCe := Lib.hid hCe
  have F : Hid (∃ g p : Nat, (grOk s g ∧ lpOk s p) ∧ Ending.returned (.string (lineB G P C)) = .returned (.string (lineB (numB (g : Int)) (numB (p : Int)) (numB (cn : Int)))) ∧ True) := Lib.hid ⟨g, p, ⟨HGK.out, HPK.out⟩, by rw [HGe.out, HPe.out, hCe], trivial⟩
  clear hCe
  have HJ : Hid (Calls Tryd.prog 31 #[.slice (some ⟨w7.heap.size, 0, none⟩) 6 6, .string ⟨#[32]⟩] (w7.alloc (.cells (strVals (lineL G P C)).toArray 9)) fun e w' => e = .returned (.string (lineB G P C)) ∧ Below (w7.alloc (.cells (strVals (lineL G P C)).toArray 9)).heap.size (w7.alloc (.cells (strVals (lineL G P C)).toArray 9)) w') := Lib.hid (by
    have h := implJoin_any (lineL G P C) ⟨#[32]⟩ (some ⟨w7.heap.size, 0, none⟩) 6 _ (StrsIn.lit w7 (lineL G P C)) (by decide) (by decide) (by simp [lineL]) (by simp [lineL, maxLen]) (by rw [line_join, lineB_size]; omega)
    rw [line_join] at h
    exact h)
  go_wp2_with fail
  refine HJ.out.mono ?_
  rintro e w8 ⟨rfl, hb8⟩
  have B8 := Lib.hid (Below.now (B7.out.alloc B7.out.size _) hb8)
  clear hb8 HJ
  generalize lineB G P C = LB at *
  go_wp2_with fail
  go_ret
  rw [HRL.out]
  rw [HCe.out] at F
  obtain ⟨g1, p1, hgp, he, _⟩ := F.out
  exact ⟨g1, p1, hgp, he, B8.out⟩
end Go.Proofs.YtldkghfnlkbmpaaDoor
