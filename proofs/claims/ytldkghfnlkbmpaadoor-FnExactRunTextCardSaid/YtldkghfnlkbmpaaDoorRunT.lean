/-
  RunText, of the program and of the reference.
-/
import Derived.Test.YtldkghfnlkbmpaaDoorFmtNums
import Derived.Deep.RegionHeld3
namespace Go.Proofs.YtldkghfnlkbmpaaDoor
open Go.RowKit
set_option linter.unusedVariables false
/-- the word for a code -/
def codeS (c : Int) : ByteArray :=
  if c = 0 then ⟨#[101, 110, 100, 101, 100]⟩ else if c = 1 then ⟨#[108, 111, 111, 112, 115]⟩ else if c = 2 then ⟨#[108, 111, 110, 103]⟩ else if c = 3 then ⟨#[108, 105, 109, 105, 116]⟩ else if c = 4 then ⟨#[98, 97, 100]⟩ else ⟨#[63]⟩
theorem codeS_size (c : Int) : (codeS c).size ≤ 5 := by
  unfold codeS; (repeat' split) <;> decide
/-- RunText as a function of plain data -/
def runText (wd : ByteArray) (st c : Int) : ByteArray := codeS c ++ ⟨#[32]⟩ ++ numB st ++ ⟨#[32]⟩ ++ dotB wd
theorem runText_join (wd : ByteArray) (st c : Int) : joinF [codeS c, numB st, dotB wd] ⟨#[32]⟩ = runText wd st c := rfl
theorem runText_size {wd : ByteArray} {st c : Int} (hw : wd.size ≤ 2097152) (h0 : -9223372036854775808 ≤ st) (h1 : st ≤ 9223372036854775807) : (runText wd st c).size ≤ 2 ^ 46 := by
  have h2 := itoa_len h0 h1
  have h3 := codeS_size c
  have h4 := dotB_size wd
  unfold runText
  simp only [ByteArray.size_append]
  have : (ByteArray.mk #[32]).size = 1 := rfl
  omega
/-- three strings in a row -/
theorem three_in (W : World) (T : TypeId) (a b c : ByteArray) : StrsIn (W.alloc (.cells #[.string a, .string b, .string c] T)) (some ⟨W.heap.size, 0, none⟩) [a, b, c] := by
  right
  refine ⟨W.heap.size, 0, rfl, fun i hi => ?_⟩
  match i, hi with
  | 0, _ => simp
  | 1, _ => simp
  | 2, _ => simp
set_option maxRecDepth 50000 in
set_option maxHeartbeats 2000000 in
theorem specRun0 (wd : ByteArray) (st : Int) (w : World) (hw : wd.size ≤ 2097152) (h0 : -9223372036854775808 ≤ st) (h1 : st ≤ 9223372036854775807) :
    Calls Tryd.prog 13 #[.agg #[.string wd, .int .i64 st, .int .i64 0]] w fun e w' => e = .returned (.string (runText wd st 0)) ∧ Below w.heap.size w w' := by
  have hn := itoa_len h0 h1
  have hd := dotB_size wd
  have HF : ∀ w, Hid (Calls Tryd.prog 28 #[.int .i64 st] w fun e w' => e = .returned (.string (numB st)) ∧ Below w.heap.size w w') := fun w => Lib.hid (specFormatInt_any st w h0 h1)
  have F : Hid (⟨#[101, 110, 100, 101, 100]⟩ ++ ⟨#[32]⟩ ++ numB st ++ ⟨#[32]⟩ ++ dotB wd = runText wd st 0) := Lib.hid (rfl)
  have hA : ¬ 9223372036854775807 < 6 + (numB st).size := by omega
  have hB : ¬ 9223372036854775807 < 6 + (numB st).size + 1 := by omega
  have hC : ¬ 9223372036854775807 < 6 + (numB st).size + 1 + (dotB wd).size := by omega
  go_enter Tryd.func13, Tryd.ntmps13
  · go_wp2_with fail
    obtain ⟨w0, hw0⟩ : ∃ w0, w0 = (w.alloc (.cells #[.string wd, .int .i64 st, .int .i64 0] 31)) := ⟨_, rfl⟩
    have HX : Hid (Below w.heap.size w w0) := Lib.hid (by rw [hw0]; exact (Below.refl _ _).alloc (Nat.le_refl _) _)
    have hx0 : ∀ W, Below w0.heap.size w0 W → W.cell? ⟨w.heap.size, 0, none⟩ = some (.string wd) := fun W hW => by rw [hW.cell (by rw [hw0]; simp), hw0]; simp
    have hx1 : ∀ W, Below w0.heap.size w0 W → W.cell? ⟨w.heap.size, 1, none⟩ = some (.int .i64 st) := fun W hW => by rw [hW.cell (by rw [hw0]; simp), hw0]; simp
    rw [← hw0]
    clear hw0
    have q0 : ∀ x, (wide w0 x).cell? ⟨w.heap.size, 0, none⟩ = some (.string wd) := wide_cell (hx0 _ (Below.refl _ _))
    have q1 : ∀ x, (wide w0 x).cell? ⟨w.heap.size, 1, none⟩ = some (.int .i64 st) := wide_cell (hx1 _ (Below.refl _ _))
    clear hx0 hx1
    refine region_wide (by kernel_rfl) (by kernel_rfl) ?_
    repeat (quiet_step (first
      | (go_at_call 28; refine (HF _).out.mono ?_; rintro e w2 ⟨rfl, hb2⟩; exact ⟨rfl, wide_next hb2⟩)
      | (go_at_call 32; refine (l03Side_any _ _).mono ?_; rintro e w2 ⟨rfl, rfl⟩; exact ⟨rfl, _, rfl⟩)))
    refine wpQuiet_nil ?_
    rintro w4 ⟨x4, rfl⟩
    have hend := Below.now HX.out (below_wide w0 x4)
    clear q0 q1
    go_wp2_with fail
    go_ret
    exact ⟨ret_str F.out, hend⟩
set_option maxRecDepth 50000 in
set_option maxHeartbeats 2000000 in
theorem specRun1 (wd : ByteArray) (st : Int) (w : World) (hw : wd.size ≤ 2097152) (h0 : -9223372036854775808 ≤ st) (h1 : st ≤ 9223372036854775807) :
    Calls Tryd.prog 13 #[.agg #[.string wd, .int .i64 st, .int .i64 1]] w fun e w' => e = .returned (.string (runText wd st 1)) ∧ Below w.heap.size w w' := by
  have hn := itoa_len h0 h1
  have hd := dotB_size wd
  have HF : ∀ w, Hid (Calls Tryd.prog 28 #[.int .i64 st] w fun e w' => e = .returned (.string (numB st)) ∧ Below w.heap.size w w') := fun w => Lib.hid (specFormatInt_any st w h0 h1)
  have F : Hid (⟨#[108, 111, 111, 112, 115]⟩ ++ ⟨#[32]⟩ ++ numB st ++ ⟨#[32]⟩ ++ dotB wd = runText wd st 1) := Lib.hid (rfl)
  have hA : ¬ 9223372036854775807 < 6 + (numB st).size := by omega
  have hB : ¬ 9223372036854775807 < 6 + (numB st).size + 1 := by omega
  have hC : ¬ 9223372036854775807 < 6 + (numB st).size + 1 + (dotB wd).size := by omega
  go_enter Tryd.func13, Tryd.ntmps13
  · go_wp2_with fail
    obtain ⟨w0, hw0⟩ : ∃ w0, w0 = (w.alloc (.cells #[.string wd, .int .i64 st, .int .i64 1] 31)) := ⟨_, rfl⟩
    have HX : Hid (Below w.heap.size w w0) := Lib.hid (by rw [hw0]; exact (Below.refl _ _).alloc (Nat.le_refl _) _)
    have hx0 : ∀ W, Below w0.heap.size w0 W → W.cell? ⟨w.heap.size, 0, none⟩ = some (.string wd) := fun W hW => by rw [hW.cell (by rw [hw0]; simp), hw0]; simp
    have hx1 : ∀ W, Below w0.heap.size w0 W → W.cell? ⟨w.heap.size, 1, none⟩ = some (.int .i64 st) := fun W hW => by rw [hW.cell (by rw [hw0]; simp), hw0]; simp
    rw [← hw0]
    clear hw0
    have q0 : ∀ x, (wide w0 x).cell? ⟨w.heap.size, 0, none⟩ = some (.string wd) := wide_cell (hx0 _ (Below.refl _ _))
    have q1 : ∀ x, (wide w0 x).cell? ⟨w.heap.size, 1, none⟩ = some (.int .i64 st) := wide_cell (hx1 _ (Below.refl _ _))
    clear hx0 hx1
    refine region_wide (by kernel_rfl) (by kernel_rfl) ?_
    repeat (quiet_step (first
      | (go_at_call 28; refine (HF _).out.mono ?_; rintro e w2 ⟨rfl, hb2⟩; exact ⟨rfl, wide_next hb2⟩)
      | (go_at_call 32; refine (l03Side_any _ _).mono ?_; rintro e w2 ⟨rfl, rfl⟩; exact ⟨rfl, _, rfl⟩)))
    refine wpQuiet_nil ?_
    rintro w4 ⟨x4, rfl⟩
    have hend := Below.now HX.out (below_wide w0 x4)
    clear q0 q1
    go_wp2_with fail
    go_ret
    exact ⟨ret_str F.out, hend⟩
set_option maxRecDepth 50000 in
set_option maxHeartbeats 2000000 in
theorem specRun2 (wd : ByteArray) (st : Int) (w : World) (hw : wd.size ≤ 2097152) (h0 : -9223372036854775808 ≤ st) (h1 : st ≤ 9223372036854775807) :
    Calls Tryd.prog 13 #[.agg #[.string wd, .int .i64 st, .int .i64 2]] w fun e w' => e = .returned (.string (runText wd st 2)) ∧ Below w.heap.size w w' := by
  have hn := itoa_len h0 h1
  have hd := dotB_size wd
  have HF : ∀ w, Hid (Calls Tryd.prog 28 #[.int .i64 st] w fun e w' => e = .returned (.string (numB st)) ∧ Below w.heap.size w w') := fun w => Lib.hid (specFormatInt_any st w h0 h1)
  have F : Hid (⟨#[108, 111, 110, 103]⟩ ++ ⟨#[32]⟩ ++ numB st ++ ⟨#[32]⟩ ++ dotB wd = runText wd st 2) := Lib.hid (rfl)
  have hA : ¬ 9223372036854775807 < 5 + (numB st).size := by omega
  have hB : ¬ 9223372036854775807 < 5 + (numB st).size + 1 := by omega
  have hC : ¬ 9223372036854775807 < 5 + (numB st).size + 1 + (dotB wd).size := by omega
  go_enter Tryd.func13, Tryd.ntmps13
  · go_wp2_with fail
    obtain ⟨w0, hw0⟩ : ∃ w0, w0 = (w.alloc (.cells #[.string wd, .int .i64 st, .int .i64 2] 31)) := ⟨_, rfl⟩
    have HX : Hid (Below w.heap.size w w0) := Lib.hid (by rw [hw0]; exact (Below.refl _ _).alloc (Nat.le_refl _) _)
    have hx0 : ∀ W, Below w0.heap.size w0 W → W.cell? ⟨w.heap.size, 0, none⟩ = some (.string wd) := fun W hW => by rw [hW.cell (by rw [hw0]; simp), hw0]; simp
    have hx1 : ∀ W, Below w0.heap.size w0 W → W.cell? ⟨w.heap.size, 1, none⟩ = some (.int .i64 st) := fun W hW => by rw [hW.cell (by rw [hw0]; simp), hw0]; simp
    rw [← hw0]
    clear hw0
    have q0 : ∀ x, (wide w0 x).cell? ⟨w.heap.size, 0, none⟩ = some (.string wd) := wide_cell (hx0 _ (Below.refl _ _))
    have q1 : ∀ x, (wide w0 x).cell? ⟨w.heap.size, 1, none⟩ = some (.int .i64 st) := wide_cell (hx1 _ (Below.refl _ _))
    clear hx0 hx1
    refine region_wide (by kernel_rfl) (by kernel_rfl) ?_
    repeat (quiet_step (first
      | (go_at_call 28; refine (HF _).out.mono ?_; rintro e w2 ⟨rfl, hb2⟩; exact ⟨rfl, wide_next hb2⟩)
      | (go_at_call 32; refine (l03Side_any _ _).mono ?_; rintro e w2 ⟨rfl, rfl⟩; exact ⟨rfl, _, rfl⟩)))
    refine wpQuiet_nil ?_
    rintro w4 ⟨x4, rfl⟩
    have hend := Below.now HX.out (below_wide w0 x4)
    clear q0 q1
    go_wp2_with fail
    go_ret
    exact ⟨ret_str F.out, hend⟩
set_option maxRecDepth 50000 in
set_option maxHeartbeats 2000000 in
theorem specRun3 (wd : ByteArray) (st : Int) (w : World) (hw : wd.size ≤ 2097152) (h0 : -9223372036854775808 ≤ st) (h1 : st ≤ 9223372036854775807) :
    Calls Tryd.prog 13 #[.agg #[.string wd, .int .i64 st, .int .i64 3]] w fun e w' => e = .returned (.string (runText wd st 3)) ∧ Below w.heap.size w w' := by
  have hn := itoa_len h0 h1
  have hd := dotB_size wd
  have HF : ∀ w, Hid (Calls Tryd.prog 28 #[.int .i64 st] w fun e w' => e = .returned (.string (numB st)) ∧ Below w.heap.size w w') := fun w => Lib.hid (specFormatInt_any st w h0 h1)
  have F : Hid (⟨#[108, 105, 109, 105, 116]⟩ ++ ⟨#[32]⟩ ++ numB st ++ ⟨#[32]⟩ ++ dotB wd = runText wd st 3) := Lib.hid (rfl)
  have hA : ¬ 9223372036854775807 < 6 + (numB st).size := by omega
  have hB : ¬ 9223372036854775807 < 6 + (numB st).size + 1 := by omega
  have hC : ¬ 9223372036854775807 < 6 + (numB st).size + 1 + (dotB wd).size := by omega
  go_enter Tryd.func13, Tryd.ntmps13
  · go_wp2_with fail
    obtain ⟨w0, hw0⟩ : ∃ w0, w0 = (w.alloc (.cells #[.string wd, .int .i64 st, .int .i64 3] 31)) := ⟨_, rfl⟩
    have HX : Hid (Below w.heap.size w w0) := Lib.hid (by rw [hw0]; exact (Below.refl _ _).alloc (Nat.le_refl _) _)
    have hx0 : ∀ W, Below w0.heap.size w0 W → W.cell? ⟨w.heap.size, 0, none⟩ = some (.string wd) := fun W hW => by rw [hW.cell (by rw [hw0]; simp), hw0]; simp
    have hx1 : ∀ W, Below w0.heap.size w0 W → W.cell? ⟨w.heap.size, 1, none⟩ = some (.int .i64 st) := fun W hW => by rw [hW.cell (by rw [hw0]; simp), hw0]; simp
    rw [← hw0]
    clear hw0
    have q0 : ∀ x, (wide w0 x).cell? ⟨w.heap.size, 0, none⟩ = some (.string wd) := wide_cell (hx0 _ (Below.refl _ _))
    have q1 : ∀ x, (wide w0 x).cell? ⟨w.heap.size, 1, none⟩ = some (.int .i64 st) := wide_cell (hx1 _ (Below.refl _ _))
    clear hx0 hx1
    refine region_wide (by kernel_rfl) (by kernel_rfl) ?_
    repeat (quiet_step (first
      | (go_at_call 28; refine (HF _).out.mono ?_; rintro e w2 ⟨rfl, hb2⟩; exact ⟨rfl, wide_next hb2⟩)
      | (go_at_call 32; refine (l03Side_any _ _).mono ?_; rintro e w2 ⟨rfl, rfl⟩; exact ⟨rfl, _, rfl⟩)))
    refine wpQuiet_nil ?_
    rintro w4 ⟨x4, rfl⟩
    have hend := Below.now HX.out (below_wide w0 x4)
    clear q0 q1
    go_wp2_with fail
    go_ret
    exact ⟨ret_str F.out, hend⟩
set_option maxRecDepth 50000 in
set_option maxHeartbeats 2000000 in
theorem specRun4 (wd : ByteArray) (st : Int) (w : World) (hw : wd.size ≤ 2097152) (h0 : -9223372036854775808 ≤ st) (h1 : st ≤ 9223372036854775807) :
    Calls Tryd.prog 13 #[.agg #[.string wd, .int .i64 st, .int .i64 4]] w fun e w' => e = .returned (.string (runText wd st 4)) ∧ Below w.heap.size w w' := by
  have hn := itoa_len h0 h1
  have hd := dotB_size wd
  have HF : ∀ w, Hid (Calls Tryd.prog 28 #[.int .i64 st] w fun e w' => e = .returned (.string (numB st)) ∧ Below w.heap.size w w') := fun w => Lib.hid (specFormatInt_any st w h0 h1)
  have F : Hid (⟨#[98, 97, 100]⟩ ++ ⟨#[32]⟩ ++ numB st ++ ⟨#[32]⟩ ++ dotB wd = runText wd st 4) := Lib.hid (rfl)
  have hA : ¬ 9223372036854775807 < 4 + (numB st).size := by omega
  have hB : ¬ 9223372036854775807 < 4 + (numB st).size + 1 := by omega
  have hC : ¬ 9223372036854775807 < 4 + (numB st).size + 1 + (dotB wd).size := by omega
  go_enter Tryd.func13, Tryd.ntmps13
  · go_wp2_with fail
    obtain ⟨w0, hw0⟩ : ∃ w0, w0 = (w.alloc (.cells #[.string wd, .int .i64 st, .int .i64 4] 31)) := ⟨_, rfl⟩
    have HX : Hid (Below w.heap.size w w0) := Lib.hid (by rw [hw0]; exact (Below.refl _ _).alloc (Nat.le_refl _) _)
    have hx0 : ∀ W, Below w0.heap.size w0 W → W.cell? ⟨w.heap.size, 0, none⟩ = some (.string wd) := fun W hW => by rw [hW.cell (by rw [hw0]; simp), hw0]; simp
    have hx1 : ∀ W, Below w0.heap.size w0 W → W.cell? ⟨w.heap.size, 1, none⟩ = some (.int .i64 st) := fun W hW => by rw [hW.cell (by rw [hw0]; simp), hw0]; simp
    rw [← hw0]
    clear hw0
    have q0 : ∀ x, (wide w0 x).cell? ⟨w.heap.size, 0, none⟩ = some (.string wd) := wide_cell (hx0 _ (Below.refl _ _))
    have q1 : ∀ x, (wide w0 x).cell? ⟨w.heap.size, 1, none⟩ = some (.int .i64 st) := wide_cell (hx1 _ (Below.refl _ _))
    clear hx0 hx1
    refine region_wide (by kernel_rfl) (by kernel_rfl) ?_
    repeat (quiet_step (first
      | (go_at_call 28; refine (HF _).out.mono ?_; rintro e w2 ⟨rfl, hb2⟩; exact ⟨rfl, wide_next hb2⟩)
      | (go_at_call 32; refine (l03Side_any _ _).mono ?_; rintro e w2 ⟨rfl, rfl⟩; exact ⟨rfl, _, rfl⟩)))
    refine wpQuiet_nil ?_
    rintro w4 ⟨x4, rfl⟩
    have hend := Below.now HX.out (below_wide w0 x4)
    clear q0 q1
    go_wp2_with fail
    go_ret
    exact ⟨ret_str F.out, hend⟩
set_option maxRecDepth 50000 in
set_option maxHeartbeats 2000000 in
theorem specRunX (wd : ByteArray) (st c : Int) (w : World) (hw : wd.size ≤ 2097152) (h0 : -9223372036854775808 ≤ st) (h1 : st ≤ 9223372036854775807) (n0 : ¬ c = 0) (n1 : ¬ c = 1) (n2 : ¬ c = 2) (n3 : ¬ c = 3) (n4 : ¬ c = 4) :
    Calls Tryd.prog 13 #[.agg #[.string wd, .int .i64 st, .int .i64 c]] w fun e w' => e = .returned (.string (runText wd st c)) ∧ Below w.heap.size w w' := by
  have hn := itoa_len h0 h1
  have hd := dotB_size wd
  have HF : ∀ w, Hid (Calls Tryd.prog 28 #[.int .i64 st] w fun e w' => e = .returned (.string (numB st)) ∧ Below w.heap.size w w') := fun w => Lib.hid (specFormatInt_any st w h0 h1)
  have F : Hid (⟨#[63]⟩ ++ ⟨#[32]⟩ ++ numB st ++ ⟨#[32]⟩ ++ dotB wd = runText wd st c) := Lib.hid (by simp [runText, codeS, n0, n1, n2, n3, n4])
  have m0 : (c == 0) = false := by rw [beq_eq_false_iff_ne]; exact n0
  have m1 : (c == 1) = false := by rw [beq_eq_false_iff_ne]; exact n1
  have m2 : (c == 2) = false := by rw [beq_eq_false_iff_ne]; exact n2
  have m3 : (c == 3) = false := by rw [beq_eq_false_iff_ne]; exact n3
  have m4 : (c == 4) = false := by rw [beq_eq_false_iff_ne]; exact n4
  have hA : ¬ 9223372036854775807 < 2 + (numB st).size := by omega
  have hB : ¬ 9223372036854775807 < 2 + (numB st).size + 1 := by omega
  have hC : ¬ 9223372036854775807 < 2 + (numB st).size + 1 + (dotB wd).size := by omega
  go_enter Tryd.func13, Tryd.ntmps13
  · go_wp2_with fail
    obtain ⟨w0, hw0⟩ : ∃ w0, w0 = (w.alloc (.cells #[.string wd, .int .i64 st, .int .i64 c] 31)) := ⟨_, rfl⟩
    have HX : Hid (Below w.heap.size w w0) := Lib.hid (by rw [hw0]; exact (Below.refl _ _).alloc (Nat.le_refl _) _)
    have hx0 : ∀ W, Below w0.heap.size w0 W → W.cell? ⟨w.heap.size, 0, none⟩ = some (.string wd) := fun W hW => by rw [hW.cell (by rw [hw0]; simp), hw0]; simp
    have hx1 : ∀ W, Below w0.heap.size w0 W → W.cell? ⟨w.heap.size, 1, none⟩ = some (.int .i64 st) := fun W hW => by rw [hW.cell (by rw [hw0]; simp), hw0]; simp
    rw [← hw0]
    clear hw0
    have q0 : ∀ x, (wide w0 x).cell? ⟨w.heap.size, 0, none⟩ = some (.string wd) := wide_cell (hx0 _ (Below.refl _ _))
    have q1 : ∀ x, (wide w0 x).cell? ⟨w.heap.size, 1, none⟩ = some (.int .i64 st) := wide_cell (hx1 _ (Below.refl _ _))
    clear hx0 hx1
    refine region_wide (by kernel_rfl) (by kernel_rfl) ?_
    repeat (quiet_step (first
      | (go_at_call 28; refine (HF _).out.mono ?_; rintro e w2 ⟨rfl, hb2⟩; exact ⟨rfl, wide_next hb2⟩)
      | (go_at_call 32; refine (l03Side_any _ _).mono ?_; rintro e w2 ⟨rfl, rfl⟩; exact ⟨rfl, _, rfl⟩)))
    refine wpQuiet_nil ?_
    rintro w4 ⟨x4, rfl⟩
    have hend := Below.now HX.out (below_wide w0 x4)
    clear q0 q1
    go_wp2_with fail
    go_ret
    exact ⟨ret_str F.out, hend⟩
set_option maxRecDepth 50000 in
set_option maxHeartbeats 2000000 in
theorem implRun0 (wd : ByteArray) (st : Int) (w : World) (hw : wd.size ≤ 2097152) (h0 : -9223372036854775808 ≤ st) (h1 : st ≤ 9223372036854775807) (ht : Tab10 w) :
    Calls Tryd.prog 15 #[.agg #[.string wd, .int .i64 st, .int .i64 0]] w fun e w' => e = .returned (.string (runText wd st 0)) ∧ Below w.heap.size w w' := by
  have hn := itoa_len h0 h1
  have hd := dotB_size wd
  have HT := Lib.hid ht
  have F : Hid (joinF [⟨#[101, 110, 100, 101, 100]⟩, numB st, dotB wd] ⟨#[32]⟩ = runText wd st 0) := Lib.hid (rfl)
  have HZ : Hid ((joinF [⟨#[101, 110, 100, 101, 100]⟩, numB st, dotB wd] ⟨#[32]⟩).size ≤ 2 ^ 46) := Lib.hid (by rw [F.out]; exact runText_size hw h0 h1)
  clear ht
  have hin : inB 0 0 4 = true := by decide
  have hix : ∀ W : World, (Instr.index 54 (.agg #[.string ⟨#[101, 110, 100, 101, 100]⟩, .string ⟨#[108, 111, 111, 112, 115]⟩, .string ⟨#[108, 111, 110, 103]⟩, .string ⟨#[108, 105, 109, 105, 116]⟩, .string ⟨#[98, 97, 100]⟩]) (.int .i64 0)).run Tryd.prog W = .ok (.string ⟨#[101, 110, 100, 101, 100]⟩) W := fun W => by kernel_rfl
  go_enter Tryd.func15, Tryd.ntmps15
  · go_wp2_with (go_at_call 33; refine (within_any _ _ _ _).mono ?_; rintro e w' ⟨h9, rfl⟩; rw [hin] at h9; subst h9)
    obtain ⟨w0, hw0⟩ : ∃ w0, w0 = (w.alloc (.cells #[.string wd, .int .i64 st, .int .i64 0] 31)) := ⟨_, rfl⟩
    have HX : Hid (Below w.heap.size w w0) := Lib.hid (by rw [hw0]; exact (Below.refl _ _).alloc (Nat.le_refl _) _)
    have hx0 : ∀ W, Below w0.heap.size w0 W → W.cell? ⟨w.heap.size, 0, none⟩ = some (.string wd) := fun W hW => by rw [hW.cell (by rw [hw0]; simp), hw0]; simp
    have hx1 : ∀ W, Below w0.heap.size w0 W → W.cell? ⟨w.heap.size, 1, none⟩ = some (.int .i64 st) := fun W hW => by rw [hW.cell (by rw [hw0]; simp), hw0]; simp
    rw [← hw0]
    clear hw0
    have z0 := hx0 _ (Below.refl _ _)
    have z1 := hx1 _ (Below.refl _ _)
    go_region_held3 (fun w' => w'.cell? ⟨w.heap.size, 0, none⟩ = some (.string wd) ∧ w'.cell? ⟨w.heap.size, 1, none⟩ = some (.int .i64 st)) (go_keep) (first
      | (go_at_call 30; refine (implFormatInt_any st _ h0 h1 (HT.out.later (Below.now HX.out (by repeat (first | exact Below.refl _ _ | refine Below.drew ?_ | refine below_drewN ?_ _))))).mono ?_; rintro e w2 ⟨rfl, hb2⟩; have k2 : Below w0.heap.size w0 w2 := Below.now (by repeat (first | exact Below.refl _ _ | refine Below.drew ?_ | refine below_drewN ?_ _)) hb2; have y0 := hx0 _ k2; have y1 := hx1 _ k2; clear hb2)
      | (go_at_call 34; refine (dotted_any _ _).mono ?_; rintro e w' ⟨rfl, rfl⟩)
      | (go_at_call 31; refine (implJoin_any [⟨#[101, 110, 100, 101, 100]⟩, numB st, dotB wd] ⟨#[32]⟩ _ 3 _ (three_in _ _ _ _ _) (by decide) (by decide) (by simp) (by unfold maxLen; simp) HZ.out).mono ?_; rintro e w3 ⟨rfl, hb3⟩; have k3 : Below w0.heap.size w0 w3 := Below.now (k2.alloc k2.size _) hb3; clear hb3))
    all_goals
      have hend := Below.now HX.out k3
      clear hx0 hx1 z0 z1
      go_wp2_with fail
      go_ret
      exact ⟨ret_str F.out, hend⟩
set_option maxRecDepth 50000 in
set_option maxHeartbeats 2000000 in
theorem implRun1 (wd : ByteArray) (st : Int) (w : World) (hw : wd.size ≤ 2097152) (h0 : -9223372036854775808 ≤ st) (h1 : st ≤ 9223372036854775807) (ht : Tab10 w) :
    Calls Tryd.prog 15 #[.agg #[.string wd, .int .i64 st, .int .i64 1]] w fun e w' => e = .returned (.string (runText wd st 1)) ∧ Below w.heap.size w w' := by
  have hn := itoa_len h0 h1
  have hd := dotB_size wd
  have HT := Lib.hid ht
  have F : Hid (joinF [⟨#[108, 111, 111, 112, 115]⟩, numB st, dotB wd] ⟨#[32]⟩ = runText wd st 1) := Lib.hid (rfl)
  have HZ : Hid ((joinF [⟨#[108, 111, 111, 112, 115]⟩, numB st, dotB wd] ⟨#[32]⟩).size ≤ 2 ^ 46) := Lib.hid (by rw [F.out]; exact runText_size hw h0 h1)
  clear ht
  have hin : inB 1 0 4 = true := by decide
  have hix : ∀ W : World, (Instr.index 54 (.agg #[.string ⟨#[101, 110, 100, 101, 100]⟩, .string ⟨#[108, 111, 111, 112, 115]⟩, .string ⟨#[108, 111, 110, 103]⟩, .string ⟨#[108, 105, 109, 105, 116]⟩, .string ⟨#[98, 97, 100]⟩]) (.int .i64 1)).run Tryd.prog W = .ok (.string ⟨#[108, 111, 111, 112, 115]⟩) W := fun W => by kernel_rfl
  go_enter Tryd.func15, Tryd.ntmps15
  · go_wp2_with (go_at_call 33; refine (within_any _ _ _ _).mono ?_; rintro e w' ⟨h9, rfl⟩; rw [hin] at h9; subst h9)
    obtain ⟨w0, hw0⟩ : ∃ w0, w0 = (w.alloc (.cells #[.string wd, .int .i64 st, .int .i64 1] 31)) := ⟨_, rfl⟩
    have HX : Hid (Below w.heap.size w w0) := Lib.hid (by rw [hw0]; exact (Below.refl _ _).alloc (Nat.le_refl _) _)
    have hx0 : ∀ W, Below w0.heap.size w0 W → W.cell? ⟨w.heap.size, 0, none⟩ = some (.string wd) := fun W hW => by rw [hW.cell (by rw [hw0]; simp), hw0]; simp
    have hx1 : ∀ W, Below w0.heap.size w0 W → W.cell? ⟨w.heap.size, 1, none⟩ = some (.int .i64 st) := fun W hW => by rw [hW.cell (by rw [hw0]; simp), hw0]; simp
    rw [← hw0]
    clear hw0
    have z0 := hx0 _ (Below.refl _ _)
    have z1 := hx1 _ (Below.refl _ _)
    go_region_held3 (fun w' => w'.cell? ⟨w.heap.size, 0, none⟩ = some (.string wd) ∧ w'.cell? ⟨w.heap.size, 1, none⟩ = some (.int .i64 st)) (go_keep) (first
      | (go_at_call 30; refine (implFormatInt_any st _ h0 h1 (HT.out.later (Below.now HX.out (by repeat (first | exact Below.refl _ _ | refine Below.drew ?_ | refine below_drewN ?_ _))))).mono ?_; rintro e w2 ⟨rfl, hb2⟩; have k2 : Below w0.heap.size w0 w2 := Below.now (by repeat (first | exact Below.refl _ _ | refine Below.drew ?_ | refine below_drewN ?_ _)) hb2; have y0 := hx0 _ k2; have y1 := hx1 _ k2; clear hb2)
      | (go_at_call 34; refine (dotted_any _ _).mono ?_; rintro e w' ⟨rfl, rfl⟩)
      | (go_at_call 31; refine (implJoin_any [⟨#[108, 111, 111, 112, 115]⟩, numB st, dotB wd] ⟨#[32]⟩ _ 3 _ (three_in _ _ _ _ _) (by decide) (by decide) (by simp) (by unfold maxLen; simp) HZ.out).mono ?_; rintro e w3 ⟨rfl, hb3⟩; have k3 : Below w0.heap.size w0 w3 := Below.now (k2.alloc k2.size _) hb3; clear hb3))
    all_goals
      have hend := Below.now HX.out k3
      clear hx0 hx1 z0 z1
      go_wp2_with fail
      go_ret
      exact ⟨ret_str F.out, hend⟩
set_option maxRecDepth 50000 in
set_option maxHeartbeats 2000000 in
theorem implRun2 (wd : ByteArray) (st : Int) (w : World) (hw : wd.size ≤ 2097152) (h0 : -9223372036854775808 ≤ st) (h1 : st ≤ 9223372036854775807) (ht : Tab10 w) :
    Calls Tryd.prog 15 #[.agg #[.string wd, .int .i64 st, .int .i64 2]] w fun e w' => e = .returned (.string (runText wd st 2)) ∧ Below w.heap.size w w' := by
  have hn := itoa_len h0 h1
  have hd := dotB_size wd
  have HT := Lib.hid ht
  have F : Hid (joinF [⟨#[108, 111, 110, 103]⟩, numB st, dotB wd] ⟨#[32]⟩ = runText wd st 2) := Lib.hid (rfl)
  have HZ : Hid ((joinF [⟨#[108, 111, 110, 103]⟩, numB st, dotB wd] ⟨#[32]⟩).size ≤ 2 ^ 46) := Lib.hid (by rw [F.out]; exact runText_size hw h0 h1)
  clear ht
  have hin : inB 2 0 4 = true := by decide
  have hix : ∀ W : World, (Instr.index 54 (.agg #[.string ⟨#[101, 110, 100, 101, 100]⟩, .string ⟨#[108, 111, 111, 112, 115]⟩, .string ⟨#[108, 111, 110, 103]⟩, .string ⟨#[108, 105, 109, 105, 116]⟩, .string ⟨#[98, 97, 100]⟩]) (.int .i64 2)).run Tryd.prog W = .ok (.string ⟨#[108, 111, 110, 103]⟩) W := fun W => by kernel_rfl
  go_enter Tryd.func15, Tryd.ntmps15
  · go_wp2_with (go_at_call 33; refine (within_any _ _ _ _).mono ?_; rintro e w' ⟨h9, rfl⟩; rw [hin] at h9; subst h9)
    obtain ⟨w0, hw0⟩ : ∃ w0, w0 = (w.alloc (.cells #[.string wd, .int .i64 st, .int .i64 2] 31)) := ⟨_, rfl⟩
    have HX : Hid (Below w.heap.size w w0) := Lib.hid (by rw [hw0]; exact (Below.refl _ _).alloc (Nat.le_refl _) _)
    have hx0 : ∀ W, Below w0.heap.size w0 W → W.cell? ⟨w.heap.size, 0, none⟩ = some (.string wd) := fun W hW => by rw [hW.cell (by rw [hw0]; simp), hw0]; simp
    have hx1 : ∀ W, Below w0.heap.size w0 W → W.cell? ⟨w.heap.size, 1, none⟩ = some (.int .i64 st) := fun W hW => by rw [hW.cell (by rw [hw0]; simp), hw0]; simp
    rw [← hw0]
    clear hw0
    have z0 := hx0 _ (Below.refl _ _)
    have z1 := hx1 _ (Below.refl _ _)
    go_region_held3 (fun w' => w'.cell? ⟨w.heap.size, 0, none⟩ = some (.string wd) ∧ w'.cell? ⟨w.heap.size, 1, none⟩ = some (.int .i64 st)) (go_keep) (first
      | (go_at_call 30; refine (implFormatInt_any st _ h0 h1 (HT.out.later (Below.now HX.out (by repeat (first | exact Below.refl _ _ | refine Below.drew ?_ | refine below_drewN ?_ _))))).mono ?_; rintro e w2 ⟨rfl, hb2⟩; have k2 : Below w0.heap.size w0 w2 := Below.now (by repeat (first | exact Below.refl _ _ | refine Below.drew ?_ | refine below_drewN ?_ _)) hb2; have y0 := hx0 _ k2; have y1 := hx1 _ k2; clear hb2)
      | (go_at_call 34; refine (dotted_any _ _).mono ?_; rintro e w' ⟨rfl, rfl⟩)
      | (go_at_call 31; refine (implJoin_any [⟨#[108, 111, 110, 103]⟩, numB st, dotB wd] ⟨#[32]⟩ _ 3 _ (three_in _ _ _ _ _) (by decide) (by decide) (by simp) (by unfold maxLen; simp) HZ.out).mono ?_; rintro e w3 ⟨rfl, hb3⟩; have k3 : Below w0.heap.size w0 w3 := Below.now (k2.alloc k2.size _) hb3; clear hb3))
    all_goals
      have hend := Below.now HX.out k3
      clear hx0 hx1 z0 z1
      go_wp2_with fail
      go_ret
      exact ⟨ret_str F.out, hend⟩
set_option maxRecDepth 50000 in
set_option maxHeartbeats 2000000 in
theorem implRun3 (wd : ByteArray) (st : Int) (w : World) (hw : wd.size ≤ 2097152) (h0 : -9223372036854775808 ≤ st) (h1 : st ≤ 9223372036854775807) (ht : Tab10 w) :
    Calls Tryd.prog 15 #[.agg #[.string wd, .int .i64 st, .int .i64 3]] w fun e w' => e = .returned (.string (runText wd st 3)) ∧ Below w.heap.size w w' := by
  have hn := itoa_len h0 h1
  have hd := dotB_size wd
  have HT := Lib.hid ht
  have F : Hid (joinF [⟨#[108, 105, 109, 105, 116]⟩, numB st, dotB wd] ⟨#[32]⟩ = runText wd st 3) := Lib.hid (rfl)
  have HZ : Hid ((joinF [⟨#[108, 105, 109, 105, 116]⟩, numB st, dotB wd] ⟨#[32]⟩).size ≤ 2 ^ 46) := Lib.hid (by rw [F.out]; exact runText_size hw h0 h1)
  clear ht
  have hin : inB 3 0 4 = true := by decide
  have hix : ∀ W : World, (Instr.index 54 (.agg #[.string ⟨#[101, 110, 100, 101, 100]⟩, .string ⟨#[108, 111, 111, 112, 115]⟩, .string ⟨#[108, 111, 110, 103]⟩, .string ⟨#[108, 105, 109, 105, 116]⟩, .string ⟨#[98, 97, 100]⟩]) (.int .i64 3)).run Tryd.prog W = .ok (.string ⟨#[108, 105, 109, 105, 116]⟩) W := fun W => by kernel_rfl
  go_enter Tryd.func15, Tryd.ntmps15
  · go_wp2_with (go_at_call 33; refine (within_any _ _ _ _).mono ?_; rintro e w' ⟨h9, rfl⟩; rw [hin] at h9; subst h9)
    obtain ⟨w0, hw0⟩ : ∃ w0, w0 = (w.alloc (.cells #[.string wd, .int .i64 st, .int .i64 3] 31)) := ⟨_, rfl⟩
    have HX : Hid (Below w.heap.size w w0) := Lib.hid (by rw [hw0]; exact (Below.refl _ _).alloc (Nat.le_refl _) _)
    have hx0 : ∀ W, Below w0.heap.size w0 W → W.cell? ⟨w.heap.size, 0, none⟩ = some (.string wd) := fun W hW => by rw [hW.cell (by rw [hw0]; simp), hw0]; simp
    have hx1 : ∀ W, Below w0.heap.size w0 W → W.cell? ⟨w.heap.size, 1, none⟩ = some (.int .i64 st) := fun W hW => by rw [hW.cell (by rw [hw0]; simp), hw0]; simp
    rw [← hw0]
    clear hw0
    have z0 := hx0 _ (Below.refl _ _)
    have z1 := hx1 _ (Below.refl _ _)
    go_region_held3 (fun w' => w'.cell? ⟨w.heap.size, 0, none⟩ = some (.string wd) ∧ w'.cell? ⟨w.heap.size, 1, none⟩ = some (.int .i64 st)) (go_keep) (first
      | (go_at_call 30; refine (implFormatInt_any st _ h0 h1 (HT.out.later (Below.now HX.out (by repeat (first | exact Below.refl _ _ | refine Below.drew ?_ | refine below_drewN ?_ _))))).mono ?_; rintro e w2 ⟨rfl, hb2⟩; have k2 : Below w0.heap.size w0 w2 := Below.now (by repeat (first | exact Below.refl _ _ | refine Below.drew ?_ | refine below_drewN ?_ _)) hb2; have y0 := hx0 _ k2; have y1 := hx1 _ k2; clear hb2)
      | (go_at_call 34; refine (dotted_any _ _).mono ?_; rintro e w' ⟨rfl, rfl⟩)
      | (go_at_call 31; refine (implJoin_any [⟨#[108, 105, 109, 105, 116]⟩, numB st, dotB wd] ⟨#[32]⟩ _ 3 _ (three_in _ _ _ _ _) (by decide) (by decide) (by simp) (by unfold maxLen; simp) HZ.out).mono ?_; rintro e w3 ⟨rfl, hb3⟩; have k3 : Below w0.heap.size w0 w3 := Below.now (k2.alloc k2.size _) hb3; clear hb3))
    all_goals
      have hend := Below.now HX.out k3
      clear hx0 hx1 z0 z1
      go_wp2_with fail
      go_ret
      exact ⟨ret_str F.out, hend⟩
set_option maxRecDepth 50000 in
set_option maxHeartbeats 2000000 in
theorem implRun4 (wd : ByteArray) (st : Int) (w : World) (hw : wd.size ≤ 2097152) (h0 : -9223372036854775808 ≤ st) (h1 : st ≤ 9223372036854775807) (ht : Tab10 w) :
    Calls Tryd.prog 15 #[.agg #[.string wd, .int .i64 st, .int .i64 4]] w fun e w' => e = .returned (.string (runText wd st 4)) ∧ Below w.heap.size w w' := by
  have hn := itoa_len h0 h1
  have hd := dotB_size wd
  have HT := Lib.hid ht
  have F : Hid (joinF [⟨#[98, 97, 100]⟩, numB st, dotB wd] ⟨#[32]⟩ = runText wd st 4) := Lib.hid (rfl)
  have HZ : Hid ((joinF [⟨#[98, 97, 100]⟩, numB st, dotB wd] ⟨#[32]⟩).size ≤ 2 ^ 46) := Lib.hid (by rw [F.out]; exact runText_size hw h0 h1)
  clear ht
  have hin : inB 4 0 4 = true := by decide
  have hix : ∀ W : World, (Instr.index 54 (.agg #[.string ⟨#[101, 110, 100, 101, 100]⟩, .string ⟨#[108, 111, 111, 112, 115]⟩, .string ⟨#[108, 111, 110, 103]⟩, .string ⟨#[108, 105, 109, 105, 116]⟩, .string ⟨#[98, 97, 100]⟩]) (.int .i64 4)).run Tryd.prog W = .ok (.string ⟨#[98, 97, 100]⟩) W := fun W => by kernel_rfl
  go_enter Tryd.func15, Tryd.ntmps15
  · go_wp2_with (go_at_call 33; refine (within_any _ _ _ _).mono ?_; rintro e w' ⟨h9, rfl⟩; rw [hin] at h9; subst h9)
    obtain ⟨w0, hw0⟩ : ∃ w0, w0 = (w.alloc (.cells #[.string wd, .int .i64 st, .int .i64 4] 31)) := ⟨_, rfl⟩
    have HX : Hid (Below w.heap.size w w0) := Lib.hid (by rw [hw0]; exact (Below.refl _ _).alloc (Nat.le_refl _) _)
    have hx0 : ∀ W, Below w0.heap.size w0 W → W.cell? ⟨w.heap.size, 0, none⟩ = some (.string wd) := fun W hW => by rw [hW.cell (by rw [hw0]; simp), hw0]; simp
    have hx1 : ∀ W, Below w0.heap.size w0 W → W.cell? ⟨w.heap.size, 1, none⟩ = some (.int .i64 st) := fun W hW => by rw [hW.cell (by rw [hw0]; simp), hw0]; simp
    rw [← hw0]
    clear hw0
    have z0 := hx0 _ (Below.refl _ _)
    have z1 := hx1 _ (Below.refl _ _)
    go_region_held3 (fun w' => w'.cell? ⟨w.heap.size, 0, none⟩ = some (.string wd) ∧ w'.cell? ⟨w.heap.size, 1, none⟩ = some (.int .i64 st)) (go_keep) (first
      | (go_at_call 30; refine (implFormatInt_any st _ h0 h1 (HT.out.later (Below.now HX.out (by repeat (first | exact Below.refl _ _ | refine Below.drew ?_ | refine below_drewN ?_ _))))).mono ?_; rintro e w2 ⟨rfl, hb2⟩; have k2 : Below w0.heap.size w0 w2 := Below.now (by repeat (first | exact Below.refl _ _ | refine Below.drew ?_ | refine below_drewN ?_ _)) hb2; have y0 := hx0 _ k2; have y1 := hx1 _ k2; clear hb2)
      | (go_at_call 34; refine (dotted_any _ _).mono ?_; rintro e w' ⟨rfl, rfl⟩)
      | (go_at_call 31; refine (implJoin_any [⟨#[98, 97, 100]⟩, numB st, dotB wd] ⟨#[32]⟩ _ 3 _ (three_in _ _ _ _ _) (by decide) (by decide) (by simp) (by unfold maxLen; simp) HZ.out).mono ?_; rintro e w3 ⟨rfl, hb3⟩; have k3 : Below w0.heap.size w0 w3 := Below.now (k2.alloc k2.size _) hb3; clear hb3))
    all_goals
      have hend := Below.now HX.out k3
      clear hx0 hx1 z0 z1
      go_wp2_with fail
      go_ret
      exact ⟨ret_str F.out, hend⟩
set_option maxRecDepth 50000 in
set_option maxHeartbeats 2000000 in
theorem implRunX (wd : ByteArray) (st c : Int) (w : World) (hw : wd.size ≤ 2097152) (h0 : -9223372036854775808 ≤ st) (h1 : st ≤ 9223372036854775807) (n0 : ¬ c = 0) (n1 : ¬ c = 1) (n2 : ¬ c = 2) (n3 : ¬ c = 3) (n4 : ¬ c = 4) (ht : Tab10 w) :
    Calls Tryd.prog 15 #[.agg #[.string wd, .int .i64 st, .int .i64 c]] w fun e w' => e = .returned (.string (runText wd st c)) ∧ Below w.heap.size w w' := by
  have hn := itoa_len h0 h1
  have hd := dotB_size wd
  have HT := Lib.hid ht
  have F : Hid (joinF [⟨#[63]⟩, numB st, dotB wd] ⟨#[32]⟩ = runText wd st c) := Lib.hid (by rw [← runText_join]; simp [codeS, n0, n1, n2, n3, n4])
  have HZ : Hid ((joinF [⟨#[63]⟩, numB st, dotB wd] ⟨#[32]⟩).size ≤ 2 ^ 46) := Lib.hid (by rw [F.out]; exact runText_size hw h0 h1)
  clear ht
  have hin : inB c 0 4 = false := by
    cases hb : inB c 0 4
    · rfl
    · have := inB_bounds hb; omega
  go_enter Tryd.func15, Tryd.ntmps15
  · go_wp2_with (go_at_call 33; refine (within_any _ _ _ _).mono ?_; rintro e w' ⟨h9, rfl⟩; rw [hin] at h9; subst h9)
    obtain ⟨w0, hw0⟩ : ∃ w0, w0 = (w.alloc (.cells #[.string wd, .int .i64 st, .int .i64 c] 31)) := ⟨_, rfl⟩
    have HX : Hid (Below w.heap.size w w0) := Lib.hid (by rw [hw0]; exact (Below.refl _ _).alloc (Nat.le_refl _) _)
    have hx0 : ∀ W, Below w0.heap.size w0 W → W.cell? ⟨w.heap.size, 0, none⟩ = some (.string wd) := fun W hW => by rw [hW.cell (by rw [hw0]; simp), hw0]; simp
    have hx1 : ∀ W, Below w0.heap.size w0 W → W.cell? ⟨w.heap.size, 1, none⟩ = some (.int .i64 st) := fun W hW => by rw [hW.cell (by rw [hw0]; simp), hw0]; simp
    rw [← hw0]
    clear hw0
    have z0 := hx0 _ (Below.refl _ _)
    have z1 := hx1 _ (Below.refl _ _)
    go_region_held3 (fun w' => w'.cell? ⟨w.heap.size, 0, none⟩ = some (.string wd) ∧ w'.cell? ⟨w.heap.size, 1, none⟩ = some (.int .i64 st)) (go_keep) (first
      | (go_at_call 30; refine (implFormatInt_any st _ h0 h1 (HT.out.later (Below.now HX.out (by repeat (first | exact Below.refl _ _ | refine Below.drew ?_ | refine below_drewN ?_ _))))).mono ?_; rintro e w2 ⟨rfl, hb2⟩; have k2 : Below w0.heap.size w0 w2 := Below.now (by repeat (first | exact Below.refl _ _ | refine Below.drew ?_ | refine below_drewN ?_ _)) hb2; have y0 := hx0 _ k2; have y1 := hx1 _ k2; clear hb2)
      | (go_at_call 34; refine (dotted_any _ _).mono ?_; rintro e w' ⟨rfl, rfl⟩)
      | (go_at_call 31; refine (implJoin_any [⟨#[63]⟩, numB st, dotB wd] ⟨#[32]⟩ _ 3 _ (three_in _ _ _ _ _) (by decide) (by decide) (by simp) (by unfold maxLen; simp) HZ.out).mono ?_; rintro e w3 ⟨rfl, hb3⟩; have k3 : Below w0.heap.size w0 w3 := Below.now (k2.alloc k2.size _) hb3; clear hb3))
    all_goals
      have hend := Below.now HX.out k3
      clear hx0 hx1 z0 z1
      go_wp2_with fail
      go_ret
      exact ⟨ret_str F.out, hend⟩
theorem specRunText_any (wd : ByteArray) (st c : Int) (w : World) (hw : wd.size ≤ 2097152) (h0 : -9223372036854775808 ≤ st) (h1 : st ≤ 9223372036854775807) :
    Calls Tryd.prog 13 #[.agg #[.string wd, .int .i64 st, .int .i64 c]] w fun e w' => e = .returned (.string (runText wd st c)) ∧ Below w.heap.size w w' := by
  by_cases n0 : c = 0
  · subst n0; exact specRun0 wd st w hw h0 h1
  by_cases n1 : c = 1
  · subst n1; exact specRun1 wd st w hw h0 h1
  by_cases n2 : c = 2
  · subst n2; exact specRun2 wd st w hw h0 h1
  by_cases n3 : c = 3
  · subst n3; exact specRun3 wd st w hw h0 h1
  by_cases n4 : c = 4
  · subst n4; exact specRun4 wd st w hw h0 h1
  exact specRunX wd st c w hw h0 h1 n0 n1 n2 n3 n4
theorem implRunText_any (wd : ByteArray) (st c : Int) (w : World) (hw : wd.size ≤ 2097152) (h0 : -9223372036854775808 ≤ st) (h1 : st ≤ 9223372036854775807) (ht : Tab10 w) :
    Calls Tryd.prog 15 #[.agg #[.string wd, .int .i64 st, .int .i64 c]] w fun e w' => e = .returned (.string (runText wd st c)) ∧ Below w.heap.size w w' := by
  by_cases n0 : c = 0
  · subst n0; exact implRun0 wd st w hw h0 h1 ht
  by_cases n1 : c = 1
  · subst n1; exact implRun1 wd st w hw h0 h1 ht
  by_cases n2 : c = 2
  · subst n2; exact implRun2 wd st w hw h0 h1 ht
  by_cases n3 : c = 3
  · subst n3; exact implRun3 wd st w hw h0 h1 ht
  by_cases n4 : c = 4
  · subst n4; exact implRun4 wd st w hw h0 h1 ht
  exact implRunX wd st c w hw h0 h1 n0 n1 n2 n3 n4 ht
end Go.Proofs.YtldkghfnlkbmpaaDoor
