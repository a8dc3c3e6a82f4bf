/-
  Steps: slices of pairs of integers; FormatSteps, of the program and of the reference.
-/
import Derived.Test.YtdhaebbfiaddnaaGreatDoorGre08
import Derived.Deep.RegionHeld3
import Derived.Test.YtdhaebbfiaddnaaGreatDoorGre02
namespace Go.Proofs.YtdhaebbfiaddnaaGreatDoor
open Go.RowKit
set_option linter.unusedVariables false
/-- the word for a code -/
def codeS (c : Int) : ByteArray :=
  if c = 0 then ⟨#[101, 110, 100, 101, 100]⟩ else if c = 1 then ⟨#[108, 111, 111, 112, 115]⟩ else if c = 2 then ⟨#[108, 111, 110, 103]⟩ else if c = 3 then ⟨#[108, 105, 109, 105, 116]⟩ else if c = 4 then ⟨#[98, 97, 100]⟩ else ⟨#[63]⟩
theorem codeS_size (c : Int) : (codeS c).size ≤ 5 := by
  unfold codeS; (repeat' split) <;> decide
/-- RunText as a function of plain data -/
def runText (wd : ByteArray) (st c : Int) : ByteArray := codeS c ++ ⟨#[32]⟩ ++ numB st ++ ⟨#[32]⟩ ++ dotB wd
theorem runText_join (wd : ByteArray) (st c : Int) : joinF [codeS c, numB st, dotB wd] ⟨#[32]⟩ = runText wd st c := rfl
theorem runText_size {wd : ByteArray} {st c : Int} (hw : wd.size ≤ 2097152) (h0 : -9223372036854775808 ≤ st) (h1 : st ≤ 9223372036854775807) : (runText wd st c).size ≤ 2 ^ 46 := by
  have h2 := itoa_len h0 h1
  have h3 := codeS_size c
  have h4 := dotB_size wd
  unfold runText
  simp only [ByteArray.size_append]
  have : (ByteArray.mk #[32]).size = 1 := rfl
  omega
/-- three strings in a row -/
theorem three_in (W : World) (T : TypeId) (a b c : ByteArray) : StrsIn (W.alloc (.cells #[.string a, .string b, .string c] T)) (some ⟨W.heap.size, 0, none⟩) [a, b, c] := by
  right
  refine ⟨W.heap.size, 0, rfl, fun i hi => ?_⟩
  match i, hi with
  | 0, _ => simp
  | 1, _ => simp
  | 2, _ => simp
set_option maxRecDepth 50000 in
set_option maxHeartbeats 2000000 in
theorem implRun0 (wd : ByteArray) (st : Int) (w : World) (hw : wd.size ≤ 2097152) (h0 : -9223372036854775808 ≤ st) (h1 : st ≤ 9223372036854775807) (ht : Tab10 w) :
    Calls Tryz.prog 24 #[.agg #[.string wd, .int .i64 st, .int .i64 0]] w fun e w' => e = .returned (.string (runText wd st 0)) ∧ Below w.heap.size w w' := by
  have hn := itoa_len h0 h1
  have hd := dotB_size wd
  have HT := Lib.hid ht
  have F : Hid (joinF [⟨#[101, 110, 100, 101, 100]⟩, numB st, dotB wd] ⟨#[32]⟩ = runText wd st 0) := Lib.hid (rfl)
  have HZ : Hid ((joinF [⟨#[101, 110, 100, 101, 100]⟩, numB st, dotB wd] ⟨#[32]⟩).size ≤ 2 ^ 46) := Lib.hid (by rw [F.out]; exact runText_size hw h0 h1)
  clear ht
  have hin : inB 0 0 4 = true := by decide
  have hix : ∀ W : World, (Instr.index 92 (.agg #[.string ⟨#[101, 110, 100, 101, 100]⟩, .string ⟨#[108, 111, 111, 112, 115]⟩, .string ⟨#[108, 111, 110, 103]⟩, .string ⟨#[108, 105, 109, 105, 116]⟩, .string ⟨#[98, 97, 100]⟩]) (.int .i64 0)).run Tryz.prog W = .ok (.string ⟨#[101, 110, 100, 101, 100]⟩) W := fun W => by kernel_rfl
  go_enter Tryz.func24, Tryz.ntmps24
  · go_wp2_with (go_at_call 48; refine (within_any _ _ _ _).mono ?_; rintro e w' ⟨h9, rfl⟩; rw [hin] at h9; subst h9)
    obtain ⟨w0, hw0⟩ : ∃ w0, w0 = (w.alloc (.cells #[.string wd, .int .i64 st, .int .i64 0] 58)) := ⟨_, rfl⟩
    have HX : Hid (Below w.heap.size w w0) := Lib.hid (by rw [hw0]; exact (Below.refl _ _).alloc (Nat.le_refl _) _)
    have hx0 : ∀ W, Below w0.heap.size w0 W → W.cell? ⟨w.heap.size, 0, none⟩ = some (.string wd) := fun W hW => by rw [hW.cell (by rw [hw0]; simp), hw0]; simp
    have hx1 : ∀ W, Below w0.heap.size w0 W → W.cell? ⟨w.heap.size, 1, none⟩ = some (.int .i64 st) := fun W hW => by rw [hW.cell (by rw [hw0]; simp), hw0]; simp
    rw [← hw0]
    clear hw0
    have z0 := hx0 _ (Below.refl _ _)
    have z1 := hx1 _ (Below.refl _ _)
    go_region_held3 (fun w' => w'.cell? ⟨w.heap.size, 0, none⟩ = some (.string wd) ∧ w'.cell? ⟨w.heap.size, 1, none⟩ = some (.int .i64 st)) (go_keep) (first
      | (go_at_call 16; refine (implFormatInt_any st _ h0 h1 (HT.out.later (Below.now HX.out (by repeat (first | exact Below.refl _ _ | refine Below.drew ?_ | refine below_drewN ?_ _))))).mono ?_; rintro e w2 ⟨rfl, hb2⟩; have k2 : Below w0.heap.size w0 w2 := Below.now (by repeat (first | exact Below.refl _ _ | refine Below.drew ?_ | refine below_drewN ?_ _)) hb2; have y0 := hx0 _ k2; have y1 := hx1 _ k2; clear hb2)
      | (go_at_call 50; refine (dotted_any _ _).mono ?_; rintro e w' ⟨rfl, rfl⟩)
      | (go_at_call 44; refine (implJoin_any [⟨#[101, 110, 100, 101, 100]⟩, numB st, dotB wd] ⟨#[32]⟩ _ 3 _ (three_in _ _ _ _ _) (by decide) (by decide) (by simp) (by unfold maxLen; simp) HZ.out).mono ?_; rintro e w3 ⟨rfl, hb3⟩; have k3 : Below w0.heap.size w0 w3 := Below.now (k2.alloc k2.size _) hb3; clear hb3))
    all_goals
      have hend := Below.now HX.out k3
      clear hx0 hx1 z0 z1
      go_wp2_with fail
      go_ret
      exact ⟨ret_str F.out, hend⟩
set_option maxRecDepth 50000 in
set_option maxHeartbeats 2000000 in
theorem implRun1 (wd : ByteArray) (st : Int) (w : World) (hw : wd.size ≤ 2097152) (h0 : -9223372036854775808 ≤ st) (h1 : st ≤ 9223372036854775807) (ht : Tab10 w) :
    Calls Tryz.prog 24 #[.agg #[.string wd, .int .i64 st, .int .i64 1]] w fun e w' => e = .returned (.string (runText wd st 1)) ∧ Below w.heap.size w w' := by
  have hn := itoa_len h0 h1
  have hd := dotB_size wd
  have HT := Lib.hid ht
  have F : Hid (joinF [⟨#[108, 111, 111, 112, 115]⟩, numB st, dotB wd] ⟨#[32]⟩ = runText wd st 1) := Lib.hid (rfl)
  have HZ : Hid ((joinF [⟨#[108, 111, 111, 112, 115]⟩, numB st, dotB wd] ⟨#[32]⟩).size ≤ 2 ^ 46) := Lib.hid (by rw [F.out]; exact runText_size hw h0 h1)
  clear ht
  have hin : inB 1 0 4 = true := by decide
  have hix : ∀ W : World, (Instr.index 92 (.agg #[.string ⟨#[101, 110, 100, 101, 100]⟩, .string ⟨#[108, 111, 111, 112, 115]⟩, .string ⟨#[108, 111, 110, 103]⟩, .string ⟨#[108, 105, 109, 105, 116]⟩, .string ⟨#[98, 97, 100]⟩]) (.int .i64 1)).run Tryz.prog W = .ok (.string ⟨#[108, 111, 111, 112, 115]⟩) W := fun W => by kernel_rfl
  go_enter Tryz.func24, Tryz.ntmps24
  · go_wp2_with (go_at_call 48; refine (within_any _ _ _ _).mono ?_; rintro e w' ⟨h9, rfl⟩; rw [hin] at h9; subst h9)
    obtain ⟨w0, hw0⟩ : ∃ w0, w0 = (w.alloc (.cells #[.string wd, .int .i64 st, .int .i64 1] 58)) := ⟨_, rfl⟩
    have HX : Hid (Below w.heap.size w w0) := Lib.hid (by rw [hw0]; exact (Below.refl _ _).alloc (Nat.le_refl _) _)
    have hx0 : ∀ W, Below w0.heap.size w0 W → W.cell? ⟨w.heap.size, 0, none⟩ = some (.string wd) := fun W hW => by rw [hW.cell (by rw [hw0]; simp), hw0]; simp
    have hx1 : ∀ W, Below w0.heap.size w0 W → W.cell? ⟨w.heap.size, 1, none⟩ = some (.int .i64 st) := fun W hW => by rw [hW.cell (by rw [hw0]; simp), hw0]; simp
    rw [← hw0]
    clear hw0
    have z0 := hx0 _ (Below.refl _ _)
    have z1 := hx1 _ (Below.refl _ _)
    go_region_held3 (fun w' => w'.cell? ⟨w.heap.size, 0, none⟩ = some (.string wd) ∧ w'.cell? ⟨w.heap.size, 1, none⟩ = some (.int .i64 st)) (go_keep) (first
      | (go_at_call 16; refine (implFormatInt_any st _ h0 h1 (HT.out.later (Below.now HX.out (by repeat (first | exact Below.refl _ _ | refine Below.drew ?_ | refine below_drewN ?_ _))))).mono ?_; rintro e w2 ⟨rfl, hb2⟩; have k2 : Below w0.heap.size w0 w2 := Below.now (by repeat (first | exact Below.refl _ _ | refine Below.drew ?_ | refine below_drewN ?_ _)) hb2; have y0 := hx0 _ k2; have y1 := hx1 _ k2; clear hb2)
      | (go_at_call 50; refine (dotted_any _ _).mono ?_; rintro e w' ⟨rfl, rfl⟩)
      | (go_at_call 44; refine (implJoin_any [⟨#[108, 111, 111, 112, 115]⟩, numB st, dotB wd] ⟨#[32]⟩ _ 3 _ (three_in _ _ _ _ _) (by decide) (by decide) (by simp) (by unfold maxLen; simp) HZ.out).mono ?_; rintro e w3 ⟨rfl, hb3⟩; have k3 : Below w0.heap.size w0 w3 := Below.now (k2.alloc k2.size _) hb3; clear hb3))
    all_goals
      have hend := Below.now HX.out k3
      clear hx0 hx1 z0 z1
      go_wp2_with fail
      go_ret
      exact ⟨ret_str F.out, hend⟩
set_option maxRecDepth 50000 in
set_option maxHeartbeats 2000000 in
theorem implRun2 (wd : ByteArray) (st : Int) (w : World) (hw : wd.size ≤ 2097152) (h0 : -9223372036854775808 ≤ st) (h1 : st ≤ 9223372036854775807) (ht : Tab10 w) :
    Calls Tryz.prog 24 #[.agg #[.string wd, .int .i64 st, .int .i64 2]] w fun e w' => e = .returned (.string (runText wd st 2)) ∧ Below w.heap.size w w' := by
  have hn := itoa_len h0 h1
  have hd := dotB_size wd
  have HT := Lib.hid ht
  have F : Hid (joinF [⟨#[108, 111, 110, 103]⟩, numB st, dotB wd] ⟨#[32]⟩ = runText wd st 2) := Lib.hid (rfl)
  have HZ : Hid ((joinF [⟨#[108, 111, 110, 103]⟩, numB st, dotB wd] ⟨#[32]⟩).size ≤ 2 ^ 46) := Lib.hid (by rw [F.out]; exact runText_size hw h0 h1)
  clear ht
  have hin : inB 2 0 4 = true := by decide
  have hix : ∀ W : World, (Instr.index 92 (.agg #[.string ⟨#[101, 110, 100, 101, 100]⟩, .string ⟨#[108, 111, 111, 112, 115]⟩, .string ⟨#[108, 111, 110, 103]⟩, .string ⟨#[108, 105, 109, 105, 116]⟩, .string ⟨#[98, 97, 100]⟩]) (.int .i64 2)).run Tryz.prog W = .ok (.string ⟨#[108, 111, 110, 103]⟩) W := fun W => by kernel_rfl
  go_enter Tryz.func24, Tryz.ntmps24
  · go_wp2_with (go_at_call 48; refine (within_any _ _ _ _).mono ?_; rintro e w' ⟨h9, rfl⟩; rw [hin] at h9; subst h9)
    obtain ⟨w0, hw0⟩ : ∃ w0, w0 = (w.alloc (.cells #[.string wd, .int .i64 st, .int .i64 2] 58)) := ⟨_, rfl⟩
    have HX : Hid (Below w.heap.size w w0) := Lib.hid (by rw [hw0]; exact (Below.refl _ _).alloc (Nat.le_refl _) _)
    have hx0 : ∀ W, Below w0.heap.size w0 W → W.cell? ⟨w.heap.size, 0, none⟩ = some (.string wd) := fun W hW => by rw [hW.cell (by rw [hw0]; simp), hw0]; simp
    have hx1 : ∀ W, Below w0.heap.size w0 W → W.cell? ⟨w.heap.size, 1, none⟩ = some (.int .i64 st) := fun W hW => by rw [hW.cell (by rw [hw0]; simp), hw0]; simp
    rw [← hw0]
    clear hw0
    have z0 := hx0 _ (Below.refl _ _)
    have z1 := hx1 _ (Below.refl _ _)
    go_region_held3 (fun w' => w'.cell? ⟨w.heap.size, 0, none⟩ = some (.string wd) ∧ w'.cell? ⟨w.heap.size, 1, none⟩ = some (.int .i64 st)) (go_keep) (first
      | (go_at_call 16; refine (implFormatInt_any st _ h0 h1 (HT.out.later (Below.now HX.out (by repeat (first | exact Below.refl _ _ | refine Below.drew ?_ | refine below_drewN ?_ _))))).mono ?_; rintro e w2 ⟨rfl, hb2⟩; have k2 : Below w0.heap.size w0 w2 := Below.now (by repeat (first | exact Below.refl _ _ | refine Below.drew ?_ | refine below_drewN ?_ _)) hb2; have y0 := hx0 _ k2; have y1 := hx1 _ k2; clear hb2)
      | (go_at_call 50; refine (dotted_any _ _).mono ?_; rintro e w' ⟨rfl, rfl⟩)
      | (go_at_call 44; refine (implJoin_any [⟨#[108, 111, 110, 103]⟩, numB st, dotB wd] ⟨#[32]⟩ _ 3 _ (three_in _ _ _ _ _) (by decide) (by decide) (by simp) (by unfold maxLen; simp) HZ.out).mono ?_; rintro e w3 ⟨rfl, hb3⟩; have k3 : Below w0.heap.size w0 w3 := Below.now (k2.alloc k2.size _) hb3; clear hb3))
    all_goals
      have hend := Below.now HX.out k3
      clear hx0 hx1 z0 z1
      go_wp2_with fail
      go_ret
      exact ⟨ret_str F.out, hend⟩
set_option maxRecDepth 50000 in
set_option maxHeartbeats 2000000 in
theorem implRun3 (wd : ByteArray) (st : Int) (w : World) (hw : wd.size ≤ 2097152) (h0 : -9223372036854775808 ≤ st) (h1 : st ≤ 9223372036854775807) (ht : Tab10 w) :
    Calls Tryz.prog 24 #[.agg #[.string wd, .int .i64 st, .int .i64 3]] w fun e w' => e = .returned (.string (runText wd st 3)) ∧ Below w.heap.size w w' := by
  have hn := itoa_len h0 h1
  have hd := dotB_size wd
  have HT := Lib.hid ht
  have F : Hid (joinF [⟨#[108, 105, 109, 105, 116]⟩, numB st, dotB wd] ⟨#[32]⟩ = runText wd st 3) := Lib.hid (rfl)
  have HZ : Hid ((joinF [⟨#[108, 105, 109, 105, 116]⟩, numB st, dotB wd] ⟨#[32]⟩).size ≤ 2 ^ 46) := Lib.hid (by rw [F.out]; exact runText_size hw h0 h1)
  clear ht
  have hin : inB 3 0 4 = true := by decide
  have hix : ∀ W : World, (Instr.index 92 (.agg #[.string ⟨#[101, 110, 100, 101, 100]⟩, .string ⟨#[108, 111, 111, 112, 115]⟩, .string ⟨#[108, 111, 110, 103]⟩, .string ⟨#[108, 105, 109, 105, 116]⟩, .string ⟨#[98, 97, 100]⟩]) (.int .i64 3)).run Tryz.prog W = .ok (.string ⟨#[108, 105, 109, 105, 116]⟩) W := fun W => by kernel_rfl
  go_enter Tryz.func24, Tryz.ntmps24
  · go_wp2_with (go_at_call 48; refine (within_any _ _ _ _).mono ?_; rintro e w' ⟨h9, rfl⟩; rw [hin] at h9; subst h9)
    obtain ⟨w0, hw0⟩ : ∃ w0, w0 = (w.alloc (.cells #[.string wd, .int .i64 st, .int .i64 3] 58)) := ⟨_, rfl⟩
    have HX : Hid (Below w.heap.size w w0) := Lib.hid (by rw [hw0]; exact (Below.refl _ _).alloc (Nat.le_refl _) _)
    have hx0 : ∀ W, Below w0.heap.size w0 W → W.cell? ⟨w.heap.size, 0, none⟩ = some (.string wd) := fun W hW => by rw [hW.cell (by rw [hw0]; simp), hw0]; simp
    have hx1 : ∀ W, Below w0.heap.size w0 W → W.cell? ⟨w.heap.size, 1, none⟩ = some (.int .i64 st) := fun W hW => by rw [hW.cell (by rw [hw0]; simp), hw0]; simp
    rw [← hw0]
    clear hw0
    have z0 := hx0 _ (Below.refl _ _)
    have z1 := hx1 _ (Below.refl _ _)
    go_region_held3 (fun w' => w'.cell? ⟨w.heap.size, 0, none⟩ = some (.string wd) ∧ w'.cell? ⟨w.heap.size, 1, none⟩ = some (.int .i64 st)) (go_keep) (first
      | (go_at_call 16; refine (implFormatInt_any st _ h0 h1 (HT.out.later (Below.now HX.out (by repeat (first | exact Below.refl _ _ | refine Below.drew ?_ | refine below_drewN ?_ _))))).mono ?_; rintro e w2 ⟨rfl, hb2⟩; have k2 : Below w0.heap.size w0 w2 := Below.now (by repeat (first | exact Below.refl _ _ | refine Below.drew ?_ | refine below_drewN ?_ _)) hb2; have y0 := hx0 _ k2; have y1 := hx1 _ k2; clear hb2)
      | (go_at_call 50; refine (dotted_any _ _).mono ?_; rintro e w' ⟨rfl, rfl⟩)
      | (go_at_call 44; refine (implJoin_any [⟨#[108, 105, 109, 105, 116]⟩, numB st, dotB wd] ⟨#[32]⟩ _ 3 _ (three_in _ _ _ _ _) (by decide) (by decide) (by simp) (by unfold maxLen; simp) HZ.out).mono ?_; rintro e w3 ⟨rfl, hb3⟩; have k3 : Below w0.heap.size w0 w3 := Below.now (k2.alloc k2.size _) hb3; clear hb3))
    all_goals
      have hend := Below.now HX.out k3
      clear hx0 hx1 z0 z1
      go_wp2_with fail
      go_ret
      exact ⟨ret_str F.out, hend⟩
set_option maxRecDepth 50000 in
set_option maxHeartbeats 2000000 in
theorem implRun4 (wd : ByteArray) (st : Int) (w : World) (hw : wd.size ≤ 2097152) (h0 : -9223372036854775808 ≤ st) (h1 : st ≤ 9223372036854775807) (ht : Tab10 w) :
    Calls Tryz.prog 24 #[.agg #[.string wd, .int .i64 st, .int .i64 4]] w fun e w' => e = .returned (.string (runText wd st 4)) ∧ Below w.heap.size w w' := by
  have hn := itoa_len h0 h1
  have hd := dotB_size wd
  have HT := Lib.hid ht
  have F : Hid (joinF [⟨#[98, 97, 100]⟩, numB st, dotB wd] ⟨#[32]⟩ = runText wd st 4) := Lib.hid (rfl)
  have HZ : Hid ((joinF [⟨#[98, 97, 100]⟩, numB st, dotB wd] ⟨#[32]⟩).size ≤ 2 ^ 46) := Lib.hid (by rw [F.out]; exact runText_size hw h0 h1)
  clear ht
  have hin : inB 4 0 4 = true := by decide
  have hix : ∀ W : World, (Instr.index 92 (.agg #[.string ⟨#[101, 110, 100, 101, 100]⟩, .string ⟨#[108, 111, 111, 112, 115]⟩, .string ⟨#[108, 111, 110, 103]⟩, .string ⟨#[108, 105, 109, 105, 116]⟩, .string ⟨#[98, 97, 100]⟩]) (.int .i64 4)).run Tryz.prog W = .ok (.string ⟨#[98, 97, 100]⟩) W := fun W => by kernel_rfl
  go_enter Tryz.func24, Tryz.ntmps24
  · go_wp2_with (go_at_call 48; refine (within_any _ _ _ _).mono ?_; rintro e w' ⟨h9, rfl⟩; rw [hin] at h9; subst h9)
    obtain ⟨w0, hw0⟩ : ∃ w0, w0 = (w.alloc (.cells #[.string wd, .int .i64 st, .int .i64 4] 58)) := ⟨_, rfl⟩
    have HX : Hid (Below w.heap.size w w0) := Lib.hid (by rw [hw0]; exact (Below.refl _ _).alloc (Nat.le_refl _) _)
    have hx0 : ∀ W, Below w0.heap.size w0 W → W.cell? ⟨w.heap.size, 0, none⟩ = some (.string wd) := fun W hW => by rw [hW.cell (by rw [hw0]; simp), hw0]; simp
    have hx1 : ∀ W, Below w0.heap.size w0 W → W.cell? ⟨w.heap.size, 1, none⟩ = some (.int .i64 st) := fun W hW => by rw [hW.cell (by rw [hw0]; simp), hw0]; simp
    rw [← hw0]
    clear hw0
    have z0 := hx0 _ (Below.refl _ _)
    have z1 := hx1 _ (Below.refl _ _)
    go_region_held3 (fun w' => w'.cell? ⟨w.heap.size, 0, none⟩ = some (.string wd) ∧ w'.cell? ⟨w.heap.size, 1, none⟩ = some (.int .i64 st)) (go_keep) (first
      | (go_at_call 16; refine (implFormatInt_any st _ h0 h1 (HT.out.later (Below.now HX.out (by repeat (first | exact Below.refl _ _ | refine Below.drew ?_ | refine below_drewN ?_ _))))).mono ?_; rintro e w2 ⟨rfl, hb2⟩; have k2 : Below w0.heap.size w0 w2 := Below.now (by repeat (first | exact Below.refl _ _ | refine Below.drew ?_ | refine below_drewN ?_ _)) hb2; have y0 := hx0 _ k2; have y1 := hx1 _ k2; clear hb2)
      | (go_at_call 50; refine (dotted_any _ _).mono ?_; rintro e w' ⟨rfl, rfl⟩)
      | (go_at_call 44; refine (implJoin_any [⟨#[98, 97, 100]⟩, numB st, dotB wd] ⟨#[32]⟩ _ 3 _ (three_in _ _ _ _ _) (by decide) (by decide) (by simp) (by unfold maxLen; simp) HZ.out).mono ?_; rintro e w3 ⟨rfl, hb3⟩; have k3 : Below w0.heap.size w0 w3 := Below.now (k2.alloc k2.size _) hb3; clear hb3))
    all_goals
      have hend := Below.now HX.out k3
      clear hx0 hx1 z0 z1
      go_wp2_with fail
      go_ret
      exact ⟨ret_str F.out, hend⟩
set_option maxRecDepth 50000 in
set_option maxHeartbeats 2000000 in
theorem implRunX (wd : ByteArray) (st c : Int) (w : World) (hw : wd.size ≤ 2097152) (h0 : -9223372036854775808 ≤ st) (h1 : st ≤ 9223372036854775807) (n0 : ¬ c = 0) (n1 : ¬ c = 1) (n2 : ¬ c = 2) (n3 : ¬ c = 3) (n4 : ¬ c = 4) (ht : Tab10 w) :
    Calls Tryz.prog 24 #[.agg #[.string wd, .int .i64 st, .int .i64 c]] w fun e w' => e = .returned (.string (runText wd st c)) ∧ Below w.heap.size w w' := by
  have hn := itoa_len h0 h1
  have hd := dotB_size wd
  have HT := Lib.hid ht
  have F : Hid (joinF [⟨#[63]⟩, numB st, dotB wd] ⟨#[32]⟩ = runText wd st c) := Lib.hid (by rw [← runText_join]; simp [codeS, n0, n1, n2, n3, n4])
  have HZ : Hid ((joinF [⟨#[63]⟩, numB st, dotB wd] ⟨#[32]⟩).size ≤ 2 ^ 46) := Lib.hid (by rw [F.out]; exact runText_size hw h0 h1)
  clear ht
  have hin : inB c 0 4 = false := by
    cases hb : inB c 0 4
    · rfl
    · have := inB_bounds hb; omega
  go_enter Tryz.func24, Tryz.ntmps24
  · go_wp2_with (go_at_call 48; refine (within_any _ _ _ _).mono ?_; rintro e w' ⟨h9, rfl⟩; rw [hin] at h9; subst h9)
    obtain ⟨w0, hw0⟩ : ∃ w0, w0 = (w.alloc (.cells #[.string wd, .int .i64 st, .int .i64 c] 58)) := ⟨_, rfl⟩
    have HX : Hid (Below w.heap.size w w0) := Lib.hid (by rw [hw0]; exact (Below.refl _ _).alloc (Nat.le_refl _) _)
    have hx0 : ∀ W, Below w0.heap.size w0 W → W.cell? ⟨w.heap.size, 0, none⟩ = some (.string wd) := fun W hW => by rw [hW.cell (by rw [hw0]; simp), hw0]; simp
    have hx1 : ∀ W, Below w0.heap.size w0 W → W.cell? ⟨w.heap.size, 1, none⟩ = some (.int .i64 st) := fun W hW => by rw [hW.cell (by rw [hw0]; simp), hw0]; simp
    rw [← hw0]
    clear hw0
    have z0 := hx0 _ (Below.refl _ _)
    have z1 := hx1 _ (Below.refl _ _)
    go_region_held3 (fun w' => w'.cell? ⟨w.heap.size, 0, none⟩ = some (.string wd) ∧ w'.cell? ⟨w.heap.size, 1, none⟩ = some (.int .i64 st)) (go_keep) (first
      | (go_at_call 16; refine (implFormatInt_any st _ h0 h1 (HT.out.later (Below.now HX.out (by repeat (first | exact Below.refl _ _ | refine Below.drew ?_ | refine below_drewN ?_ _))))).mono ?_; rintro e w2 ⟨rfl, hb2⟩; have k2 : Below w0.heap.size w0 w2 := Below.now (by repeat (first | exact Below.refl _ _ | refine Below.drew ?_ | refine below_drewN ?_ _)) hb2; have y0 := hx0 _ k2; have y1 := hx1 _ k2; clear hb2)
      | (go_at_call 50; refine (dotted_any _ _).mono ?_; rintro e w' ⟨rfl, rfl⟩)
      | (go_at_call 44; refine (implJoin_any [⟨#[63]⟩, numB st, dotB wd] ⟨#[32]⟩ _ 3 _ (three_in _ _ _ _ _) (by decide) (by decide) (by simp) (by unfold maxLen; simp) HZ.out).mono ?_; rintro e w3 ⟨rfl, hb3⟩; have k3 : Below w0.heap.size w0 w3 := Below.now (k2.alloc k2.size _) hb3; clear hb3))
    all_goals
      have hend := Below.now HX.out k3
      clear hx0 hx1 z0 z1
      go_wp2_with fail
      go_ret
      exact ⟨ret_str F.out, hend⟩
theorem implRunText_any (wd : ByteArray) (st c : Int) (w : World) (hw : wd.size ≤ 2097152) (h0 : -9223372036854775808 ≤ st) (h1 : st ≤ 9223372036854775807) (ht : Tab10 w) :
    Calls Tryz.prog 24 #[.agg #[.string wd, .int .i64 st, .int .i64 c]] w fun e w' => e = .returned (.string (runText wd st c)) ∧ Below w.heap.size w w' := by
  by_cases n0 : c = 0
  · subst n0; exact implRun0 wd st w hw h0 h1 ht
  by_cases n1 : c = 1
  · subst n1; exact implRun1 wd st w hw h0 h1 ht
  by_cases n2 : c = 2
  · subst n2; exact implRun2 wd st w hw h0 h1 ht
  by_cases n3 : c = 3
  · subst n3; exact implRun3 wd st w hw h0 h1 ht
  by_cases n4 : c = 4
  · subst n4; exact implRun4 wd st w hw h0 h1 ht
  exact implRunX wd st c w hw h0 h1 n0 n1 n2 n3 n4 ht
end Go.Proofs.YtdhaebbfiaddnaaGreatDoor
namespace Go.Proofs.YtdhaebbfiaddnaaGreatDoor
open Go.RowKit
set_option linter.unusedVariables false
/-- the cells of steps -/
def stepCells : List (Int × Int) → List Value
  | [] => []
  | p :: l => .int .i64 p.1 :: .int .i64 p.2 :: stepCells l
theorem stepCells_len : ∀ l : List (Int × Int), (stepCells l).length = l.length * 2
  | [] => rfl
  | p :: l => by simp only [stepCells, List.length_cons, stepCells_len l]; omega
/-- the step at a place -/
def nthP (l : List (Int × Int)) (j : Nat) : Int × Int := l.getD j (0, 0)
theorem stepCells_at : ∀ (l : List (Int × Int)) (j : Nat), j < l.length → (stepCells l)[j * 2]? = some (.int .i64 (nthP l j).1) ∧ (stepCells l)[j * 2 + 1]? = some (.int .i64 (nthP l j).2)
  | [], j, h => by simp at h
  | p :: l, 0, _ => by simp [stepCells, nthP]
  | p :: l, j + 1, h => by
    have := stepCells_at l j (by simpa using h)
    rw [show (j + 1) * 2 = j * 2 + 2 by omega, show j * 2 + 2 + 1 = (j * 2 + 1) + 2 by omega]
    have e1 : ∀ n, (stepCells (p :: l))[n + 2]? = (stepCells l)[n]? := fun n => rfl
    have e2 : nthP (p :: l) (j + 1) = nthP l j := rfl
    rw [e1, e1, e2]
    exact this
/-- a slice of steps -/
def StepsIn (w : World) (a : Option Addr) (l : List (Int × Int)) : Prop := CellsIn w a (stepCells l)
theorem StepsIn.later {w w' : World} {a : Option Addr} {l : List (Int × Int)} (h : StepsIn w a l) (hb : Below w.heap.size w w') : StepsIn w' a l := CellsIn.later h hb
theorem StepsIn.cell {w : World} {a : Option Addr} {l : List (Int × Int)} (h : StepsIn w a l) {i : Nat} (hi : i < l.length) :
    ∃ b off, a = some ⟨b, off, none⟩ ∧ b < w.heap.size ∧ ∀ j, j < l.length → w.cell? ⟨b, off + j * 2, none⟩ = some (.int .i64 (nthP l j).1) ∧ w.cell? ⟨b, off + j * 2 + 1, none⟩ = some (.int .i64 (nthP l j).2) := by
  rcases h with h | ⟨b, off, ha, hc⟩
  · have := stepCells_len l
    rw [h, List.length_nil] at this
    omega
  · have key : ∀ j, j < l.length → w.cell? ⟨b, off + j * 2, none⟩ = some (.int .i64 (nthP l j).1) ∧ w.cell? ⟨b, off + j * 2 + 1, none⟩ = some (.int .i64 (nthP l j).2) := fun j hj => by
      obtain ⟨h1, h2⟩ := stepCells_at l j hj
      have hlen := stepCells_len l
      have c1 := hc (j * 2) (by omega)
      have c2 := hc (j * 2 + 1) (by omega)
      rw [List.getElem?_eq_getElem (by omega)] at h1 h2
      rw [Option.some.inj h1] at c1
      rw [Option.some.inj h2] at c2
      exact ⟨c1, by rw [← Nat.add_assoc] at c2; exact c2⟩
    exact ⟨b, off, ha, World.block_lt_of_cell? w _ (key i hi).1, key⟩
theorem owns_steps {w : World} {base : Nat} {T : TypeId} {size : Nat} {a : Option Addr} {n m cap : Nat} {l : List (Int × Int)} (h : w.ownsRow base T size (.slice a m cap) n (stepCells l)) : StepsIn w a l := owns_cells h
/-- the numbers are ints -/
def RngP (l : List (Int × Int)) : Prop := ∀ j, j < l.length → (-9223372036854775808 ≤ (nthP l j).1 ∧ (nthP l j).1 ≤ 9223372036854775807) ∧ (-9223372036854775808 ≤ (nthP l j).2 ∧ (nthP l j).2 ≤ 9223372036854775807)
/-- the text of a step -/
def stepB (p : Int × Int) : ByteArray := numB p.1 ++ ⟨#[64]⟩ ++ numB p.2
def stepTo (l : List (Int × Int)) (j : Nat) : List ByteArray := (l.take j).map stepB
theorem stepTo_len {l : List (Int × Int)} {j : Nat} (h : j ≤ l.length) : (stepTo l j).length = j := by simp [stepTo]; omega
theorem nthP_lt {l : List (Int × Int)} {j : Nat} (h : j < l.length) : nthP l j = l[j] := by simp [nthP, List.getD_eq_getElem?_getD, h]
theorem stepTo_succ {l : List (Int × Int)} {j : Nat} (h : j < l.length) : stepTo l (j + 1) = stepTo l j ++ [stepB (nthP l j)] := by
  unfold stepTo; rw [List.take_succ_eq_append_getElem h, nthP_lt h, List.map_append]; rfl
theorem stepTo_sum {l : List (Int × Int)} (hr : RngP l) : ∀ j, j ≤ l.length → strSum (stepTo l j) ≤ 43 * j
  | 0, _ => by simp [stepTo, strSum]
  | j + 1, h => by
    have h1 := stepTo_sum hr j (by omega)
    have h2 := itoa_len (hr j (by omega)).1.1 (hr j (by omega)).1.2
    have h3 := itoa_len (hr j (by omega)).2.1 (hr j (by omega)).2.2
    rw [stepTo_succ (by omega)]
    unfold strSum stepB at *
    rw [List.map_append, List.sum_append]
    simp only [List.map_cons, List.map_nil, List.sum_cons, List.sum_nil, Nat.add_zero, ByteArray.size_append]
    have : (ByteArray.mk #[64]).size = 1 := rfl
    omega
theorem specFormatIntB_any (n : Int) (w : World) (h0 : -9223372036854775808 ≤ n) (h1 : n ≤ 9223372036854775807) :
    Calls Tryz.prog 129 #[.int .i64 n] w fun e w' => e = .returned (.string (numB n)) ∧ Below w.heap.size w w' := specFormatInt_any n w h0 h1
/-- FormatSteps as a function of plain data -/
def fmtSteps (l : List (Int × Int)) : ByteArray := if l.length = 0 then ⟨#[45]⟩ else joinF (stepTo l l.length) ⟨#[32]⟩
theorem fmtSteps_zero {l : List (Int × Int)} (h : l.length = 0) : fmtSteps l = ⟨#[45]⟩ := by simp [fmtSteps, h]
theorem fmtSteps_pos {l : List (Int × Int)} (h : 0 < l.length) : fmtSteps l = joinF (stepTo l l.length) ⟨#[32]⟩ := by simp only [fmtSteps, if_neg (show ¬ l.length = 0 by omega)]
theorem fmtSteps_size {l : List (Int × Int)} (hr : RngP l) (h : l.length ≤ 2 ^ 40) : (joinF (stepTo l l.length) ⟨#[32]⟩).size ≤ 2 ^ 46 := by
  have h1 := joinF_size (stepTo l l.length) ⟨#[32]⟩
  have h3 := stepTo_sum hr l.length (Nat.le_refl _)
  rw [stepTo_len (Nat.le_refl _)] at h1
  have : (ByteArray.mk #[32]).size = 1 := rfl
  rw [this] at h1
  omega
set_option maxRecDepth 20000 in
set_option maxHeartbeats 2000000 in
theorem implFormatSteps_any (l : List (Int × Int)) (a : Option Addr) (cap : Nat) (w : World) (hl : StepsIn w a l) (hlen : l.length ≤ 2 ^ 40) (hr : RngP l) (ht : Tab10 w) :
    Calls Tryz.prog 22 #[.slice a l.length cap] w fun e w' => e = .returned (.string (fmtSteps l)) ∧ Below w.heap.size w w' := by
  have HL := Lib.hid hl
  have HZ := Lib.hid (fmtSteps_size hr hlen)
  have HR := Lib.hid hr
  have HT := Lib.hid ht
  clear hl hr ht
  rcases Nat.eq_zero_or_pos l.length with h0 | h0
  · have F := Lib.hid (fmtSteps_zero h0)
    rw [h0]
    go_enter Tryz.func22, Tryz.ntmps22
    go_wp2_with fail
    go_ret
    exact ⟨ret_str F.out.symm, Below.refl _ _⟩
  have F := Lib.hid (fmtSteps_pos h0)
  have HS := Lib.hid (Bld.nil 9 1 (Below.refl w.heap.size w))
  have hn0 : ((l.length : Int) == 0) = false := by rw [beq_eq_false_iff_ne]; omega
  go_enter Tryz.func22, Tryz.ntmps22
  go_wp2_with fail
  go_loopw [3, 11] (fun v i wr => ∃ j : Nat, j ≤ l.length ∧ i = .int .i64 j ∧ Bld 9 1 w wr v j (strVals (stepTo l j))) (fun _ i _ => l.length - (intOf i).toNat)
  case atStart => exact ⟨0, Nat.zero_le _, rfl, HS.out⟩
  case round =>
    clear HS
    obtain ⟨j, hj, rfl, hbd⟩ := hrel
    obtain ⟨a3, c3, rfl⟩ := owns_form hbd.1
    have HB := Lib.hid hbd
    have hbw := hbd.2
    clear hbd
    by_cases hlt : j < l.length
    · obtain ⟨b, off, rfl, hb, hc⟩ := (HL.out.later hbw).cell hlt
      obtain ⟨c1, c2⟩ := hc j hlt
      have F1 := Lib.hid (stepTo_succ hlt)
      have hr1 := (HR.out j hlt).1
      have hr2 := (HR.out j hlt).2
      have FS : Hid (stepB (nthP l j) = numB (nthP l j).1 ++ ⟨#[64]⟩ ++ numB (nthP l j).2) := Lib.hid rfl
      have hz1 := itoa_len hr1.1 hr1.2
      have hz2 := itoa_len hr2.1 hr2.2
      generalize (nthP l j).1 = p1 at *
      generalize (nthP l j).2 = p2 at *
      have HR1 := Lib.hid hr1
      have HR2 := Lib.hid hr2
      have hA : ¬ 9223372036854775807 < (numB p1).size + 1 := by omega
      have hB : ¬ 9223372036854775807 < (numB p1).size + 1 + (numB p2).size := by omega
      clear hc hr1 hr2
      go_wp2_with fail
      obtain ⟨w0, hw0⟩ : ∃ w0, w0 = wr.alloc (.cells #[.int .i64 p1, .int .i64 p2] 30) := ⟨_, rfl⟩
      have y0 : w0.cell? ⟨wr.heap.size, 0, none⟩ = some (.int .i64 p1) := by rw [hw0]; simp
      have y1 : w0.cell? ⟨wr.heap.size, 1, none⟩ = some (.int .i64 p2) := by rw [hw0]; simp
      have k0 : Below wr.heap.size wr w0 := by rw [hw0]; exact (Below.refl _ _).alloc (Nat.le_refl _) _
      have HB0 := Lib.hid (HB.out.later k0)
      have hbw0 := Lib.hid (Below.now hbw k0)
      have k := Below.refl w0.heap.size w0
      have hne : (Value.slice a3 j c3).ownBlock ≠ some wr.heap.size := fun e => by have := (HB.out.1.lt _ e).2; omega
      have HC1 : Hid (j + 1 ≤ maxLen) := Lib.hid (by unfold maxLen; omega)
      have HC2 : Hid ((j + 1) * 16 ≤ 140737488355328) := Lib.hid (by omega)
      have hone : ∀ s : ByteArray, ∀ u ∈ [Value.string s], u.oneCell' = true := fun s u hu => by rw [List.mem_singleton.1 hu]; rfl
      rw [← hw0]
      clear hw0 c1 c2 hb k0 hbw HB

      go_region_held3 (fun w' => w'.cell? ⟨wr.heap.size, 0, none⟩ = some (.int .i64 p1) ∧ w'.cell? ⟨wr.heap.size, 1, none⟩ = some (.int .i64 p2)) (go_keep) (first
        | (go_at_call 16; refine (implFormatInt_any _ _ (by first | exact HR1.out.1 | exact HR2.out.1) (by first | exact HR1.out.2 | exact HR2.out.2) (HT.out.later (Below.now hbw0.out (by repeat (first | exact k | refine Below.drew ?_ | refine below_drewN ?_ _))))).mono ?_; rintro e w2 ⟨rfl, hb2⟩; replace k : Below w0.heap.size w0 w2 := Below.now (by repeat (first | exact k | refine Below.drew ?_ | refine below_drewN ?_ _)) hb2; have s0 := (k.cell (World.block_lt_of_cell? w0 _ y0)).trans y0; have s1 := (k.cell (World.block_lt_of_cell? w0 _ y1)).trans y1; clear hb2)
        | (refine step_app1g rfl _ _ (by rfl) Tryz.underlying52 Tryz.infoStr rfl (by decide) (by rfl) (HB0.out.later k) (by rfl) rfl (hone _) HC1.out HC2.out ?_; intro v2 w4 hb4 hgr; have t0 := far_cell hgr ((k.cell (World.block_lt_of_cell? w0 _ y0)).trans y0) hne; have t1 := far_cell hgr ((k.cell (World.block_lt_of_cell? w0 _ y1)).trans y1) hne; clear hgr))
      all_goals
        have F2 : Hid (Bld 9 1 w w4 v2 (j + 1) (strVals (stepTo l (j + 1)))) := by
          rw [F1.out, FS.out]; unfold strVals at *; rw [List.map_append]; exact Lib.hid hb4
        clear hb4 y0 y1 k hne
        go_wp2_with fail
        go_roundw
        case rel => exact ⟨j + 1, by omega, by go_num, F2.out⟩
        case measure => simp [intOf]; omega
    · obtain rfl : j = l.length := by omega
      have hdl := stepTo_len (l := l) (Nat.le_refl _)
      go_wp2_with fail
      have hJ := implJoin_any (stepTo l l.length) ⟨#[32]⟩ a3 c3 wr (owns_strs HB.out.1) (by decide) (by decide) (by omega) (by rw [hdl]; exact owns_capS HB.out.1) HZ.out
      rw [hdl] at hJ
      refine hJ.mono ?_
      rintro e w5 ⟨rfl, hb5⟩
      replace hbw := Below.now hbw hb5
      clear hb5 hJ
      go_wp2_with fail
      go_ret
      exact ⟨ret_str F.out.symm, hbw⟩
end Go.Proofs.YtdhaebbfiaddnaaGreatDoor
