/-
  The program's order of words (compareWords).
-/
import Derived.Test.YtlldhmoiahcfpaaDoorSortW
import Derived.Test.YtlldhmoiahcfpaaDoorShelf
import Derived.Sort.OwnSorted
namespace Go.Proofs.YtlldhmoiahcfpaaDoor
open Go.RowKit Go.Sort
set_option linter.unusedVariables false
/-- cmp.Compare at strings -/
def cmpS (a b : List UInt8) : Int := if Op.bytesLess a b = true then -1 else if (a == b) = true then 0 else 1
/-- cmp.Or at two integers -/
def orF (x y : Int) : Int := if (x == 0) = true then y else x
/-- compareWords -/
def cfW (a b : ByteArray) : Int := orF (Lib.compareInt (a.size : Int) (b.size : Int)) (cmpS a.toList b.toList)
set_option maxHeartbeats 400000 in
theorem isNaNS_any (a : ByteArray) (w : World) : Calls Tryd.prog 85 #[.string a] w fun e w' => e = .returned (.bool false) ∧ w = w' := by
  go_enter Tryd.func85, Tryd.ntmps85
  go_wp2_with fail
  go_ret
  exact ⟨rfl, rfl⟩
set_option maxHeartbeats 400000 in
theorem compareS_any (a b : ByteArray) (w : World) : Calls Tryd.prog 79 #[.string a, .string b] w fun e w' => e = .returned (.int .i64 (cmpS a.toList b.toList)) ∧ w = w' := by
  cases h1 : Op.bytesLess a.toList b.toList
  · cases h2 : (a.toList == b.toList)
    · have F : Hid (cmpS a.toList b.toList = 1) := Lib.hid (by unfold cmpS; rw [h1, h2]; rfl)
      go_enter Tryd.func79, Tryd.ntmps79
      go_wp2_with (go_at_call 85; refine (isNaNS_any _ _).mono ?_; rintro e w' ⟨rfl, rfl⟩)
      go_ret
      exact ⟨ret_int F.out.symm, rfl⟩
    · have F : Hid (cmpS a.toList b.toList = 0) := Lib.hid (by unfold cmpS; rw [h1, h2]; rfl)
      go_enter Tryd.func79, Tryd.ntmps79
      go_wp2_with (go_at_call 85; refine (isNaNS_any _ _).mono ?_; rintro e w' ⟨rfl, rfl⟩)
      go_ret
      exact ⟨ret_int F.out.symm, rfl⟩
  · have F : Hid (cmpS a.toList b.toList = -1) := Lib.hid (by unfold cmpS; rw [h1]; rfl)
    go_enter Tryd.func79, Tryd.ntmps79
    go_wp2_with (go_at_call 85; refine (isNaNS_any _ _).mono ?_; rintro e w' ⟨rfl, rfl⟩)
    go_ret
    exact ⟨ret_int F.out.symm, rfl⟩
set_option maxHeartbeats 400000 in
theorem orInt_any (x y : Int) (b cap : Nat) (w : World) (h0 : w.cell? ⟨b, 0, none⟩ = some (.int .i64 x)) (h1 : w.cell? ⟨b, 1, none⟩ = some (.int .i64 y)) :
    Calls Tryd.prog 77 #[.slice (some ⟨b, 0, none⟩) 2 cap] w fun e w' => e = .returned (.int .i64 (orF x y)) ∧ w = w' := by
  go_enter Tryd.func77, Tryd.ntmps77
  go_wp2_with fail
  go_loop [8] (fun i => ∃ j : Nat, j ≤ 2 ∧ i = .int .i64 (j : Nat) ∧ Hid (0 < j → x = 0) ∧ Hid (1 < j → y = 0)) (fun i => 2 - (intOf i).toNat)
  case atStart => exact ⟨0, Nat.zero_le _, rfl, Lib.hid (by omega), Lib.hid (by omega)⟩
  case round =>
    obtain ⟨j, hj, rfl, hx, hy⟩ := hrel
    rcases (show j = 0 ∨ j = 1 ∨ j = 2 by omega) with h | h | h
    · subst h
      cases hq : (x == 0)
      · have hn : (x != 0) = true := by rw [bne, hq]; rfl
        have F : Hid (orF x y = x) := Lib.hid (by unfold orF; rw [hq]; rfl)
        go_wp2_with fail
        go_ret
        exact ⟨ret_int F.out.symm, rfl⟩
      · have hn : (x != 0) = false := by rw [bne, hq]; rfl
        have hx2 : Hid (x = 0) := Lib.hid (by simpa using hq)
        go_wp2_with fail
        go_round
        case rel => exact ⟨1, by omega, by go_num, Lib.hid (fun _ => hx2.out), Lib.hid (by omega)⟩
        case measure => simp [intOf]
    · subst h
      have hx2 : Hid (orF x y = y) := Lib.hid (by unfold orF; rw [hx.out (by omega)]; rfl)
      cases hq : (y == 0)
      · have hn : (y != 0) = true := by rw [bne, hq]; rfl
        go_wp2_with fail
        go_ret
        exact ⟨ret_int hx2.out.symm, rfl⟩
      · have hn : (y != 0) = false := by rw [bne, hq]; rfl
        have hy2 : Hid (y = 0) := Lib.hid (by simpa using hq)
        go_wp2_with fail
        go_round
        case rel => exact ⟨2, by omega, by go_num, Lib.hid (fun _ => hx.out (by omega)), Lib.hid (fun _ => hy2.out)⟩
        case measure => simp [intOf]
    · subst h
      have F : Hid ((orF x y) = 0) := Lib.hid (by unfold orF; rw [hx.out (by omega), hy.out (by omega)]; rfl)
      go_wp2_with fail
      go_ret
      exact ⟨ret_int F.out.symm, rfl⟩
set_option maxHeartbeats 400000 in
theorem compareWords_any (a b : ByteArray) (w : World) : Calls Tryd.prog 69 #[.string a, .string b] w fun e w' => e = .returned (.int .i64 (cfW a b)) ∧ ∃ o, w' = w.alloc o := by
  have H1 := Lib.hid (fun W => Tryd.cmp_Compare_int (a.size : Int) (b.size : Int) W)
  have H2 := Lib.hid (fun W => compareS_any a b W)
  have F : Hid (cfW a b = orF (Lib.compareInt (a.size : Int) (b.size : Int)) (cmpS a.toList b.toList)) := Lib.hid rfl
  generalize Lib.compareInt (a.size : Int) (b.size : Int) = x at *
  generalize cmpS a.toList b.toList = y at *
  have H3 : Hid (∀ W : World, Calls Tryd.prog 77 #[.slice (some ⟨W.heap.size, 0, none⟩) 2 2] (W.alloc (.cells #[.int .i64 x, .int .i64 y] 3)) fun e w' => e = .returned (.int .i64 (orF x y)) ∧ W.alloc (.cells #[.int .i64 x, .int .i64 y] 3) = w') := Lib.hid (fun W => orInt_any x y _ _ _ (by simp [World.cell?_alloc_new]) (by simp [World.cell?_alloc_new]))
  go_enter Tryd.func69, Tryd.ntmps69
  go_wp2_with (first | (go_at_call 78; refine (H1.out _).mono ?_; rintro e w' ⟨rfl, rfl⟩) | (go_at_call 79; refine (H2.out _).mono ?_; rintro e w' ⟨rfl, rfl⟩) | (go_at_call 77; refine (H3.out _).mono ?_; rintro e w' ⟨rfl, rfl⟩))
  go_ret
  exact ⟨ret_int F.out.symm, _, rfl⟩
end Go.Proofs.YtlldhmoiahcfpaaDoor
