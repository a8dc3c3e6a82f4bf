/-
  Borders and periods: the program's borders; the least period.
-/
import Derived.Test.YtldkghfnlkbmpaaDoorPeriod
namespace Go.Proofs.YtldkghfnlkbmpaaDoor
open Go.RowKit
set_option linter.unusedVariables false
theorem bl_cut (s : ByteArray) (a b : Nat) : bl (s.extract a b) = ((bl s).drop a).take (b - a) := by
  unfold bl
  have : (s.extract a b).data = s.data.extract a b := by simp
  rw [this, Array.toList_extract, List.extract_eq_take_drop]
theorem gb_some {l : List UInt8} {j : Nat} (h : j < l.length) : l[j]? = some (gb l j) := by
  unfold gb; rw [List.getD_eq_getElem?_getD, List.getElem?_eq_getElem h]; rfl
theorem cut_eq {s : ByteArray} {n : Nat} (hn : n < s.size) : ((s.extract 0 n).toList == (s.extract (s.size - n) s.size).toList) = true ↔ isB (bl s) s.size n := by
  rw [beq_iff_eq, ByteArray.toList_eq, ByteArray.toList_eq]
  show bl (s.extract 0 n) = bl (s.extract (s.size - n) s.size) ↔ _
  rw [bl_cut, bl_cut, List.drop_zero, Nat.sub_zero, show s.size - (s.size - n) = n by omega]
  have hl := bl_len s
  constructor
  · intro h
    refine ⟨hn, fun j hj => ?_⟩
    have := congrArg (fun l => l[j]?) h
    simp only [List.getElem?_take, List.getElem?_drop] at this
    rw [if_pos hj, if_pos hj, gb_some (by omega), gb_some (by omega)] at this
    exact Option.some.inj this
  · rintro ⟨_, h⟩
    refine List.ext_getElem? fun i => ?_
    rw [List.getElem?_take, List.getElem?_take, List.getElem?_drop]
    by_cases hi : i < n
    · rw [if_pos hi, if_pos hi, gb_some (by omega), gb_some (by omega), h i hi]
    · rw [if_neg hi, if_neg hi]
theorem last_snoc (xs : List Nat) (k : Nat) : lastN (xs ++ [k]) = k := by
  unfold lastN
  rw [List.length_append, List.length_singleton, Nat.add_sub_cancel, List.getD_eq_getElem?_getD, List.getElem?_append_right (Nat.le_refl _)]
  simp
def accOk (l : List UInt8) (n m : Nat) (xs : List Nat) : Prop := xs.length ≤ m ∧ (∀ j, j < xs.length → xs.getD j 0 ≤ n) ∧ ((m = 0 ∧ xs = []) ∨ (1 ≤ xs.length ∧ isB l n (lastN xs) ∧ ∀ k, k < m → isB l n k → k ≤ lastN xs))
theorem accOk_yes {l : List UInt8} {n m : Nat} {xs : List Nat} (h : accOk l n m xs) (hm : isB l n m) : accOk l n (m + 1) (xs ++ [m]) := by
  obtain ⟨a, b, _⟩ := h
  refine ⟨by rw [List.length_append, List.length_singleton]; omega, fun j hj => ?_, .inr ⟨by simp, by rw [last_snoc]; exact hm, fun k hk _ => by rw [last_snoc]; omega⟩⟩
  rw [List.length_append, List.length_singleton] at hj
  by_cases e : j = xs.length
  · rw [e, List.getD_eq_getElem?_getD, List.getElem?_append_right (Nat.le_refl _)]
    have := hm.1
    simp; omega
  · rw [List.getD_eq_getElem?_getD, List.getElem?_append_left (by omega), ← List.getD_eq_getElem?_getD]
    exact b j (by omega)
theorem accOk_no {l : List UInt8} {n m : Nat} {xs : List Nat} (hn : 0 < n) (h : accOk l n m xs) (hm : ¬ isB l n m) : accOk l n (m + 1) xs := by
  obtain ⟨a, b, c⟩ := h
  refine ⟨by omega, b, ?_⟩
  rcases c with ⟨rfl, _⟩ | ⟨d, e, f⟩
  · exact absurd (isB_zero hn) hm
  · refine .inr ⟨d, e, fun k hk hb => ?_⟩
    by_cases g : k = m
    · rw [g] at hb; exact absurd hb hm
    · exact f k (by omega) hb
theorem accOk_done {l : List UInt8} {n : Nat} {xs : List Nat} (hn : 0 < n) (hn4 : n ≤ 400) (h : accOk l n n xs) : bordOk l n xs := by
  obtain ⟨a, b, c⟩ := h
  rcases c with ⟨d, _⟩ | ⟨d, e, f⟩
  · omega
  · exact ⟨d, by omega, ⟨e, fun k hk => f k hk.1 hk⟩, b⟩
set_option maxRecDepth 20000 in
set_option maxHeartbeats 4000000 in
theorem implBordersOf_any (s : ByteArray) (w : World) (hok : longOkB 4 s = true) (hne : 1 ≤ s.size) :
    Calls Tryd.prog 61 #[.string s] w (RetBord (bl s) s.size w) := by
  have hsz := longOk_size hok
  have HLO := Lib.hid (fun W => implLongOk_any 4 s W (by unfold maxLen; omega))
  rw [hok] at HLO
  have HS := Lib.hid (Bld.nil 3 1 (Below.refl w.heap.size w))
  clear hok
  go_enter Tryd.func61, Tryd.ntmps61
  go_wp2_with (go_at_call 43; refine (HLO.out _).mono ?_; rintro e w' ⟨rfl, rfl⟩)
  go_loopw [3, 10] (fun o i wr => ∃ (n : Nat) (xs : List Nat), i = .int .i64 ((n : Nat) : Int) ∧ n ≤ s.size ∧ Hid (accOk (bl s) s.size n xs) ∧ Bld 3 1 w wr o xs.length (natVals xs)) (fun _ i _ => s.size - (intOf i).toNat)
  case atStart => exact ⟨0, [], rfl, Nat.zero_le _, Lib.hid ⟨Nat.le_refl _, fun j hj => absurd hj (by simp), .inl ⟨rfl, rfl⟩⟩, HS.out⟩
  case round =>
    clear HS
    obtain ⟨n, xs, rfl, hn, HA, hbd⟩ := hrel
    obtain ⟨a3, c3, rfl⟩ := owns_form hbd.1
    have HB := Lib.hid hbd
    have hxl : xs.length ≤ n := HA.out.1
    clear hbd
    by_cases hlt : n < s.size
    · have q0 : (n : Int) < (s.size : Int) := by omega
      have q1 : (s.size : Int) - (n : Int) = ((s.size - n : Nat) : Int) := by omega
      have q2 : ((s.size - n : Nat) : Int) ≤ (s.size : Int) := by omega
      have q3 : (n : Int) ≤ (s.size : Int) := by omega
      have q4 : s.size - n ≤ s.size := by omega
      have CE := Lib.hid (cut_eq hlt)
      go_wp2_with fail
      cases hb : ((s.extract 0 n).toList == (s.extract (s.size - n) s.size).toList)
      · have F := Lib.hid (accOk_no (by omega) HA.out (fun h => by have := CE.out.2 h; rw [hb] at this; cases this))
        go_quiet (fail)
        have HB2 := Lib.hid (HB.out.later (below_drewN (Below.refl _ _) nq))
        clear hb CE HB
        go_wp2_with fail
        go_roundw
        case rel => exact ⟨n + 1, xs, by go_num, by omega, F, HB2.out⟩
        case measure => simp [intOf]; omega
      · have F := Lib.hid (accOk_yes HA.out (CE.out.1 hb))
        go_quiet (fail)
        have HB2 := Lib.hid (HB.out.later (below_drewN (Below.refl _ _) nq))
        clear hb CE HB
        go_wp2_with (at_builtin; refine wpList_app1 rfl _ _ rfl Tryd.underlying22 Tryd.infoInt rfl (by decide) rfl HB2.out rfl rfl ?c1 ?c2 ?c3 ?c4)
        case c1 => simp [Value.oneCell']
        case c2 => unfold maxLen; omega
        case c3 => omega
        intro v3 w3 hb3
        have F3 : Hid (Bld 3 1 w w3 v3 (xs ++ [n]).length (natVals (xs ++ [n]))) := Lib.hid (by
          rw [List.length_append, List.length_singleton, natVals_snoc]; exact hb3)
        clear hb3 HB2
        go_wp2_with fail
        go_roundw
        case rel => exact ⟨n + 1, xs ++ [n], by go_num, by omega, F, F3.out⟩
        case measure => simp [intOf]; omega
    · obtain rfl : n = s.size := by omega
      have F : Hid (RetBord (bl s) s.size w (.returned (.slice a3 xs.length c3)) wr) := Lib.hid ⟨xs, accOk_done (by omega) hsz HA.out, HB.out.ret⟩
      have q0 : ¬ (s.size : Int) < (s.size : Int) := by omega
      go_wp2_with fail
      go_ret
      exact F.out
end Go.Proofs.YtldkghfnlkbmpaaDoor
