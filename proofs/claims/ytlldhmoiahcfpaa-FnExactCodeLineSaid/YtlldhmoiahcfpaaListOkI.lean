/-
  ListOk of the program.
-/
import Derived.Test.YtlldhmoiahcfpaaListOk
import Derived.Test.YtlldhmoiahcfpaaShelf
namespace Go.Proofs.Ytlldhmoiahcfpaa
open Go.RowKit
set_option linter.unusedVariables false
set_option maxHeartbeats 400000 in
theorem implWordOk_any (k : Int) (s : ByteArray) (w : World) (hs : s.size ≤ maxLen) :
    Calls Try.prog 24 #[.int .i64 k, .string s] w fun e w' => e = .returned (.bool (wordOkB k s)) ∧ w = w' := by
  cases hk : inB k 1 4
  · have F := Lib.hid (wordOk_notk (s := s) hk)
    unfold maxLen at hs
    go_enter Try.func24, Try.ntmps24
    go_wp2_with (go_at_call 23; refine (within_any _ _ _ _).mono ?_; rintro e w' ⟨h2, rfl⟩; rw [hk] at h2; subst h2)
    go_ret
    exact ⟨ret_bool F.out.symm, rfl⟩
  have ⟨hk1, hk2⟩ := inB_bounds hk
  by_cases hl : 16 < s.size
  · have F := Lib.hid (wordOk_long (k := k) hl)
    unfold maxLen at hs
    go_enter Try.func24, Try.ntmps24
    go_wp2_with (go_at_call 23; refine (within_any _ _ _ _).mono ?_; rintro e w' ⟨h2, rfl⟩; rw [hk] at h2; subst h2)
    go_ret
    exact ⟨ret_bool F.out.symm, rfl⟩
  · have G := Lib.hid (wordOk_all (s := s) hk (by omega))
    have HS := Lib.hid hs
    unfold maxLen at hs
    go_enter Try.func24, Try.ntmps24
    go_wp2_with (first | (go_at_call 23; refine (within_any _ _ _ _).mono ?_; rintro e w' ⟨h2, rfl⟩; rw [hk] at h2; subst h2) | (go_at_call 37; refine (hasLetters_any _ _ _ HS.out (by omega) (by omega)).mono ?_; rintro e w' ⟨rfl, rfl⟩))
    go_ret
    exact ⟨ret_bool G.out.symm, rfl⟩
theorem containsS_any (l : List ByteArray) (v : ByteArray) (b off cap : Nat) (w : World) (hl : StrsIn w (some ⟨b, off, none⟩) l) (hlen : l.length ≤ 2 ^ 40) :
    Calls Try.prog 25 #[.slice (some ⟨b, off, none⟩) l.length cap, .string v] w (RetP (v ∈ l) w) := by
  rcases Nat.eq_zero_or_pos l.length with h0 | h0
  · have he : l = [] := List.eq_nil_of_length_eq_zero h0
    subst he
    exact (Try.slices_Contains_string_empty (some ⟨b, off, none⟩) cap v w).mono fun e w' ⟨h1, h2⟩ => by
      subst h1 h2
      exact RetP.no (by simp) (Below.refl _ _)
  · obtain ⟨b2, o2, hbo, hb, hc⟩ := hl.cell h0
    have hab := Option.some.inj hbo
    simp only [Addr.mk.injEq, and_true] at hab
    obtain ⟨rfl, rfl⟩ := hab
    refine (Try.slices_Contains_string b off l.length cap l v w (Nat.le_refl _) (by omega) (fun j hj => hc j hj)).mono fun e w' ⟨h1, h2⟩ => ?_
    subst h1 h2
    rw [List.take_length]
    exact ⟨_, Lib.containsS_iff l v, rfl, Below.refl _ _⟩
set_option maxRecDepth 20000 in
set_option maxHeartbeats 1000000 in
theorem implListOk_any (l : List ByteArray) (a : Option Addr) (cap : Nat) (w : World) (hl : StrsIn w a l) (hlen : l.length ≤ 2 ^ 40) (hcap : l.length ≤ cap) (hsz : ∀ j, j < l.length → (nthS l j).size ≤ maxLen) :
    Calls Try.prog 13 #[.slice a l.length cap] w (RetP (listP l) w) := by
  have HL := Lib.hid hl
  have HZ := Lib.hid hsz
  have P1 := Lib.hid (fun W => within_any (l.length : Int) 1 8 W)
  clear hl hsz
  cases hb : inB (l.length : Int) 1 8
  · have F : Hid (¬ listP l) := Lib.hid (fun h => by have := h.1; simp [inB] at hb; omega)
    rw [hb] at P1
    clear hb
    go_enter Try.func13, Try.ntmps13
    go_wp2_with (go_at_call 23; refine (P1.out _).mono ?_; rintro e w' ⟨rfl, rfl⟩)
    go_ret
    exact RetP.no F.out (Below.refl _ _)
  · have hb2 := inB_bounds hb
    rw [hb] at P1
    clear hb
    have hl1 : 1 ≤ l.length := by omega
    have hl8 : l.length ≤ 8 := by omega
    go_enter Try.func13, Try.ntmps13
    go_wp2_with (go_at_call 23; refine (P1.out _).mono ?_; rintro e w' ⟨rfl, rfl⟩)
    clear P1
    go_loopw [11] (fun i wr => ∃ j : Nat, j ≤ l.length ∧ i = .int .i64 (j : Nat) ∧ Hid (∀ j', j' < j → wordP l j') ∧ Below w.heap.size w wr) (fun i _ => l.length - (intOf i).toNat)
    case atStart => exact ⟨0, Nat.zero_le _, rfl, Lib.hid (fun j' h => absurd h (Nat.not_lt_zero _)), Below.refl _ _⟩
    case round =>
      obtain ⟨j, hj, rfl, hall, hbw⟩ := hrel
      by_cases hlt : j < l.length
      · obtain ⟨b, off, rfl, hb, hc⟩ := (HL.out.later hbw).cell hlt
        have c1 := hc j hlt
        have HS := Lib.hid (StrsIn.take hc j (by omega))
        have htl : (l.take j).length = j := by rw [List.length_take]; omega
        have HH := Lib.hid (fun v => containsS_any (l.take j) v b off cap wr HS.out (by omega))
        rw [htl] at HH
        have hz := HZ.out j hlt
        have HNO : Hid (¬ wordP l j → ¬ listP l) := Lib.hid (fun h h2 => h (h2.2 j hlt))
        have HYE : Hid (wordP l j → ∀ j', j' < j + 1 → wordP l j') := Lib.hid (fun h j' hj' => by
          by_cases e : j' = j
          · rw [e]; exact h
          · exact hall.out j' (by omega))
        have HWP : Hid (wordP l j ↔ (wordOkB 4 (nthS l j) = true ∧ (1 ≤ (nthS l j).size ∧ (nthS l j).size ≤ 6) ∧ ¬ nthS l j ∈ l.take j)) := Lib.hid Iff.rfl
        have hji : (j : Int) ≤ (cap : Int) := by omega
        have hji2 : j ≤ cap := by omega
        clear hc htl
        generalize nthS l j = u at *
        have HW := Lib.hid (fun W => implWordOk_any 4 u W hz)
        have HI := Lib.hid (fun W => within_any (u.size : Int) 1 6 W)
        cases hw : wordOkB 4 u
        · have F := Lib.hid (HNO.out (fun h => by have := (HWP.out.1 h).1; rw [hw] at this; cases this))
          rw [hw] at HW
          clear hw
          cases hi : inB (u.size : Int) 1 6
          all_goals
            rw [hi] at HI
            clear hi
            go_wp2_with (first
              | (go_at_call 24; refine (HW.out _).mono ?_; rintro e w' ⟨rfl, rfl⟩)
              | (go_at_call 23; refine (HI.out _).mono ?_; rintro e w' ⟨rfl, rfl⟩))
            go_ret
            exact RetP.no F.out hbw
        · have HWT := Lib.hid hw
          rw [hw] at HW
          clear hw
          cases hi : inB (u.size : Int) 1 6
          · have F := Lib.hid (HNO.out (fun h => by have := (HWP.out.1 h).2.1; simp [inB] at hi; omega))
            rw [hi] at HI
            clear hi
            go_wp2_with (first
              | (go_at_call 24; refine (HW.out _).mono ?_; rintro e w' ⟨rfl, rfl⟩)
              | (go_at_call 23; refine (HI.out _).mono ?_; rintro e w' ⟨rfl, rfl⟩))
            go_ret
            exact RetP.no F.out hbw
          · have hi2 := inB_bounds hi
            have HI2 : Hid (1 ≤ u.size ∧ u.size ≤ 6) := Lib.hid (by omega)
            rw [hi] at HI
            clear hi hi2
            go_wp2_with (first
              | (go_at_call 24; refine (HW.out _).mono ?_; rintro e w' ⟨rfl, rfl⟩)
              | (go_at_call 23; refine (HI.out _).mono ?_; rintro e w' ⟨rfl, rfl⟩))
            refine (HH.out _).mono ?_
            rintro e w2 ⟨bb, hbb, rfl, hb2⟩
            have B2 := Lib.hid (Below.now hbw hb2)
            have HBB := Lib.hid hbb
            clear hb2 hbb HH
            cases bb
            · have F := Lib.hid (HYE.out (HWP.out.2 ⟨HWT.out, HI2.out, fun h => by have := HBB.out.2 h; cases this⟩))
              go_wp2_with fail
              go_roundw
              case rel => exact ⟨j + 1, by omega, by go_num, F, B2.out⟩
              case measure => simp [intOf]; omega
            · have F := Lib.hid (HNO.out (fun h => (HWP.out.1 h).2.2 (HBB.out.1 rfl)))
              go_wp2_with fail
              go_ret
              exact RetP.no F.out B2.out
      · obtain rfl : j = l.length := by omega
        have F : Hid (listP l) := Lib.hid ⟨⟨hl1, hl8⟩, hall.out⟩
        go_wp2_with fail
        go_ret
        exact RetP.yes F.out hbw
end Go.Proofs.Ytlldhmoiahcfpaa
