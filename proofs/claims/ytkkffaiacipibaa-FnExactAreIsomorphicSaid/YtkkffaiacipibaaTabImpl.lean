/-
  The program's TableOk.
-/
import Derived.Test.YtkkffaiacipibaaTab
import Derived.Test.YtkkffaiacipibaaFuncInts
namespace Go.Proofs.Ytkkffaiacipibaa
open Go.RowKit
set_option linter.unusedVariables false
set_option maxRecDepth 100000 in
set_option maxHeartbeats 1000000 in
theorem implTableOk_any (n : Int) (l : List Int) (a : Option Addr) (cap : Nat) (w : World) (hl : IntsIn w a l) (hlen : l.length ≤ 2 ^ 47) :
    Calls Try.prog 61 #[.agg #[.int .i64 n, .slice a l.length cap]] w fun e w' => e = .returned (.bool (tabB n l)) ∧ Below w.heap.size w w' := by
  cases hn : inB n 1 40
  · have F := Lib.hid (tabB_notn (l := l) hn)
    go_enter Try.func61, Try.ntmps61
    go_wp2_with (go_at_call 95; refine (within_any _ _ _ _).mono ?_; rintro e w' ⟨rfl, rfl⟩)
    go_ret
    exact ⟨ret_bool F.out.symm, (Below.refl _ _).alloc (Nat.le_refl _) _⟩
  have ⟨hn1, hn2⟩ := inB_bounds hn
  have hnn : 0 ≤ n * n ∧ n * n ≤ 1600 := by
    obtain ⟨m, rfl⟩ := Int.eq_ofNat_of_zero_le (show 0 ≤ n by omega)
    have := sq_le (m := m) (by omega)
    omega
  obtain ⟨hnn0, hnn1⟩ := hnn
  by_cases hll : (l.length : Int) = n * n
  rotate_left
  · have F := Lib.hid (tabB_notlen hll)
    go_enter Try.func61, Try.ntmps61
    go_wp2_with (go_at_call 95; refine (within_any _ _ _ _).mono ?_; rintro e w' ⟨rfl, rfl⟩)
    go_ret
    exact ⟨ret_bool F.out.symm, (Below.refl _ _).alloc (Nat.le_refl _) _⟩
  have hcond : ((l.length : Int) != n * n) = false := by simp [hll]
  have HL := Lib.hid hll
  have HN := Lib.hid hn
  have HI := Lib.hid hl
  clear hll hl
  cases hr : rngB n l
  · have F := Lib.hid (tabB_notrng hr)
    have hr' : (l.all fun x => inB x 0 (n - 1)) = false := hr
    have HR := Lib.hid hr
    clear hr
    go_enter Try.func61, Try.ntmps61
    go_wp2_with (first | (go_at_call 95; refine (within_any _ _ _ _).mono ?_; rintro e w' ⟨rfl, rfl⟩) | (go_at_call 81; refine (allWithin_any _ _ l _ _ _ (HI.out.later ((Below.refl _ _).alloc (Nat.le_refl _) _)) hlen).mono ?_; rintro e w1 ⟨rfl, hb1⟩))
    go_ret
    exact ⟨ret_bool F.out.symm, Below.now ((Below.refl _ _).alloc (Nat.le_refl _) _) hb1⟩
  obtain ⟨m, ln, rfl, hlm, hT⟩ := tb_of hn HL.out hr
  have hr' : (l.all fun x => inB x 0 ((m : Int) - 1)) = true := hr
  have HT := Lib.hid hT
  have hm0 := hT.lo
  have hm1 := hT.hi
  have HLM := Lib.hid hlm
  have HLL : Hid (l.length = m * m) := by rw [hlm, List.length_map]; exact hT.len
  clear hr hT hlm
  go_enter Try.func61, Try.ntmps61
  go_wp2_with (go_at_call 95; refine (within_any _ _ _ _).mono ?_; rintro e w' ⟨rfl, rfl⟩)
  refine (allWithin_any _ _ l _ _ _ (HI.out.later ((Below.refl _ _).alloc (Nat.le_refl _) _)) hlen).mono ?_
  rintro e w1 ⟨rfl, hb1⟩
  have hx0 := box_later hb1 (i := 0) (v := .int .i64 (m : Nat)) rfl
  have hx1 := box_later hb1 (i := 1) (v := .slice a l.length cap) rfl
  have HN1 : Hid (∀ W, Below w1.heap.size w1 W → NatsIn W a ln) := fun W hW => by
    unfold NatsIn
    rw [← HLM.out]
    exact (HI.out.later (Below.now ((Below.refl _ _).alloc (Nat.le_refl _) _) hb1)).later hW
  have hbel := Lib.hid (Below.now ((Below.refl w.heap.size w).alloc (Nat.le_refl _) _) hb1)
  have hb0 := Below.refl w1.heap.size w1
  clear hb1 HI hcond hnn0 hnn1 hn1 hn2
  go_wp2_with fail
  go_loopw [32] (fun i wr => ∃ c : Nat, c ≤ m ∧ i = .int .i64 c ∧ Below w1.heap.size w1 wr ∧ upto (rowOk m ln) c) (fun i _ => m - (intOf i).toNat)
  case atStart => exact ⟨0, Nat.zero_le _, rfl, Below.refl _ _, upto_zero _⟩
  case round =>
    obtain ⟨c, hcm, rfl, hbw, hrows⟩ := hrel
    have HR := Lib.hid hrows
    clear hrows hb0
    by_cases hlt : c < m
    · go_wp2_with fail
      refine (implTimes_any m ln a _ _ 0 c _ (HN1.out _ hbw) HT.out HLL.out hm0 hlt).mono ?_
      rintro e w2 ⟨rfl, hb2⟩
      have hbw2 := Below.now hbw hb2
      clear hb2 hbw
      cases e1 : (((tm m ln 0 c : Nat) : Int) != ((c : Nat) : Int))
      rotate_left
      · have F := Lib.hid (tabB_rows HT.out (rowsOk_idn hlt (idn_not1 e1)))
        go_wp2_with fail
        go_ret
        exact ⟨ret_bool (by rw [HLM.out, F.out]), Below.now hbel.out hbw2⟩
      go_wp2_with fail
      refine (implTimes_any m ln a _ _ c 0 _ (HN1.out _ hbw2) HT.out HLL.out hlt hm0).mono ?_
      rintro e w3 ⟨rfl, hb2⟩
      have hbw3 := Below.now hbw2 hb2
      clear hb2 hbw2
      cases e2 : (((tm m ln c 0 : Nat) : Int) != ((c : Nat) : Int))
      rotate_left
      · have F := Lib.hid (tabB_rows HT.out (rowsOk_idn hlt (idn_not2 e2)))
        go_wp2_with fail
        go_ret
        exact ⟨ret_bool (by rw [HLM.out, F.out]), Below.now hbel.out hbw3⟩
      have HID := Lib.hid (idn_of e1 e2)
      go_wp2_with fail
      clear e1 e2
      go_loopw [49] (fun i wr => ∃ x : Nat, x ≤ m ∧ i = .int .i64 x ∧ Below w1.heap.size w1 wr ∧ upto (ascRow m ln c) x) (fun i _ => m - (intOf i).toNat)
      case atStart => exact ⟨0, Nat.zero_le _, rfl, hbw3, upto_zero _⟩
      case round =>
        clear hbw3
        obtain ⟨x, hxm, rfl, hbx, hasc⟩ := hrel
        have HA := Lib.hid hasc
        clear hasc
        by_cases hlx : x < m
        · go_wp2_with fail
          go_loopw [54] (fun i wr => ∃ y : Nat, y ≤ m ∧ i = .int .i64 y ∧ Below w1.heap.size w1 wr ∧ upto (asc m ln c x) y) (fun i _ => m - (intOf i).toNat)
          case atStart => exact ⟨0, Nat.zero_le _, rfl, hbx, upto_zero _⟩
          case round =>
            clear hbx
            obtain ⟨y, hym, rfl, hby, hasy⟩ := hrel
            have HY := Lib.hid hasy
            clear hasy
            by_cases hly : y < m
            · have k1 := HT.out.tm_lt hlt hlx
              have k2 := HT.out.tm_lt hlx hly
              have hw0 : ∀ x, (wide wr x).cell? ⟨w.heap.size, 0, none⟩ = some (.int .i64 (m : Nat)) := wide_cell (hx0 _ hby)
              have hw1 : ∀ x, (wide wr x).cell? ⟨w.heap.size, 1, none⟩ = some (.slice a l.length cap) := wide_cell (hx1 _ hby)
              have HNw : Hid (∀ x, NatsIn (wide wr x) a ln) := fun x => (HN1.out _ hby).later (below_wide _ _)
              go_wp2_with fail
              refine region_wide (by kernel_rfl) (by kernel_rfl) ?_
              repeat (quiet_step ((refine (implTimes_any m ln a _ _ _ _ _ (HNw.out _) HT.out HLL.out (by assumption) (by assumption)).mono ?_; rintro e w2 ⟨rfl, hb2⟩; exact ⟨rfl, wide_next hb2⟩)))
              refine wpQuiet_nil ?_
              rintro w4 ⟨x4, rfl⟩
              have hbz : Below w1.heap.size w1 (wide wr x4) := Below.now hby (below_wide _ _)
              clear hw0 hw1 hby HNw
              cases e : (((tm m ln (tm m ln c x) y : Nat) : Int) != ((tm m ln c (tm m ln x y) : Nat) : Int))
              · have F := Lib.hid (upto_succ HY.out (asc_of e))
                go_wp2_with fail
                go_roundw
                case rel => exact ⟨y + 1, by omega, by go_num, hbz, F.out⟩
                case measure => simp [intOf]; omega
              · have F := Lib.hid (tabB_rows HT.out (rowsOk_asc hlt hlx hly (asc_of e)))
                go_wp2_with fail
                go_ret
                exact ⟨ret_bool (by rw [HLM.out, F.out]), Below.now hbel.out hbz⟩
            · have F := Lib.hid (upto_succ HA.out (ascRow_of HY.out hly))
              go_wp2_with fail
              go_roundw
              case rel => exact ⟨x + 1, by omega, by go_num, hby, F.out⟩
              case measure => simp [intOf]; omega
        · have F := Lib.hid (upto_succ HR.out (rowOk_of HID.out HA.out hlx))
          go_wp2_with fail
          go_roundw
          case rel => exact ⟨c + 1, by omega, by go_num, hbx, F.out⟩
          case measure => simp [intOf]; omega
    · have F := Lib.hid (tabB_rows HT.out (upto_all HR.out hlt))
      go_wp2_with fail
      go_ret
      exact ⟨ret_bool (by rw [HLM.out, F.out]), Below.now hbel.out hbw⟩
end Go.Proofs.Ytkkffaiacipibaa
