/-
  ZeroOf, of the program and of the reference.
-/
import Derived.Test.YtngbimgabcacpaaGreatGro05
import Derived.Test.YtngbimgabcacpaaGreatGro21
import Derived.Test.YtngbimgabcacpaaGreatGro09
namespace Go.Proofs.YtngbimgabcacpaaGreat
open Go.RowKit
set_option linter.unusedVariables false
set_option maxHeartbeats 400000 in
theorem specTimes_any (m : Nat) (ln : List Nat) (a : Option Addr) (len cap i k : Nat) (w : World) (hl : NatsIn w a ln) (hT : Tb m ln) (hlen : len = m * m) (hi : i < m) (hk : k < m) :
    Calls Tryz.prog 128 #[.agg #[.int .i64 m, .slice a len cap], .int .i64 i, .int .i64 k] w fun e w' => e = .returned (.int .i64 (tm m ln i k : Nat)) ∧ Below w.heap.size w w' := by
  have h1 : i * m + k < len := by rw [hlen]; exact ix_lt hi hk
  have h2 := mul_le hT.hi hi
  have h3 : len ≤ 1600 := by rw [hlen]; exact sq_le hT.hi
  clear hlen
  obtain ⟨b, off, rfl, hb, hc⟩ := hT.cell hl
  have hc1 := hc i k hi hk
  have HT := Lib.hid hT
  clear hc hT hl
  go_enter Tryz.func128, Tryz.ntmps128
  go_wp2
  go_ret
  exact ⟨rfl, (Below.refl _ _).alloc (Nat.le_refl _) _⟩
set_option maxHeartbeats 400000 in
theorem implTimes_any (m : Nat) (ln : List Nat) (a : Option Addr) (len cap i k : Nat) (w : World) (hl : NatsIn w a ln) (hT : Tb m ln) (hlen : len = m * m) (hi : i < m) (hk : k < m) :
    Calls Tryz.prog 42 #[.agg #[.int .i64 m, .slice a len cap], .int .i64 i, .int .i64 k] w fun e w' => e = .returned (.int .i64 (tm m ln i k : Nat)) ∧ Below w.heap.size w w' := by
  have h1 : i * m + k < len := by rw [hlen]; exact ix_lt hi hk
  have h2 := mul_le hT.hi hi
  have h3 : len ≤ 1600 := by rw [hlen]; exact sq_le hT.hi
  clear hlen
  obtain ⟨b, off, rfl, hb, hc⟩ := hT.cell hl
  have hc1 := hc i k hi hk
  have HT := Lib.hid hT
  clear hc hT hl
  go_enter Tryz.func42, Tryz.ntmps42
  go_wp2
  go_ret
  exact ⟨rfl, (Below.refl _ _).alloc (Nat.le_refl _) _⟩
set_option maxRecDepth 100000 in
set_option maxHeartbeats 1000000 in
theorem specTableOk_any (n : Int) (l : List Int) (a : Option Addr) (cap : Nat) (w : World) (hl : IntsIn w a l) (hlen : l.length ≤ 2 ^ 47) :
    Calls Tryz.prog 71 #[.agg #[.int .i64 n, .slice a l.length cap]] w fun e w' => e = .returned (.bool (tabB n l)) ∧ Below w.heap.size w w' := by
  cases hn : inB n 1 40
  · have F := Lib.hid (tabB_notn (l := l) hn)
    go_enter Tryz.func71, Tryz.ntmps71
    go_wp2_with (go_at_call 97; refine (l01In_any _ _ _ _).mono ?_; rintro e w' ⟨rfl, rfl⟩)
    go_ret
    exact ⟨ret_bool F.out.symm, (Below.refl _ _).alloc (Nat.le_refl _) _⟩
  have ⟨hn1, hn2⟩ := inB_bounds hn
  have hnn : 0 ≤ n * n ∧ n * n ≤ 1600 := by
    obtain ⟨m, rfl⟩ := Int.eq_ofNat_of_zero_le (show 0 ≤ n by omega)
    have := sq_le (m := m) (by omega)
    omega
  obtain ⟨hnn0, hnn1⟩ := hnn
  by_cases hll : (l.length : Int) = n * n
  rotate_left
  · have F := Lib.hid (tabB_notlen hll)
    go_enter Tryz.func71, Tryz.ntmps71
    go_wp2_with (go_at_call 97; refine (l01In_any _ _ _ _).mono ?_; rintro e w' ⟨rfl, rfl⟩)
    go_ret
    exact ⟨ret_bool F.out.symm, (Below.refl _ _).alloc (Nat.le_refl _) _⟩
  have hcond : ((l.length : Int) != n * n) = false := by simp [hll]
  have HL := Lib.hid hll
  have HN := Lib.hid hn
  clear hll
  go_enter Tryz.func71, Tryz.ntmps71
  go_wp2_with (go_at_call 97; refine (l01In_any _ _ _ _).mono ?_; rintro e w' ⟨rfl, rfl⟩)
  go_loop [26] (fun i => ∃ j : Nat, j ≤ l.length ∧ i = .int .i64 j ∧ rngTo n l j) (fun i => l.length - (intOf i).toNat)
  case atStart => exact ⟨0, Nat.zero_le _, rfl, rngTo_zero _ _⟩
  case round =>
    obtain ⟨j, hj, rfl, hall⟩ := hrel
    have H := Lib.hid hall
    clear hall
    by_cases hlt : j < l.length
    · obtain ⟨b, off, rfl, hb, hc⟩ := hl.cell hlt
      have h1 := hc j hlt
      clear hc
      cases hp : inB (nthZ l j) 0 (n - 1)
      · have F := Lib.hid (tabB_notrng (rngB_false hlt hp))
        go_wp2_with (go_at_call 97; refine (l01In_any _ _ _ _).mono ?_; rintro e w' ⟨rfl, rfl⟩)
        go_ret
        exact ⟨ret_bool F.out.symm, (Below.refl _ _).alloc (Nat.le_refl _) _⟩
      · have F := Lib.hid (rngTo_succ H.out hp)
        go_wp2_with (go_at_call 97; refine (l01In_any _ _ _ _).mono ?_; rintro e w' ⟨rfl, rfl⟩)
        go_round
        case rel => exact ⟨j + 1, by omega, by go_num, F.out⟩
        case measure => simp [intOf]; omega
    · obtain ⟨m, ln, rfl, rfl, hT⟩ := tb_of HN.out HL.out (rngTo_full H.out hlt)
      obtain ⟨b, off, rfl, hb, hc⟩ := hT.cell hl
      have HT := Lib.hid hT
      have hm0 := hT.lo
      have hm1 := hT.hi
      have hlt' : ¬ j < ln.length := by simpa using hlt
      have hll : ln.length = m * m := hT.len
      have HLL := Lib.hid hll
      clear hll hT hl hlen hj hcond HL H hn HN hlt hnn0 hnn1 hn1 hn2
      go_wp2_with fail
      obtain ⟨w1, hw1⟩ : ∃ w1, w1 = w.alloc (.cells #[.int .i64 (m : Nat), .slice (some ⟨b, off, none⟩) ln.length cap] 25) := ⟨_, rfl⟩
      have HC : Hid (∀ i k, i < m → k < m → w1.cell? ⟨b, off + (i * m + k), none⟩ = some (.int .i64 (tm m ln i k : Nat))) := fun i k hi hk => by
        rw [hw1, World.cell?_alloc_lt _ _ _ hb]; exact hc i k hi hk
      have hbel : Below w.heap.size w w1 := by rw [hw1]; exact (Below.refl _ _).alloc (Nat.le_refl _) _
      have hx0 : w1.cell? ⟨w.heap.size, 0, none⟩ = some (.int .i64 (m : Nat)) := by rw [hw1, World.cell?_alloc_new]; rfl
      have hx1 : w1.cell? ⟨w.heap.size, 1, none⟩ = some (.slice (some ⟨b, off, none⟩) ln.length cap) := by rw [hw1, World.cell?_alloc_new]; rfl
      rw [← hw1]
      clear hc hw1 hlt' hb
      go_loopw [6] (fun i wr => ∃ c d : Nat, c ≤ m ∧ i = .int .i64 c ∧ wr = w1.drewN d ∧ upto (rowOk m ln) c) (fun i _ => m - (intOf i).toNat)
      case atStart => exact ⟨0, 0, Nat.zero_le _, rfl, rfl, upto_zero _⟩
      case round =>
        obtain ⟨c, d, hcm, rfl, rfl, hrows⟩ := hrel
        have HR := Lib.hid hrows
        clear hrows
        by_cases hlt : c < m
        · have g1 : w1.cell? ⟨b, off + c, none⟩ = some (.int .i64 (tm m ln 0 c : Nat)) := by have := HC.out 0 c hm0 hlt; simpa using this
          have g2 : w1.cell? ⟨b, off + c * m, none⟩ = some (.int .i64 (tm m ln c 0 : Nat)) := by have := HC.out c 0 hlt hm0; simpa using this
          have b1 : c < ln.length := by rw [HLL.out]; have := ix_lt hm0 hlt; omega
          have b2 : c * m < ln.length := by rw [HLL.out]; have := ix_lt hlt hm0; omega
          have b3 := mul_le hm1 hlt
          cases e1 : (((tm m ln 0 c : Nat) : Int) != ((c : Nat) : Int))
          rotate_left
          · have F := Lib.hid (tabB_rows HT.out (rowsOk_idn hlt (idn_not1 e1)))
            go_wp2_with fail
            go_ret
            exact ⟨ret_bool F.out.symm, (by repeat (first | exact hbel | refine below_drewN ?_ _))⟩
          cases e2 : (((tm m ln c 0 : Nat) : Int) != ((c : Nat) : Int))
          rotate_left
          · have F := Lib.hid (tabB_rows HT.out (rowsOk_idn hlt (idn_not2 e2)))
            go_wp2_with fail
            go_ret
            exact ⟨ret_bool F.out.symm, (by repeat (first | exact hbel | refine below_drewN ?_ _))⟩
          have HI := Lib.hid (idn_of e1 e2)
          go_wp2_with fail
          clear g1 g2 e1 e2 b1 b2 b3
          obtain ⟨w2, hw2⟩ : ∃ w2, w2 = w1.drewN d := ⟨_, rfl⟩
          rw [← hw2]
          have HW2 := Lib.hid hw2
          clear hw2
          go_loopw [7] (fun i wr => ∃ x d : Nat, x ≤ m ∧ i = .int .i64 x ∧ wr = w1.drewN d ∧ upto (ascRow m ln c) x) (fun i _ => m - (intOf i).toNat)
          case atStart => exact ⟨0, d, Nat.zero_le _, rfl, HW2.out, upto_zero _⟩
          case round =>
            clear HW2
            obtain ⟨x, d2, hxm, rfl, rfl, hasc⟩ := hrel
            have HA := Lib.hid hasc
            clear hasc
            by_cases hlx : x < m
            · go_wp2_with fail
              obtain ⟨w2, hw2⟩ : ∃ w2, w2 = w1.drewN d2 := ⟨_, rfl⟩
              rw [← hw2]
              have HW2 := Lib.hid hw2
              clear hw2
              go_loopw [8] (fun i wr => ∃ y d : Nat, y ≤ m ∧ i = .int .i64 y ∧ wr = w1.drewN d ∧ upto (asc m ln c x) y) (fun i _ => m - (intOf i).toNat)
              case atStart => exact ⟨0, d2, Nat.zero_le _, rfl, HW2.out, upto_zero _⟩
              case round =>
                clear HW2
                obtain ⟨y, d3, hym, rfl, rfl, hasy⟩ := hrel
                have HY := Lib.hid hasy
                clear hasy
                by_cases hly : y < m
                · have k1 := HT.out.tm_lt hlt hlx
                  have k2 := HT.out.tm_lt hlx hly
                  have k3 := HT.out.tm_lt k1 hly
                  have k4 := HT.out.tm_lt hlt k2
                  have g1 := HC.out c x hlt hlx
                  have g2 := HC.out x y hlx hly
                  have g3 := HC.out (tm m ln c x) y k1 hly
                  have g4 := HC.out c (tm m ln x y) hlt k2
                  have b1 : c * m + x < ln.length := by rw [HLL.out]; exact ix_lt hlt hlx
                  have b2 : x * m + y < ln.length := by rw [HLL.out]; exact ix_lt hlx hly
                  have b3 : tm m ln c x * m + y < ln.length := by rw [HLL.out]; exact ix_lt k1 hly
                  have b4 : c * m + tm m ln x y < ln.length := by rw [HLL.out]; exact ix_lt hlt k2
                  have b5 := mul_le hm1 hlt
                  have b6 := mul_le hm1 hlx
                  have b7 := mul_le hm1 k1
                  cases e : (((tm m ln (tm m ln c x) y : Nat) : Int) != ((tm m ln c (tm m ln x y) : Nat) : Int))
                  · have F := Lib.hid (upto_succ HY.out (asc_of e))
                    go_wp2_with fail
                    go_quiet (fail)
                    go_wp2_with fail
                    go_roundw
                    case rel => exact ⟨y + 1, _, by omega, by go_num, rfl, F.out⟩
                    case measure => simp [intOf]; omega
                  · have F := Lib.hid (tabB_rows HT.out (rowsOk_asc hlt hlx hly (asc_of e)))
                    go_wp2_with fail
                    go_quiet (fail)
                    go_wp2_with fail
                    go_ret
                    exact ⟨ret_bool F.out.symm, (by repeat (first | exact hbel | refine below_drewN ?_ _))⟩
                · have F := Lib.hid (upto_succ HA.out (ascRow_of HY.out hly))
                  go_wp2_with fail
                  go_roundw
                  case rel => exact ⟨x + 1, _, by omega, by go_num, rfl, F.out⟩
                  case measure => simp [intOf]; omega
            · have F := Lib.hid (upto_succ HR.out (rowOk_of HI.out HA.out hlx))
              go_wp2_with fail
              go_roundw
              case rel => exact ⟨c + 1, _, by omega, by go_num, rfl, F.out⟩
              case measure => simp [intOf]; omega
        · have F := Lib.hid (tabB_rows HT.out (upto_all HR.out hlt))
          go_wp2_with fail
          go_ret
          exact ⟨ret_bool F.out.symm, (by repeat (first | exact hbel | refine below_drewN ?_ _))⟩
end Go.Proofs.YtngbimgabcacpaaGreat
namespace Go.Proofs.YtngbimgabcacpaaGreat
open Go.RowKit
set_option linter.unusedVariables false
set_option maxRecDepth 100000 in
set_option maxHeartbeats 1000000 in
theorem implTableOk_any (n : Int) (l : List Int) (a : Option Addr) (cap : Nat) (w : World) (hl : IntsIn w a l) (hlen : l.length ≤ 2 ^ 47) :
    Calls Tryz.prog 44 #[.agg #[.int .i64 n, .slice a l.length cap]] w fun e w' => e = .returned (.bool (tabB n l)) ∧ Below w.heap.size w w' := by
  cases hn : inB n 1 40
  · have F := Lib.hid (tabB_notn (l := l) hn)
    go_enter Tryz.func44, Tryz.ntmps44
    go_wp2_with (go_at_call 52; refine (within_any _ _ _ _).mono ?_; rintro e w' ⟨rfl, rfl⟩)
    go_ret
    exact ⟨ret_bool F.out.symm, (Below.refl _ _).alloc (Nat.le_refl _) _⟩
  have ⟨hn1, hn2⟩ := inB_bounds hn
  have hnn : 0 ≤ n * n ∧ n * n ≤ 1600 := by
    obtain ⟨m, rfl⟩ := Int.eq_ofNat_of_zero_le (show 0 ≤ n by omega)
    have := sq_le (m := m) (by omega)
    omega
  obtain ⟨hnn0, hnn1⟩ := hnn
  by_cases hll : (l.length : Int) = n * n
  rotate_left
  · have F := Lib.hid (tabB_notlen hll)
    go_enter Tryz.func44, Tryz.ntmps44
    go_wp2_with (go_at_call 52; refine (within_any _ _ _ _).mono ?_; rintro e w' ⟨rfl, rfl⟩)
    go_ret
    exact ⟨ret_bool F.out.symm, (Below.refl _ _).alloc (Nat.le_refl _) _⟩
  have hcond : ((l.length : Int) != n * n) = false := by simp [hll]
  have HL := Lib.hid hll
  have HN := Lib.hid hn
  have HI := Lib.hid hl
  clear hll hl
  cases hr : rngB n l
  · have F := Lib.hid (tabB_notrng hr)
    have hr' : (l.all fun x => inB x 0 (n - 1)) = false := hr
    have HR := Lib.hid hr
    clear hr
    go_enter Tryz.func44, Tryz.ntmps44
    go_wp2_with (first | (go_at_call 52; refine (within_any _ _ _ _).mono ?_; rintro e w' ⟨rfl, rfl⟩) | (go_at_call 37; refine (allWithin_any _ _ l _ _ _ (HI.out.later ((Below.refl _ _).alloc (Nat.le_refl _) _)) hlen).mono ?_; rintro e w1 ⟨rfl, hb1⟩))
    go_ret
    exact ⟨ret_bool F.out.symm, Below.now ((Below.refl _ _).alloc (Nat.le_refl _) _) hb1⟩
  obtain ⟨m, ln, rfl, hlm, hT⟩ := tb_of hn HL.out hr
  have hr' : (l.all fun x => inB x 0 ((m : Int) - 1)) = true := hr
  have HT := Lib.hid hT
  have hm0 := hT.lo
  have hm1 := hT.hi
  have HLM := Lib.hid hlm
  have HLL : Hid (l.length = m * m) := by rw [hlm, List.length_map]; exact hT.len
  clear hr hT hlm
  go_enter Tryz.func44, Tryz.ntmps44
  go_wp2_with (go_at_call 52; refine (within_any _ _ _ _).mono ?_; rintro e w' ⟨rfl, rfl⟩)
  refine (allWithin_any _ _ l _ _ _ (HI.out.later ((Below.refl _ _).alloc (Nat.le_refl _) _)) hlen).mono ?_
  rintro e w1 ⟨rfl, hb1⟩
  have hx0 := box_later hb1 (i := 0) (v := .int .i64 (m : Nat)) rfl
  have hx1 := box_later hb1 (i := 1) (v := .slice a l.length cap) rfl
  have HN1 : Hid (∀ W, Below w1.heap.size w1 W → NatsIn W a ln) := fun W hW => by
    unfold NatsIn
    rw [← HLM.out]
    exact (HI.out.later (Below.now ((Below.refl _ _).alloc (Nat.le_refl _) _) hb1)).later hW
  have hbel := Lib.hid (Below.now ((Below.refl w.heap.size w).alloc (Nat.le_refl _) _) hb1)
  have hb0 := Below.refl w1.heap.size w1
  clear hb1 HI hcond hnn0 hnn1 hn1 hn2
  go_wp2_with fail
  go_loopw [32] (fun i wr => ∃ c : Nat, c ≤ m ∧ i = .int .i64 c ∧ Below w1.heap.size w1 wr ∧ upto (rowOk m ln) c) (fun i _ => m - (intOf i).toNat)
  case atStart => exact ⟨0, Nat.zero_le _, rfl, Below.refl _ _, upto_zero _⟩
  case round =>
    obtain ⟨c, hcm, rfl, hbw, hrows⟩ := hrel
    have HR := Lib.hid hrows
    clear hrows hb0
    by_cases hlt : c < m
    · go_wp2_with fail
      refine (implTimes_any m ln a _ _ 0 c _ (HN1.out _ hbw) HT.out HLL.out hm0 hlt).mono ?_
      rintro e w2 ⟨rfl, hb2⟩
      have hbw2 := Below.now hbw hb2
      clear hb2 hbw
      cases e1 : (((tm m ln 0 c : Nat) : Int) != ((c : Nat) : Int))
      rotate_left
      · have F := Lib.hid (tabB_rows HT.out (rowsOk_idn hlt (idn_not1 e1)))
        go_wp2_with fail
        go_ret
        exact ⟨ret_bool (by rw [HLM.out, F.out]), Below.now hbel.out hbw2⟩
      go_wp2_with fail
      refine (implTimes_any m ln a _ _ c 0 _ (HN1.out _ hbw2) HT.out HLL.out hlt hm0).mono ?_
      rintro e w3 ⟨rfl, hb2⟩
      have hbw3 := Below.now hbw2 hb2
      clear hb2 hbw2
      cases e2 : (((tm m ln c 0 : Nat) : Int) != ((c : Nat) : Int))
      rotate_left
      · have F := Lib.hid (tabB_rows HT.out (rowsOk_idn hlt (idn_not2 e2)))
        go_wp2_with fail
        go_ret
        exact ⟨ret_bool (by rw [HLM.out, F.out]), Below.now hbel.out hbw3⟩
      have HID := Lib.hid (idn_of e1 e2)
      go_wp2_with fail
      clear e1 e2
      go_loopw [49] (fun i wr => ∃ x : Nat, x ≤ m ∧ i = .int .i64 x ∧ Below w1.heap.size w1 wr ∧ upto (ascRow m ln c) x) (fun i _ => m - (intOf i).toNat)
      case atStart => exact ⟨0, Nat.zero_le _, rfl, hbw3, upto_zero _⟩
      case round =>
        clear hbw3
        obtain ⟨x, hxm, rfl, hbx, hasc⟩ := hrel
        have HA := Lib.hid hasc
        clear hasc
        by_cases hlx : x < m
        · go_wp2_with fail
          go_loopw [54] (fun i wr => ∃ y : Nat, y ≤ m ∧ i = .int .i64 y ∧ Below w1.heap.size w1 wr ∧ upto (asc m ln c x) y) (fun i _ => m - (intOf i).toNat)
          case atStart => exact ⟨0, Nat.zero_le _, rfl, hbx, upto_zero _⟩
          case round =>
            clear hbx
            obtain ⟨y, hym, rfl, hby, hasy⟩ := hrel
            have HY := Lib.hid hasy
            clear hasy
            by_cases hly : y < m
            · have k1 := HT.out.tm_lt hlt hlx
              have k2 := HT.out.tm_lt hlx hly
              have hw0 : ∀ x, (wide wr x).cell? ⟨w.heap.size, 0, none⟩ = some (.int .i64 (m : Nat)) := wide_cell (hx0 _ hby)
              have hw1 : ∀ x, (wide wr x).cell? ⟨w.heap.size, 1, none⟩ = some (.slice a l.length cap) := wide_cell (hx1 _ hby)
              have HNw : Hid (∀ x, NatsIn (wide wr x) a ln) := fun x => (HN1.out _ hby).later (below_wide _ _)
              go_wp2_with fail
              refine region_wide (by kernel_rfl) (by kernel_rfl) ?_
              repeat (quiet_step ((refine (implTimes_any m ln a _ _ _ _ _ (HNw.out _) HT.out HLL.out (by assumption) (by assumption)).mono ?_; rintro e w2 ⟨rfl, hb2⟩; exact ⟨rfl, wide_next hb2⟩)))
              refine wpQuiet_nil ?_
              rintro w4 ⟨x4, rfl⟩
              have hbz : Below w1.heap.size w1 (wide wr x4) := Below.now hby (below_wide _ _)
              clear hw0 hw1 hby HNw
              cases e : (((tm m ln (tm m ln c x) y : Nat) : Int) != ((tm m ln c (tm m ln x y) : Nat) : Int))
              · have F := Lib.hid (upto_succ HY.out (asc_of e))
                go_wp2_with fail
                go_roundw
                case rel => exact ⟨y + 1, by omega, by go_num, hbz, F.out⟩
                case measure => simp [intOf]; omega
              · have F := Lib.hid (tabB_rows HT.out (rowsOk_asc hlt hlx hly (asc_of e)))
                go_wp2_with fail
                go_ret
                exact ⟨ret_bool (by rw [HLM.out, F.out]), Below.now hbel.out hbz⟩
            · have F := Lib.hid (upto_succ HA.out (ascRow_of HY.out hly))
              go_wp2_with fail
              go_roundw
              case rel => exact ⟨x + 1, by omega, by go_num, hby, F.out⟩
              case measure => simp [intOf]; omega
        · have F := Lib.hid (upto_succ HR.out (rowOk_of HID.out HA.out hlx))
          go_wp2_with fail
          go_roundw
          case rel => exact ⟨c + 1, by omega, by go_num, hbx, F.out⟩
          case measure => simp [intOf]; omega
    · have F := Lib.hid (tabB_rows HT.out (upto_all HR.out hlt))
      go_wp2_with fail
      go_ret
      exact ⟨ret_bool (by rw [HLM.out, F.out]), Below.now hbel.out hbw⟩
end Go.Proofs.YtngbimgabcacpaaGreat
namespace Go.Proofs.YtngbimgabcacpaaGreat
open Go.RowKit
set_option linter.unusedVariables false
def idxList (m : Nat) : List Int := (List.range m).map Int.ofNat
theorem idxList_len (m : Nat) : (idxList m).length = m := by simp [idxList]
theorem idxList_nth {m j : Nat} (h : j < m) : nthZ (idxList m) j = (j : Nat) := by rw [nthZ_lt (by rw [idxList_len]; exact h)]; simp [idxList]
theorem idxVals_eq (m : Nat) : idxVals m = intVals (idxList m) := by simp [idxVals, intVals, idxList]
/-- a function value that answers p for the elements below m, in every world that is as w below B -/
def PredEl (B : Nat) (g : Nat) (caps : Array Value) (p : Nat → Bool) (m : Nat) (w : World) : Prop :=
  ∀ j, j < m → ∀ W, Below B w W → Calls Tryz.prog g (#[.int .i64 (j : Nat)] ++ caps) W fun e W' => e = .returned (.bool (p j)) ∧ Below W.heap.size W W'
theorem PredEl.later {B : Nat} {g : Nat} {caps : Array Value} {p : Nat → Bool} {m : Nat} {w w1 : World} (h : PredEl B g caps p m w) (hb : Below B w w1) : PredEl B g caps p m w1 :=
  fun j hj W hW => h j hj W (hb.trans hW)
theorem PredEl.mono {B B' : Nat} {g : Nat} {caps : Array Value} {p : Nat → Bool} {m : Nat} {w : World} (h : PredEl B g caps p m w) (hb : B ≤ B') : PredEl B' g caps p m w :=
  fun j hj W hW => h j hj W (hW.mono hb)
/-- the elements of a valid table with a property -/
def thoseL (n : Int) (l : List Int) (p : Nat → Bool) : List Int := if tabB n l then ((List.range n.toNat).filter p).map Int.ofNat else []
theorem keepZ_idx (m : Nat) (p : Nat → Bool) : keepZ (fun x => !p x.toNat) (idxList m) = ((List.range m).filter p).map Int.ofNat := by
  unfold keepZ idxList
  rw [List.filter_map]
  congr 1
  apply List.filter_congr
  intro x _
  simp
/-- the closure that those and all hand on -/
theorem notPred_those (B g : Nat) (caps : Array Value) (p : Nat → Bool) (m : Nat) (w w1 : World) (b1 : Nat) (h : PredEl B g caps p m w) (hB : B ≤ w.heap.size) (hb1 : b1 < w1.heap.size) (hw : Below w.heap.size w w1)
    (h1 : w1.cell? ⟨b1, 0, none⟩ = some (.func (.func g) #[] caps)) (eg : ∀ args w, (callFunc g args).run Tryz.prog w = .ok (.enter g args) w) :
    PredInts w1.heap.size 86 #[.pointer (some ⟨b1, 0, none⟩)] (fun x => !p x.toNat) (idxList m) w1 := by
  intro j hj W hW
  rw [idxList_len] at hj
  rw [idxList_nth hj]
  have g1 : W.cell? ⟨b1, 0, none⟩ = some (.func (.func g) #[] caps) := by rw [hW.cell hb1]; exact h1
  have HC := Lib.hid (h j hj W ((hw.mono hB).trans (hW.mono (Nat.le_trans hB hw.size))))
  clear h1 hW hb1 hw h
  go_enter Tryz.func86, Tryz.ntmps86
  go_wp2_with fail
  refine HC.out.mono ?_
  rintro e w2 ⟨rfl, hb2⟩
  go_wp2_with fail
  go_ret
  exact ⟨by simp, hb2⟩
theorem notPred_all (B g : Nat) (caps : Array Value) (p : Nat → Bool) (m : Nat) (w w1 : World) (b1 : Nat) (h : PredEl B g caps p m w) (hB : B ≤ w.heap.size) (hb1 : b1 < w1.heap.size) (hw : Below w.heap.size w w1)
    (h1 : w1.cell? ⟨b1, 0, none⟩ = some (.func (.func g) #[] caps)) (eg : ∀ args w, (callFunc g args).run Tryz.prog w = .ok (.enter g args) w) :
    PredInts w1.heap.size 83 #[.pointer (some ⟨b1, 0, none⟩)] (fun x => !p x.toNat) (idxList m) w1 := by
  intro j hj W hW
  rw [idxList_len] at hj
  rw [idxList_nth hj]
  have g1 : W.cell? ⟨b1, 0, none⟩ = some (.func (.func g) #[] caps) := by rw [hW.cell hb1]; exact h1
  have HC := Lib.hid (h j hj W ((hw.mono hB).trans (hW.mono (Nat.le_trans hB hw.size))))
  clear h1 hW hb1 hw h
  go_enter Tryz.func83, Tryz.ntmps83
  go_wp2_with fail
  refine HC.out.mono ?_
  rintro e w2 ⟨rfl, hb2⟩
  go_wp2_with fail
  go_ret
  exact ⟨by simp, hb2⟩
theorem any_idx (m : Nat) (p : Nat → Bool) : (!(idxList m).any fun x => !p x.toNat) = (List.range m).all p := by
  unfold idxList
  rw [List.any_map, List.all_eq_not_any_not]
  congr 2
set_option maxHeartbeats 800000 in
theorem all_any (B g : Nat) (caps : Array Value) (p : Nat → Bool) (m : Nat) (a : Option Addr) (len cap : Nat) (w : World) (hm : m ≤ 1000) (h : PredEl B g caps p m w) (hB : B ≤ w.heap.size)
    (eg : ∀ args w, (callFunc g args).run Tryz.prog w = .ok (.enter g args) w) :
    Calls Tryz.prog 48 #[.agg #[.int .i64 m, .slice a len cap], .func (.func g) #[] caps] w fun e w' => e = .returned (.bool ((List.range m).all p)) ∧ Below w.heap.size w w' := by
  have HP := Lib.hid h
  have HA := Lib.hid (any_idx m p)
  clear h
  go_enter Tryz.func48, Tryz.ntmps48
  go_wp2_with fail
  refine (indices_any m _ (by omega)).mono ?_
  rintro e w2 ⟨ai, ci, rfl, ho, hb2⟩
  have hbel : Below w.heap.size w w2 := Below.now (((Below.refl w.heap.size w).alloc (Nat.le_refl _) _).alloc (by simp) _) hb2
  have hc : w2.cell? ⟨w.heap.size + 1, 0, none⟩ = some (.func (.func g) #[] caps) := by rw [hb2.cell (by simp)]; simp
  have hz : w.heap.size + 1 < w2.heap.size := by have := hb2.size; simp at this; omega
  rw [idxVals_eq] at ho
  have HC := containsFuncInts_any 83 #[.pointer (some ⟨w.heap.size + 1, 0, none⟩)] (fun x => !p x.toNat) (idxList m) ai ci w2 (owns_ints (l := idxList m) ho) (by rw [idxList_len]; omega) w2.heap.size (Nat.le_refl _)
    (notPred_all B g caps p m w w2 _ HP.out hB hz hbel hc eg) (enters_of Tryz.func83 (by kernel_rfl) rfl)
  rw [idxList_len] at HC
  have HC' := Lib.hid HC
  clear HC ho hc hb2
  go_wp2_with fail
  refine HC'.out.mono ?_
  rintro e w3 ⟨rfl, hb3⟩
  have hbel3 := Below.now hbel hb3
  clear hb3 hbel
  go_wp2_with fail
  go_ret
  exact ⟨ret_bool HA.out, hbel3⟩
theorem retSl_nil (T : TypeId) (w w' : World) (h : Below w.heap.size w w') : RetSl T 1 0 [] w (.returned (.slice none 0 0)) w' := ⟨none, 0, rfl, World.ownsRow_nil _ _ _ _, h⟩
set_option maxHeartbeats 800000 in
theorem those_any (n : Int) (l : List Int) (a : Option Addr) (cap : Nat) (w : World) (hl : IntsIn w a l) (hlen : l.length ≤ 2 ^ 47) (B g : Nat) (caps : Array Value) (p : Nat → Bool) (hB : B ≤ w.heap.size)
    (h : tabB n l = true → PredEl B g caps p n.toNat w) (eg : ∀ args w, (callFunc g args).run Tryz.prog w = .ok (.enter g args) w) :
    Calls Tryz.prog 58 #[.agg #[.int .i64 n, .slice a l.length cap], .func (.func g) #[] caps] w (RetSl 3 1 (thoseL n l p).length (intVals (thoseL n l p)) w) := by
  have HL := Lib.hid hl
  have HP := Lib.hid h
  clear hl h
  cases ht : tabB n l
  · have F : Hid (∀ w', Below w.heap.size w w' → RetSl 3 1 (thoseL n l p).length (intVals (thoseL n l p)) w (.returned (.slice none 0 0)) w') := fun w' hb => by
      unfold thoseL; rw [ht]; exact retSl_nil _ _ _ hb
    go_enter Tryz.func58, Tryz.ntmps58
    go_wp2_with fail
    refine (implTableOk_any n l a cap _ (HL.out.later (((Below.refl _ _).alloc (Nat.le_refl _) _).alloc (by simp) _)) hlen).mono ?_
    rintro e w2 ⟨rfl, hb2⟩
    have hbel : Below w.heap.size w w2 := Below.now (((Below.refl w.heap.size w).alloc (Nat.le_refl _) _).alloc (by simp) _) hb2
    clear hb2
    go_wp2_with fail
    go_ret
    exact F.out _ hbel
  · obtain ⟨m, ln, rfl, hln, hT⟩ := tabOk_out ht
    have hm1 := hT.hi
    have hm0 := hT.lo
    have F : Hid (thoseL (m : Nat) l p = keepZ (fun x => !p x.toNat) (idxList m)) := by
      rw [keepZ_idx]; unfold thoseL; rw [ht]; rfl
    have HPP := Lib.hid (HP.out ht)
    simp only [Int.toNat_natCast] at HPP
    clear hT hln
    go_enter Tryz.func58, Tryz.ntmps58
    go_wp2_with fail
    refine (implTableOk_any _ l a cap _ (HL.out.later (((Below.refl _ _).alloc (Nat.le_refl _) _).alloc (by simp) _)) hlen).mono ?_
    rintro e w2 ⟨rfl, hb2⟩
    have hbel : Below w.heap.size w w2 := Below.now (((Below.refl w.heap.size w).alloc (Nat.le_refl _) _).alloc (by simp) _) hb2
    have hc : w2.cell? ⟨w.heap.size + 1, 0, none⟩ = some (.func (.func g) #[] caps) := by rw [hb2.cell (by simp)]; simp
    have hx : w2.cell? ⟨w.heap.size, 0, none⟩ = some (.int .i64 (m : Nat)) := by rw [hb2.cell (by simp; omega)]; simp
    have hz : w.heap.size + 1 < w2.heap.size := by have := hb2.size; simp at this; omega
    clear hb2
    go_wp2_with fail
    refine (indices_any m _ (by omega)).mono ?_
    rintro e w3 ⟨ai, ci, rfl, ho, hb3⟩
    have hbel3 := Below.now hbel hb3
    have hc3 : w3.cell? ⟨w.heap.size + 1, 0, none⟩ = some (.func (.func g) #[] caps) := by rw [hb3.cell hz]; exact hc
    have hz3 : w.heap.size + 1 < w3.heap.size := by have := hb3.size; omega
    have hs3 := hb3.size
    rw [idxVals_eq] at ho
    have HD := deleteFuncInts_any 86 #[.pointer (some ⟨w.heap.size + 1, 0, none⟩)] (fun x => !p x.toNat) (idxList m) ai ci w2.heap.size w3 (by rw [idxList_len]; exact ho) (by rw [idxList_len]; omega) hs3
      (fun j hj W hW => notPred_those B g caps p m w w2 _ HPP.out hB hz hbel hc eg j hj W ((hb3.trans hW).mono (Nat.le_refl _))) (enters_of Tryz.func86 (by kernel_rfl) rfl)
    rw [idxList_len] at HD
    have HD' := Lib.hid HD
    clear HD ho hc hb3 hc3 hx hbel
    go_wp2_with fail
    refine HD'.out.mono ?_
    rintro e w4 ⟨rfl, ho4, hb4⟩
    have F2 : Hid (RetSl 3 1 (thoseL (m : Nat) l p).length (intVals (thoseL (m : Nat) l p)) w (.returned (.slice ai (keepZ (fun x => !p x.toNat) (idxList m)).length ci)) w4) := by
      rw [F.out]
      exact ⟨_, _, rfl, owns_mono ho4 (by omega), hbel3.trans (hb4.mono (by omega))⟩
    clear ho4 hb4 hbel3
    go_wp2_with fail
    go_ret
    exact F2.out
end Go.Proofs.YtngbimgabcacpaaGreat
namespace Go.Proofs.YtngbimgabcacpaaGreat
open Go.RowKit
set_option linter.unusedVariables false
/-- the element is a zero -/
def zerB (m : Nat) (ln : List Nat) (z i : Nat) : Bool := decide (tm m ln z i = z) && decide (tm m ln i z = z)
def zeroB (m : Nat) (ln : List Nat) (z : Nat) : Bool := (List.range m).all (zerB m ln z)
def firstZ (l : List Int) : Int := match l with | [] => -1 | x :: _ => x
/-- ZeroOf as a function of plain data -/
def zeroF (n : Int) (l : List Int) : Int := firstZ (thoseL n l (zeroB n.toNat (l.map Int.toNat)))
theorem zerB_of1 {m : Nat} {ln : List Nat} {z i : Nat} (h : (((tm m ln z i : Nat) : Int) == (z : Nat)) = false) : zerB m ln z i = false := by
  simp at h; simp [zerB]; omega
theorem zerB_of2 {m : Nat} {ln : List Nat} {z i : Nat} (h : (((tm m ln z i : Nat) : Int) == (z : Nat)) = true) {b : Bool} (h2 : (((tm m ln i z : Nat) : Int) == (z : Nat)) = b) : zerB m ln z i = b := by
  cases b <;> simp at h h2 <;> simp [zerB] <;> omega
set_option maxHeartbeats 800000 in
theorem zeroIn_pred (m : Nat) (ln : List Nat) (a : Option Addr) (len cap bt bz z : Nat) (w : World) (hx0 : w.cell? ⟨bt, 0, none⟩ = some (.int .i64 m)) (hx1 : w.cell? ⟨bt, 1, none⟩ = some (.slice a len cap))
    (hzc : w.cell? ⟨bz, 0, none⟩ = some (.int .i64 (z : Nat))) (hn : NatsIn w a ln) (hT : Tb m ln) (hlen : len = m * m) (hz : z < m) :
    PredEl w.heap.size 60 #[.pointer (some ⟨bt, 0, none⟩), .pointer (some ⟨bz, 0, none⟩)] (zerB m ln z) m w := by
  intro i hi W hW
  have k0 : ∀ x, (wide W x).cell? ⟨bt, 0, none⟩ = some (.int .i64 m) := wide_cell (by rw [hW.cell (World.block_lt_of_cell? w _ hx0)]; exact hx0)
  have k1 : ∀ x, (wide W x).cell? ⟨bt, 1, none⟩ = some (.slice a len cap) := wide_cell (by rw [hW.cell (World.block_lt_of_cell? w _ hx1)]; exact hx1)
  have k2 : ∀ x, (wide W x).cell? ⟨bz, 0, none⟩ = some (.int .i64 (z : Nat)) := wide_cell (by rw [hW.cell (World.block_lt_of_cell? w _ hzc)]; exact hzc)
  have HN : Hid (∀ x, NatsIn (wide W x) a ln) := fun x => (hn.later hW).later (below_wide _ _)
  have HT := Lib.hid hT
  have HL := Lib.hid hlen
  clear hx0 hx1 hzc hn hT hlen hW
  cases e1 : (((tm m ln z i : Nat) : Int) == (z : Nat))
  · have F := Lib.hid (zerB_of1 e1)
    go_enter Tryz.func60, Tryz.ntmps60
    go_wp2_with fail
    refine region_wide (by kernel_rfl) (by kernel_rfl) ?_
    repeat (quiet_step ((refine (implTimes_any m ln a _ _ _ _ _ (HN.out _) HT.out HL.out (by assumption) (by assumption)).mono ?_; rintro e w2 ⟨rfl, hb2⟩; exact ⟨rfl, wide_next hb2⟩)))
    refine wpQuiet_nil ?_
    rintro w4 ⟨x4, rfl⟩
    go_wp2_with fail
    go_ret
    exact ⟨ret_bool F.out.symm, below_wide _ _⟩
  · cases e2 : (((tm m ln i z : Nat) : Int) == (z : Nat))
    · have F := Lib.hid (zerB_of2 e1 e2)
      go_enter Tryz.func60, Tryz.ntmps60
      go_wp2_with fail
      refine region_wide (by kernel_rfl) (by kernel_rfl) ?_
      repeat (quiet_step ((refine (implTimes_any m ln a _ _ _ _ _ (HN.out _) HT.out HL.out (by assumption) (by assumption)).mono ?_; rintro e w2 ⟨rfl, hb2⟩; exact ⟨rfl, wide_next hb2⟩)))
      refine wpQuiet_nil ?_
      rintro w4 ⟨x4, rfl⟩
      go_wp2_with fail
      go_ret
      exact ⟨ret_bool F.out.symm, below_wide _ _⟩
    · have F := Lib.hid (zerB_of2 e1 e2)
      go_enter Tryz.func60, Tryz.ntmps60
      go_wp2_with fail
      refine region_wide (by kernel_rfl) (by kernel_rfl) ?_
      repeat (quiet_step ((refine (implTimes_any m ln a _ _ _ _ _ (HN.out _) HT.out HL.out (by assumption) (by assumption)).mono ?_; rintro e w2 ⟨rfl, hb2⟩; exact ⟨rfl, wide_next hb2⟩)))
      refine wpQuiet_nil ?_
      rintro w4 ⟨x4, rfl⟩
      go_wp2_with fail
      go_ret
      exact ⟨ret_bool F.out.symm, below_wide _ _⟩
set_option maxHeartbeats 800000 in
theorem zeroOut_pred (m : Nat) (ln : List Nat) (a : Option Addr) (len cap bt : Nat) (w : World) (hx0 : w.cell? ⟨bt, 0, none⟩ = some (.int .i64 m)) (hx1 : w.cell? ⟨bt, 1, none⟩ = some (.slice a len cap))
    (hn : NatsIn w a ln) (hT : Tb m ln) (hlen : len = m * m) :
    PredEl w.heap.size 59 #[.pointer (some ⟨bt, 0, none⟩)] (zeroB m ln) m w := by
  intro z hz W hW
  have k0 : W.cell? ⟨bt, 0, none⟩ = some (.int .i64 m) := by rw [hW.cell (World.block_lt_of_cell? w _ hx0)]; exact hx0
  have k1 : W.cell? ⟨bt, 1, none⟩ = some (.slice a len cap) := by rw [hW.cell (World.block_lt_of_cell? w _ hx1)]; exact hx1
  have b0 := World.block_lt_of_cell? W _ k0
  have HN := Lib.hid (hn.later hW)
  have HT := Lib.hid hT
  have HL := Lib.hid hlen
  have hm := hT.hi
  clear hx0 hx1 hn hT hlen hW
  have hb0 : bt < W.heap.size := b0
  go_enter Tryz.func59, Tryz.ntmps59
  go_wp2_with fail
  have hbel : Below W.heap.size W (W.alloc (.cells #[.int .i64 (z : Nat)] 3)) := (Below.refl _ _).alloc (Nat.le_refl _) _
  have hp := zeroIn_pred m ln a len cap bt W.heap.size z (W.alloc (.cells #[.int .i64 (z : Nat)] 3)) (by rw [hbel.cell hb0]; exact k0) (by rw [hbel.cell hb0]; exact k1) (by simp) (HN.out.later hbel) HT.out HL.out hz
  refine (all_any _ _ _ (zerB m ln z) m a len cap _ (by omega) hp (Nat.le_refl _) (enters_of Tryz.func60 (by kernel_rfl) rfl)).mono ?_
  rintro e w2 ⟨rfl, hb2⟩
  have hbel2 := Below.now hbel hb2
  clear hp hb2 hbel
  go_wp2_with fail
  go_ret
  exact ⟨rfl, hbel2⟩
theorem ownsInts_first {w : World} {base : Nat} {T : TypeId} {a : Option Addr} {n cap : Nat} {l : List Int} (h : w.ownsRow base T 1 (.slice a n cap) n (intVals l)) (hl : 0 < l.length) : ∃ g, a = some ⟨g, 0, none⟩ ∧ w.cell? ⟨g, 0, none⟩ = some (.int .i64 (nthZ l 0)) := by
  have h1 := h.1
  rcases h.2 with ⟨hv, h0⟩ | ⟨g, cap', cur, hv, _⟩
  · simp [intVals] at h1; omega
  · simp only [Value.slice.injEq] at hv
    obtain ⟨rfl, _, rfl⟩ := hv
    exact ⟨g, rfl, by rw [h.cellAt 0 (by simp [intVals] at h1; omega)]; simp [intVals, hl, nthZ_lt hl]⟩
theorem map_toNat (ln : List Nat) : (ln.map Int.ofNat).map Int.toNat = ln := by rw [List.map_map]; exact List.map_id'' (fun x => rfl) ln
set_option maxHeartbeats 800000 in
theorem implZeroOf_any (n : Int) (l : List Int) (a : Option Addr) (cap : Nat) (w : World) (hl : IntsIn w a l) (hlen : l.length ≤ 2 ^ 47) :
    Calls Tryz.prog 26 #[.agg #[.int .i64 n, .slice a l.length cap]] w fun e w' => e = .returned (.int .i64 (zeroF n l)) ∧ Below w.heap.size w w' := by
  have HL := Lib.hid hl
  clear hl
  go_enter Tryz.func26, Tryz.ntmps26
  go_wp2_with fail
  have hbel : Below w.heap.size w (w.alloc (.cells #[.int .i64 n, .slice a l.length cap] 25)) := (Below.refl _ _).alloc (Nat.le_refl _) _
  refine (those_any n l a cap _ (HL.out.later hbel) hlen _ _ _ (zeroB n.toNat (l.map Int.toNat)) (Nat.le_refl _) ?_ (enters_of Tryz.func59 (by kernel_rfl) rfl)).mono ?_
  · intro ht
    obtain ⟨m, ln, rfl, rfl, hT⟩ := tabOk_out ht
    rw [map_toNat]
    exact zeroOut_pred m ln a (ln.map Int.ofNat).length cap w.heap.size _ (by simp) (by simp) (HL.out.later hbel) hT.toTb (by rw [List.length_map]; exact hT.len)
  rintro e w2 ⟨a2, c2, rfl, ho, hb2⟩
  have hbel2 := Below.now hbel hb2
  have HZ : Hid (zeroF n l = firstZ (thoseL n l (zeroB n.toNat (l.map Int.toNat)))) := rfl
  generalize thoseL n l (zeroB n.toNat (l.map Int.toNat)) = ls at ho HZ ⊢
  clear hb2 hbel
  cases ls with
  | nil =>
    clear ho
    go_wp2_with fail
    go_ret
    exact ⟨ret_int HZ.out.symm, hbel2⟩
  | cons x xs =>
    obtain ⟨g, rfl, hc⟩ := ownsInts_first ho (by simp)
    have hz : (((x :: xs).length : Int) == 0) = false := by rw [beq_eq_false_iff_ne]; simp; omega
    clear ho
    go_wp2_with fail
    go_ret
    exact ⟨ret_int HZ.out.symm, hbel2⟩
end Go.Proofs.YtngbimgabcacpaaGreat
