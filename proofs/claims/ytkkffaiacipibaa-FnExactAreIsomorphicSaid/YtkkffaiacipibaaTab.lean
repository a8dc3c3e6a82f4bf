/-
  Tables: the product of two elements, and the reference's TableOk.
-/
import Derived.Test.YtkkffaiacipibaaTabPlain
namespace Go.Proofs.Ytkkffaiacipibaa
open Go.RowKit
set_option linter.unusedVariables false
set_option maxHeartbeats 400000 in
theorem specTimes_any (m : Nat) (ln : List Nat) (a : Option Addr) (len cap i k : Nat) (w : World) (hl : NatsIn w a ln) (hT : Tb m ln) (hlen : len = m * m) (hi : i < m) (hk : k < m) :
    Calls Try.prog 55 #[.agg #[.int .i64 m, .slice a len cap], .int .i64 i, .int .i64 k] w fun e w' => e = .returned (.int .i64 (tm m ln i k : Nat)) ∧ Below w.heap.size w w' := by
  have h1 : i * m + k < len := by rw [hlen]; exact ix_lt hi hk
  have h2 := mul_le hT.hi hi
  have h3 : len ≤ 1600 := by rw [hlen]; exact sq_le hT.hi
  clear hlen
  obtain ⟨b, off, rfl, hb, hc⟩ := hT.cell hl
  have hc1 := hc i k hi hk
  have HT := Lib.hid hT
  clear hc hT hl
  go_enter Try.func55, Try.ntmps55
  go_wp2
  go_ret
  exact ⟨rfl, (Below.refl _ _).alloc (Nat.le_refl _) _⟩
set_option maxHeartbeats 400000 in
theorem implTimes_any (m : Nat) (ln : List Nat) (a : Option Addr) (len cap i k : Nat) (w : World) (hl : NatsIn w a ln) (hT : Tb m ln) (hlen : len = m * m) (hi : i < m) (hk : k < m) :
    Calls Try.prog 60 #[.agg #[.int .i64 m, .slice a len cap], .int .i64 i, .int .i64 k] w fun e w' => e = .returned (.int .i64 (tm m ln i k : Nat)) ∧ Below w.heap.size w w' := by
  have h1 : i * m + k < len := by rw [hlen]; exact ix_lt hi hk
  have h2 := mul_le hT.hi hi
  have h3 : len ≤ 1600 := by rw [hlen]; exact sq_le hT.hi
  clear hlen
  obtain ⟨b, off, rfl, hb, hc⟩ := hT.cell hl
  have hc1 := hc i k hi hk
  have HT := Lib.hid hT
  clear hc hT hl
  go_enter Try.func60, Try.ntmps60
  go_wp2
  go_ret
  exact ⟨rfl, (Below.refl _ _).alloc (Nat.le_refl _) _⟩
set_option maxRecDepth 100000 in
set_option maxHeartbeats 1000000 in
theorem specTableOk_any (n : Int) (l : List Int) (a : Option Addr) (cap : Nat) (w : World) (hl : IntsIn w a l) (hlen : l.length ≤ 2 ^ 47) :
    Calls Try.prog 54 #[.agg #[.int .i64 n, .slice a l.length cap]] w fun e w' => e = .returned (.bool (tabB n l)) ∧ Below w.heap.size w w' := by
  cases hn : inB n 1 40
  · have F := Lib.hid (tabB_notn (l := l) hn)
    go_enter Try.func54, Try.ntmps54
    go_wp2_with (go_at_call 70; refine (l01In_any _ _ _ _).mono ?_; rintro e w' ⟨rfl, rfl⟩)
    go_ret
    exact ⟨ret_bool F.out.symm, (Below.refl _ _).alloc (Nat.le_refl _) _⟩
  have ⟨hn1, hn2⟩ := inB_bounds hn
  have hnn : 0 ≤ n * n ∧ n * n ≤ 1600 := by
    obtain ⟨m, rfl⟩ := Int.eq_ofNat_of_zero_le (show 0 ≤ n by omega)
    have := sq_le (m := m) (by omega)
    omega
  obtain ⟨hnn0, hnn1⟩ := hnn
  by_cases hll : (l.length : Int) = n * n
  rotate_left
  · have F := Lib.hid (tabB_notlen hll)
    go_enter Try.func54, Try.ntmps54
    go_wp2_with (go_at_call 70; refine (l01In_any _ _ _ _).mono ?_; rintro e w' ⟨rfl, rfl⟩)
    go_ret
    exact ⟨ret_bool F.out.symm, (Below.refl _ _).alloc (Nat.le_refl _) _⟩
  have hcond : ((l.length : Int) != n * n) = false := by simp [hll]
  have HL := Lib.hid hll
  have HN := Lib.hid hn
  clear hll
  go_enter Try.func54, Try.ntmps54
  go_wp2_with (go_at_call 70; refine (l01In_any _ _ _ _).mono ?_; rintro e w' ⟨rfl, rfl⟩)
  go_loop [26] (fun i => ∃ j : Nat, j ≤ l.length ∧ i = .int .i64 j ∧ rngTo n l j) (fun i => l.length - (intOf i).toNat)
  case atStart => exact ⟨0, Nat.zero_le _, rfl, rngTo_zero _ _⟩
  case round =>
    obtain ⟨j, hj, rfl, hall⟩ := hrel
    have H := Lib.hid hall
    clear hall
    by_cases hlt : j < l.length
    · obtain ⟨b, off, rfl, hb, hc⟩ := hl.cell hlt
      have h1 := hc j hlt
      clear hc
      cases hp : inB (nthZ l j) 0 (n - 1)
      · have F := Lib.hid (tabB_notrng (rngB_false hlt hp))
        go_wp2_with (go_at_call 70; refine (l01In_any _ _ _ _).mono ?_; rintro e w' ⟨rfl, rfl⟩)
        go_ret
        exact ⟨ret_bool F.out.symm, (Below.refl _ _).alloc (Nat.le_refl _) _⟩
      · have F := Lib.hid (rngTo_succ H.out hp)
        go_wp2_with (go_at_call 70; refine (l01In_any _ _ _ _).mono ?_; rintro e w' ⟨rfl, rfl⟩)
        go_round
        case rel => exact ⟨j + 1, by omega, by go_num, F.out⟩
        case measure => simp [intOf]; omega
    · obtain ⟨m, ln, rfl, rfl, hT⟩ := tb_of HN.out HL.out (rngTo_full H.out hlt)
      obtain ⟨b, off, rfl, hb, hc⟩ := hT.cell hl
      have HT := Lib.hid hT
      have hm0 := hT.lo
      have hm1 := hT.hi
      have hlt' : ¬ j < ln.length := by simpa using hlt
      have hll : ln.length = m * m := hT.len
      have HLL := Lib.hid hll
      clear hll hT hl hlen hj hcond HL H hn HN hlt hnn0 hnn1 hn1 hn2
      go_wp2_with fail
      obtain ⟨w1, hw1⟩ : ∃ w1, w1 = w.alloc (.cells #[.int .i64 (m : Nat), .slice (some ⟨b, off, none⟩) ln.length cap] 27) := ⟨_, rfl⟩
      have HC : Hid (∀ i k, i < m → k < m → w1.cell? ⟨b, off + (i * m + k), none⟩ = some (.int .i64 (tm m ln i k : Nat))) := fun i k hi hk => by
        rw [hw1, World.cell?_alloc_lt _ _ _ hb]; exact hc i k hi hk
      have hbel : Below w.heap.size w w1 := by rw [hw1]; exact (Below.refl _ _).alloc (Nat.le_refl _) _
      have hx0 : w1.cell? ⟨w.heap.size, 0, none⟩ = some (.int .i64 (m : Nat)) := by rw [hw1, World.cell?_alloc_new]; rfl
      have hx1 : w1.cell? ⟨w.heap.size, 1, none⟩ = some (.slice (some ⟨b, off, none⟩) ln.length cap) := by rw [hw1, World.cell?_alloc_new]; rfl
      rw [← hw1]
      clear hc hw1 hlt' hb
      go_loopw [6] (fun i wr => ∃ c d : Nat, c ≤ m ∧ i = .int .i64 c ∧ wr = w1.drewN d ∧ upto (rowOk m ln) c) (fun i _ => m - (intOf i).toNat)
      case atStart => exact ⟨0, 0, Nat.zero_le _, rfl, rfl, upto_zero _⟩
      case round =>
        obtain ⟨c, d, hcm, rfl, rfl, hrows⟩ := hrel
        have HR := Lib.hid hrows
        clear hrows
        by_cases hlt : c < m
        · have g1 : w1.cell? ⟨b, off + c, none⟩ = some (.int .i64 (tm m ln 0 c : Nat)) := by have := HC.out 0 c hm0 hlt; simpa using this
          have g2 : w1.cell? ⟨b, off + c * m, none⟩ = some (.int .i64 (tm m ln c 0 : Nat)) := by have := HC.out c 0 hlt hm0; simpa using this
          have b1 : c < ln.length := by rw [HLL.out]; have := ix_lt hm0 hlt; omega
          have b2 : c * m < ln.length := by rw [HLL.out]; have := ix_lt hlt hm0; omega
          have b3 := mul_le hm1 hlt
          cases e1 : (((tm m ln 0 c : Nat) : Int) != ((c : Nat) : Int))
          rotate_left
          · have F := Lib.hid (tabB_rows HT.out (rowsOk_idn hlt (idn_not1 e1)))
            go_wp2_with fail
            go_ret
            exact ⟨ret_bool F.out.symm, (by repeat (first | exact hbel | refine below_drewN ?_ _))⟩
          cases e2 : (((tm m ln c 0 : Nat) : Int) != ((c : Nat) : Int))
          rotate_left
          · have F := Lib.hid (tabB_rows HT.out (rowsOk_idn hlt (idn_not2 e2)))
            go_wp2_with fail
            go_ret
            exact ⟨ret_bool F.out.symm, (by repeat (first | exact hbel | refine below_drewN ?_ _))⟩
          have HI := Lib.hid (idn_of e1 e2)
          go_wp2_with fail
          clear g1 g2 e1 e2 b1 b2 b3
          obtain ⟨w2, hw2⟩ : ∃ w2, w2 = w1.drewN d := ⟨_, rfl⟩
          rw [← hw2]
          have HW2 := Lib.hid hw2
          clear hw2
          go_loopw [7] (fun i wr => ∃ x d : Nat, x ≤ m ∧ i = .int .i64 x ∧ wr = w1.drewN d ∧ upto (ascRow m ln c) x) (fun i _ => m - (intOf i).toNat)
          case atStart => exact ⟨0, d, Nat.zero_le _, rfl, HW2.out, upto_zero _⟩
          case round =>
            clear HW2
            obtain ⟨x, d2, hxm, rfl, rfl, hasc⟩ := hrel
            have HA := Lib.hid hasc
            clear hasc
            by_cases hlx : x < m
            · go_wp2_with fail
              obtain ⟨w2, hw2⟩ : ∃ w2, w2 = w1.drewN d2 := ⟨_, rfl⟩
              rw [← hw2]
              have HW2 := Lib.hid hw2
              clear hw2
              go_loopw [8] (fun i wr => ∃ y d : Nat, y ≤ m ∧ i = .int .i64 y ∧ wr = w1.drewN d ∧ upto (asc m ln c x) y) (fun i _ => m - (intOf i).toNat)
              case atStart => exact ⟨0, d2, Nat.zero_le _, rfl, HW2.out, upto_zero _⟩
              case round =>
                clear HW2
                obtain ⟨y, d3, hym, rfl, rfl, hasy⟩ := hrel
                have HY := Lib.hid hasy
                clear hasy
                by_cases hly : y < m
                · have k1 := HT.out.tm_lt hlt hlx
                  have k2 := HT.out.tm_lt hlx hly
                  have k3 := HT.out.tm_lt k1 hly
                  have k4 := HT.out.tm_lt hlt k2
                  have g1 := HC.out c x hlt hlx
                  have g2 := HC.out x y hlx hly
                  have g3 := HC.out (tm m ln c x) y k1 hly
                  have g4 := HC.out c (tm m ln x y) hlt k2
                  have b1 : c * m + x < ln.length := by rw [HLL.out]; exact ix_lt hlt hlx
                  have b2 : x * m + y < ln.length := by rw [HLL.out]; exact ix_lt hlx hly
                  have b3 : tm m ln c x * m + y < ln.length := by rw [HLL.out]; exact ix_lt k1 hly
                  have b4 : c * m + tm m ln x y < ln.length := by rw [HLL.out]; exact ix_lt hlt k2
                  have b5 := mul_le hm1 hlt
                  have b6 := mul_le hm1 hlx
                  have b7 := mul_le hm1 k1
                  cases e : (((tm m ln (tm m ln c x) y : Nat) : Int) != ((tm m ln c (tm m ln x y) : Nat) : Int))
                  · have F := Lib.hid (upto_succ HY.out (asc_of e))
                    go_wp2_with fail
                    go_quiet (fail)
                    go_wp2_with fail
                    go_roundw
                    case rel => exact ⟨y + 1, _, by omega, by go_num, rfl, F.out⟩
                    case measure => simp [intOf]; omega
                  · have F := Lib.hid (tabB_rows HT.out (rowsOk_asc hlt hlx hly (asc_of e)))
                    go_wp2_with fail
                    go_quiet (fail)
                    go_wp2_with fail
                    go_ret
                    exact ⟨ret_bool F.out.symm, (by repeat (first | exact hbel | refine below_drewN ?_ _))⟩
                · have F := Lib.hid (upto_succ HA.out (ascRow_of HY.out hly))
                  go_wp2_with fail
                  go_roundw
                  case rel => exact ⟨x + 1, _, by omega, by go_num, rfl, F.out⟩
                  case measure => simp [intOf]; omega
            · have F := Lib.hid (upto_succ HR.out (rowOk_of HI.out HA.out hlx))
              go_wp2_with fail
              go_roundw
              case rel => exact ⟨c + 1, _, by omega, by go_num, rfl, F.out⟩
              case measure => simp [intOf]; omega
        · have F := Lib.hid (tabB_rows HT.out (upto_all HR.out hlt))
          go_wp2_with fail
          go_ret
          exact ⟨ret_bool F.out.symm, (by repeat (first | exact hbel | refine below_drewN ?_ _))⟩
end Go.Proofs.Ytkkffaiacipibaa
