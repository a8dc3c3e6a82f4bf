/-
  l06Pairs of the reference: the sides of the pairs with the last rule.
-/
import Derived.Test.YtmgdglghjlggnaaGreatGway27
import Derived.Deep.DeepCutAuto
import Derived.Test.YtmgdglghjlggnaaGreatGway16
import Derived.Deep.RegionHeld3
import Derived.Deep.RegionLaw
import Derived.Test.YtmgdglghjlggnaaGreatGway04
import Derived.Test.YtmgdglghjlggnaaGreatGway15
import Derived.Test.YtmgdglghjlggnaaGreatGway12
namespace Go.Proofs.YtmgdglghjlggnaaGreat
open Go.RowKit
set_option linter.unusedVariables false
def digP (s : ByteArray) : Prop := ∀ j (h : j < s.size), 48 ≤ ((s[j]'h).toNat : Int) ∧ ((s[j]'h).toNat : Int) ≤ 57
def RetDig (s : ByteArray) (w : World) (e : Ending) (w' : World) : Prop := ∃ b : Bool, (b = true → digP s) ∧ e = .returned (.bool b) ∧ w = w'
set_option maxHeartbeats 1000000 in
theorem specIsDigits_any (s : ByteArray) (w : World) (hs : s.size ≤ maxLen) :
    Calls Tryz.prog 91 #[.string s] w (RetDig s w) := by
  unfold maxLen at hs
  go_enter Tryz.func91, Tryz.ntmps91
  go_wp2_with fail
  go_loop [3] (fun i => ∃ j : Nat, j ≤ s.size ∧ i = .int .i64 j ∧ Hid (∀ j' (h : j' < s.size), j' < j → 48 ≤ ((s[j']'h).toNat : Int) ∧ ((s[j']'h).toNat : Int) ≤ 57)) (fun i => s.size - (intOf i).toNat)
  case atStart => exact ⟨0, Nat.zero_le _, rfl, Lib.hid (fun j' h h2 => absurd h2 (Nat.not_lt_zero _))⟩
  case round =>
    obtain ⟨j, hj, rfl, HA⟩ := hrel
    by_cases hlt : j < s.size
    · have hb := byte_lt s[j]
      by_cases h1 : (s[j].toNat : Int) < 48
      · go_wp2
        go_ret
        exact ⟨false, fun h => Bool.noConfusion h, rfl, rfl⟩
      · by_cases h2 : 57 < (s[j].toNat : Int)
        · go_wp2
          go_ret
          exact ⟨false, fun h => Bool.noConfusion h, rfl, rfl⟩
        · have HN : Hid (∀ j' (h : j' < s.size), j' < j + 1 → 48 ≤ ((s[j']'h).toNat : Int) ∧ ((s[j']'h).toNat : Int) ≤ 57) := Lib.hid (fun j' h hj' => by
            by_cases e : j' = j
            · subst e; omega
            · exact HA.out j' h (by omega))
          go_wp2
          go_round
          case rel => exact ⟨j + 1, by omega, by go_num, HN⟩
          case measure => simp [intOf]; omega
    · obtain rfl : j = s.size := by omega
      have HD : Hid (digP s) := Lib.hid (fun j h => HA.out j h h)
      go_wp2
      go_ret
      exact ⟨_, fun _ => HD.out, rfl, rfl⟩
def RetNum (w : World) (e : Ending) (w' : World) : Prop := ∃ (n : Int) (b : Bool), (-9223372036854775808 ≤ n ∧ n ≤ 9223372036854775807) ∧ e = .returned (.tuple #[.int .i64 n, .bool b]) ∧ Below w.heap.size w w'
theorem tdiv_ge {m c : Int} (h0 : 0 ≤ c) (h9 : c ≤ 9) (h : ¬ m < (-9223372036854775808 + c).tdiv 10) : -9223372036854775808 + c ≤ m * 10 := by
  rw [show -9223372036854775808 + c = -(9223372036854775808 - c) by omega, Int.neg_tdiv, Int.tdiv_eq_ediv_of_nonneg (by omega)] at h
  omega
theorem retN {w wr : World} {a : Act} {n : Int} {b : Bool} {fn : Func} (h1 : -9223372036854775808 ≤ n) (h2 : n ≤ 9223372036854775807) (hd : a.defers = []) (hv : (results fn a.tmps).run Tryz.prog wr = .ok (.tuple #[.int .i64 n, .bool b]) wr) (hb : Below w.heap.size w wr) : bodyPost Tryz.prog fn (RetNum w) Exit.ret a wr :=
  bodyPost_ret (v := .tuple #[.int .i64 n, .bool b]) hv hd ⟨n, b, ⟨h1, h2⟩, rfl, hb⟩
theorem ret0 {w wr : World} {a : Act} {fn : Func} (hd : a.defers = []) (hv : (results fn a.tmps).run Tryz.prog wr = .ok (.tuple #[.int .i64 0, .bool false]) wr) (hb : Below w.heap.size w wr) : bodyPost Tryz.prog fn (RetNum w) Exit.ret a wr := retN (by omega) (by omega) hd hv hb
set_option maxRecDepth 20000 in
set_option maxHeartbeats 4000000 in
theorem specParseInt_any (s : ByteArray) (w : World) (hs : s.size ≤ 2 ^ 20) :
    Calls Tryz.prog 66 #[.string s] w (RetNum w) := by
  have HD := Lib.hid (fun t W (h : t.size ≤ s.size) => specIsDigits_any t W (by unfold maxLen; omega))
  have HF := Lib.hid (fun n W h1 h2 => specFormatInt_any n W h1 h2)
  go_enter Tryz.func66, Tryz.ntmps66
  go_upto_region 1 with fail
  go_cut [4] (fun v wx => ∃ b : Bool, v = .bool b ∧ (b = true → 0 < s.size) ∧ wx = w)
  case first =>
    by_cases h0 : 0 < s.size
    · go_wp2_with fail
      go_meet
      exact ⟨_, rfl, fun _ => h0, rfl⟩
    · go_wp2_with fail
      go_meet
      exact ⟨_, rfl, fun h => Bool.noConfusion h, rfl⟩
  case rest =>
    obtain ⟨b, rfl, hb0, rfl⟩ := hcut
    cases b
    · have HTS : Hid (s.size ≤ s.size) := Lib.hid (Nat.le_refl _)
      go_wp2_with fail
      refine (HD.out _ _ HTS.out).mono ?_
      rintro e w2 ⟨bb, hbb, rfl, rfl⟩
      have hts := HTS.out
      cases bb
      · go_wp2_with fail
        exact ret0 rfl (by simp [results, Tryz.results66, go_sem]) (Below.refl _ _)
      · have HDP := Lib.hid (hbb rfl)
        by_cases h19 : 19 < s.size
        · go_wp2_with fail
          exact ret0 rfl (by simp [results, Tryz.results66, go_sem]) (Below.refl _ _)
        · go_wp2_with fail
          go_loop [6, 7] (fun n i => ∃ (j : Nat) (m : Int), j ≤ s.size ∧ i = .int .i64 (j : Nat) ∧ n = .int .i64 m ∧ -9223372036854775808 ≤ m ∧ m ≤ 0) (fun _ i => s.size - (intOf i).toNat)
          case atStart => exact ⟨0, 0, Nat.zero_le _, rfl, rfl, by omega, by omega⟩
          case round =>
            obtain ⟨j, m, hj, rfl, rfl, hm1, hm2⟩ := hrel
            by_cases hlt : j < s.size
            · obtain ⟨d1, d2⟩ := HDP.out j hlt
              have hbt := byte_lt s[j]
              by_cases hq : m < (-9223372036854775808 + (((s[j]'hlt).toNat : Int) - 48)).tdiv 10
              · go_wp2_with fail
                exact ret0 rfl (by simp [results, Tryz.results66, go_sem]) (Below.refl _ _)
              · have hge := tdiv_ge (c := ((s[j]'hlt).toNat : Int) - 48) (by omega) (by omega) hq
                have hr1 : -9223372036854775808 ≤ m * 10 - (((s[j]'hlt).toNat : Int) - 48) := by omega
                have hr2 : m * 10 - (((s[j]'hlt).toNat : Int) - 48) ≤ 0 := by omega
                have hq2 : decide (m < (-9223372036854775808 + (((s[j]'hlt).toNat : Int) - 48)).tdiv 10) = false := decide_eq_false hq
                clear hge
                go_wp2_with fail
                go_round
                case rel => exact ⟨j + 1, _, by omega, by go_num, rfl, hr1, hr2⟩
                case measure => simp [intOf]; omega
            · obtain rfl : j = s.size := by omega
              by_cases hm : m = -9223372036854775808
              · go_wp2_with fail
                exact ret0 rfl (by simp [results, Tryz.results66, go_sem]) (Below.refl _ _)
              · have hm2 : (m == -9223372036854775808) = false := beq_eq_false_iff_ne.2 hm
                go_wp2_with fail
                refine (HF.out (-m) _ (by omega) (by omega)).mono ?_
                rintro e w3 ⟨rfl, hb3⟩
                have HB3 := Lib.hid hb3
                clear hb3
                generalize (⟨(Lib.itoa (-m)).toArray⟩ : ByteArray) = fs at *
                cases hq : (fs.toList == s.toList)
                · go_wp2_with fail
                  exact ret0 rfl (by simp [results, Tryz.results66, go_sem]) HB3.out
                · go_wp2_with fail
                  exact retN (n := -m) (b := true) (by omega) (by omega) rfl (by simp [results, Tryz.results66, go_sem]) HB3.out
    · have h0 := hb0 rfl
      have HTS : Hid ((s.extract 1 s.size).size ≤ s.size) := Lib.hid (by rw [ByteArray.size_extract]; omega)
      go_wp2_with fail
      refine (HD.out _ _ HTS.out).mono ?_
      rintro e w2 ⟨bb, hbb, rfl, rfl⟩
      generalize s.extract 1 s.size = t at *
      have hts := HTS.out
      cases bb
      · go_wp2_with fail
        exact ret0 rfl (by simp [results, Tryz.results66, go_sem]) (Below.refl _ _)
      · have HDP := Lib.hid (hbb rfl)
        by_cases h19 : 19 < t.size
        · go_wp2_with fail
          exact ret0 rfl (by simp [results, Tryz.results66, go_sem]) (Below.refl _ _)
        · go_wp2_with fail
          go_loop [6, 7] (fun n i => ∃ (j : Nat) (m : Int), j ≤ t.size ∧ i = .int .i64 (j : Nat) ∧ n = .int .i64 m ∧ -9223372036854775808 ≤ m ∧ m ≤ 0) (fun _ i => t.size - (intOf i).toNat)
          case atStart => exact ⟨0, 0, Nat.zero_le _, rfl, rfl, by omega, by omega⟩
          case round =>
            obtain ⟨j, m, hj, rfl, rfl, hm1, hm2⟩ := hrel
            by_cases hlt : j < t.size
            · obtain ⟨d1, d2⟩ := HDP.out j hlt
              have hbt := byte_lt t[j]
              by_cases hq : m < (-9223372036854775808 + (((t[j]'hlt).toNat : Int) - 48)).tdiv 10
              · go_wp2_with fail
                exact ret0 rfl (by simp [results, Tryz.results66, go_sem]) (Below.refl _ _)
              · have hge := tdiv_ge (c := ((t[j]'hlt).toNat : Int) - 48) (by omega) (by omega) hq
                have hr1 : -9223372036854775808 ≤ m * 10 - (((t[j]'hlt).toNat : Int) - 48) := by omega
                have hr2 : m * 10 - (((t[j]'hlt).toNat : Int) - 48) ≤ 0 := by omega
                have hq2 : decide (m < (-9223372036854775808 + (((t[j]'hlt).toNat : Int) - 48)).tdiv 10) = false := decide_eq_false hq
                clear hge
                go_wp2_with fail
                go_round
                case rel => exact ⟨j + 1, _, by omega, by go_num, rfl, hr1, hr2⟩
                case measure => simp [intOf]; omega
            · obtain rfl : j = t.size := by omega
              go_wp2_with fail
              refine (HF.out m _ (by omega) (by omega)).mono ?_
              rintro e w3 ⟨rfl, hb3⟩
              have HB3 := Lib.hid hb3
              clear hb3
              generalize (⟨(Lib.itoa m).toArray⟩ : ByteArray) = fs at *
              cases hq : (fs.toList == s.toList)
              · go_wp2_with fail
                exact ret0 rfl (by simp [results, Tryz.results66, go_sem]) HB3.out
              · go_wp2_with fail
                exact retN (n := m) (b := true) (by omega) (by omega) rfl (by simp [results, Tryz.results66, go_sem]) HB3.out
end Go.Proofs.YtmgdglghjlggnaaGreat
namespace Go.Proofs.YtmgdglghjlggnaaGreat
open Go.RowKit
set_option linter.unusedVariables false
def RetRule (m : Nat) (w : World) (e : Ending) (w' : World) : Prop := ∃ (x y : ByteArray) (b : Bool), (x.size ≤ m ∧ y.size ≤ m) ∧ e = .returned (.tuple #[.agg #[.string x, .string y], .bool b]) ∧ Below w.heap.size w w'
/-- two strings in a row of their own -/
def TwoS (m B : Nat) (w wr : World) (v : Value) : Prop := ∃ x y : ByteArray, (x.size ≤ m ∧ y.size ≤ m) ∧ wr.ownsRow (B + 1) 9 1 v 2 [.string x, .string y] ∧ Below B w wr ∧ wr.heap[B]? = some (.cells #[.string ⟨#[]⟩, .string ⟨#[]⟩] 89 (0, 0))
theorem TwoS.mk {m B : Nat} {w wr : World} {v : Value} {l : List ByteArray} (h2 : l.length = 2) (hl : ShortS m l) (ho : wr.ownsRow (B + 1) 9 1 v l.length (strVals l)) (hb : Below B w wr) (h0 : wr.heap[B]? = some (.cells #[.string ⟨#[]⟩, .string ⟨#[]⟩] 89 (0, 0))) : TwoS m B w wr v := by
  match l, h2 with
  | [x, y], _ => exact ⟨x, y, ⟨hl x (by simp), hl y (by simp)⟩, ho, hb, h0⟩
theorem TwoS.form {m B : Nat} {w wr : World} {a : Option Addr} {n cap : Nat} (h : TwoS m B w wr (.slice a n cap)) : ∃ g, a = some ⟨g, 0, none⟩ ∧ B + 1 ≤ g ∧ n = 2 := by
  obtain ⟨x, y, hs, ho, hb, h0⟩ := h
  rcases ho.2 with ⟨hv, h0⟩ | ⟨g, cap', cur, hv, hb', r⟩
  · cases h0
  · simp only [Value.slice.injEq] at hv
    exact ⟨g, hv.1, hb', hv.2.1⟩
theorem TwoS.store {m B : Nat} {w wr : World} {g cap : Nat} (h : TwoS m B w wr (.slice (some ⟨g, 0, none⟩) 2 cap)) (hg : B + 1 ≤ g) (i : Nat) : i < 2 → TwoS m B w (wr.setCell ⟨g, i, none⟩ (.string ⟨#[]⟩)) (.slice (some ⟨g, 0, none⟩) 2 cap) := by
  intro hi
  obtain ⟨x, y, hs, ho, hb, h0⟩ := h
  have hz : (⟨#[]⟩ : ByteArray).size = 0 := rfl
  have hst := (ho.stored i (.string ⟨#[]⟩)).1
  have hblk : (wr.setCell ⟨g, i, none⟩ (.string ⟨#[]⟩)).heap[B]? = some (.cells #[.string ⟨#[]⟩, .string ⟨#[]⟩] 89 (0, 0)) := by
    rw [← h0]
    unfold World.setCell
    rw [Array.getElem?_modify, if_neg (by show ¬ g = B; omega)]
  match i, hi with
  | 0, _ => exact ⟨⟨#[]⟩, y, by omega, hst, hb.setCell (by show B ≤ g; omega) _, hblk⟩
  | 1, _ => exact ⟨x, ⟨#[]⟩, by omega, hst, hb.setCell (by show B ≤ g; omega) _, hblk⟩
theorem RetRule.zero {m : Nat} {w wr : World} (h : Below w.heap.size w wr) : RetRule m w (.returned (.tuple #[.agg #[.string ⟨#[]⟩, .string ⟨#[]⟩], .bool false])) ((wr.setCell ⟨w.heap.size, 0, none⟩ (.string ⟨#[]⟩)).setCell ⟨w.heap.size, 1, none⟩ (.string ⟨#[]⟩)) := by
  have hz : (⟨#[]⟩ : ByteArray).size = 0 := rfl
  exact ⟨⟨#[]⟩, ⟨#[]⟩, false, by omega, rfl, (h.setCell (Nat.le_refl _) _).setCell (Nat.le_refl _) _⟩
set_option maxRecDepth 20000 in
set_option maxHeartbeats 4000000 in
theorem specParseRule_any (s : ByteArray) (w : World) (hs : s.size ≤ 2 ^ 20) :
    Calls Tryz.prog 67 #[.string s] w (RetRule s.size w) := by
  have HSP := Lib.hid (fun W => specSplitAny_any s 62 W hs)
  have hz1 : (⟨#[]⟩ : ByteArray).size = 0 := rfl
  go_enter Tryz.func67, Tryz.ntmps67
  go_wp2_with fail
  refine (HSP.out _).mono ?_
  rintro e w2 ⟨l, ⟨hl1, hl2, hl3⟩, a, cap, rfl, ho, hb2⟩
  have hb0 := (hb2.block w.heap.size (by simp)).trans (alloc_at w (.cells #[.string ⟨#[]⟩, .string ⟨#[]⟩] 89))
  have hf0 : w2.frozen? ⟨w.heap.size, 0, none⟩ = false ∧ w2.frozen? ⟨w.heap.size, 1, none⟩ = false := by simp [World.frozen?, hb0]
  obtain ⟨f0, f1⟩ := hf0
  have HW1 := Lib.hid ((Below.refl w.heap.size w).alloc (Nat.le_refl _) (.cells #[.string ⟨#[]⟩, .string ⟨#[]⟩] 89))
  by_cases h2 : l.length = 2
  · have HT : Hid (TwoS s.size w.heap.size w w2 (.slice a 2 cap)) := Lib.hid (TwoS.mk h2 hl1 (by rw [← h2]; simpa using ho) (Below.now HW1.out hb2) hb0)
    have HZ0 : Hid (w2.heap[w.heap.size]? = some (.cells #[.string ⟨#[]⟩, .string ⟨#[]⟩] 89 (0, 0))) := Lib.hid hb0
    clear hb2 ho hb0 f0 f1
    rw [h2]
    clear h2 hl1 hl2 hl3
    obtain ⟨g, rfl, hg, _⟩ := HT.out.form
    go_wp2_with fail
    go_loopw [16] (fun i wr => ∃ j : Nat, j ≤ 2 ∧ i = .int .i64 (j : Nat) ∧ Hid (TwoS s.size w.heap.size w wr (.slice (some ⟨g, 0, none⟩) 2 cap))) (fun i _ => 2 - (intOf i).toNat)
    case atStart => exact ⟨0, by omega, rfl, HT⟩
    case round =>
      clear HT HZ0
      obtain ⟨j, hj, rfl, HT⟩ := hrel
      obtain ⟨x, y, ⟨hx, hy⟩, ho, hb, h0⟩ := HT.out
      have H0 := Lib.hid h0
      have c0 : wr.cell? ⟨g, 0, none⟩ = some (.string x) := ho.cellAt 0 (by omega)
      have c1 : wr.cell? ⟨g, 1, none⟩ = some (.string y) := ho.cellAt 1 (by omega)
      have f0 := ho.frozenAt 0
      have f1 := ho.frozenAt 1
      have HS := Lib.hid (HT.out.store hg)
      clear h0
      have hj3 : j = 0 ∨ j = 1 ∨ j = 2 := by omega
      rcases hj3 with rfl | rfl | rfl
      · have HS0 := Lib.hid (HS.out 0 (by omega))
        go_wp2_with fail
        · go_roundw
          case rel => exact ⟨1, by omega, by go_num, HS0⟩
          case measure => simp [intOf]
        · go_roundw
          case rel => exact ⟨1, by omega, by go_num, HT⟩
          case measure => simp [intOf]
      · have HS1 := Lib.hid (HS.out 1 (by omega))
        go_wp2_with fail
        · go_roundw
          case rel => exact ⟨2, by omega, by go_num, HS1⟩
          case measure => simp [intOf]
        · go_roundw
          case rel => exact ⟨2, by omega, by go_num, HT⟩
          case measure => simp [intOf]
      · have p0 : ∀ o, (wr.alloc o).cell? ⟨g, 0, none⟩ = some (.string x) := fun o => by rw [(alloc_belowS wr o).cell (World.block_lt_of_cell? wr _ c0)]; exact c0
        have p1 : ∀ o, (wr.alloc o).cell? ⟨g, 1, none⟩ = some (.string y) := fun o => by rw [(alloc_belowS wr o).cell (World.block_lt_of_cell? wr _ c1)]; exact c1
        go_wp2_with fail
        go_upto_region 10 with fail
        go_cut [7] (fun v wx => v = .pointer (some ⟨wr.heap.size, 0, none⟩) ∧ wx.heap[wr.heap.size]? = some (.cells #[.string x, .string y] 89 (0, 0)) ∧ Below wr.heap.size wr wx)
        case first =>
          go_region_law (fail)
          all_goals
            go_wp2_with fail
            go_meet
            exact ⟨rfl, alloc_at wr _, Below.drew (alloc_belowS wr _)⟩
        case rest =>
          obtain ⟨rfl, hbx, hbc⟩ := hcut
          have hz := (hbc.block w.heap.size (Array.getElem?_eq_some_iff.1 H0.out).1).trans H0.out
          have HBW := Lib.hid (Below.now hb hbc)
          obtain ⟨s0, s1⟩ := sys_cells hbx
          clear hbc H0 p0 p1 c0 c1 f0 f1 hb ho HT HS
          have PW := Lib.hid (fun v W (h : v.size ≤ s.size) => specWordOk_any 4 v W (by unfold maxLen; omega))
          cases h1 : wordOkB 4 x
          · have F := Lib.hid (RetRule.zero (m := s.size) HBW.out)
            obtain ⟨z0, z1⟩ := sys_cells hz
            obtain ⟨u0, u1⟩ := sys_cells (set_two hz (.string ⟨#[]⟩) (.string ⟨#[]⟩))
            have ff0 : wc.frozen? ⟨w.heap.size, 0, none⟩ = false := by simp [World.frozen?, hz]
            have ff1 : wc.frozen? ⟨w.heap.size, 1, none⟩ = false := by simp [World.frozen?, hz]
            clear hz
            go_wp2_with (go_at_call 93; refine (PW.out _ _ (by first | exact hx | exact hy)).mono ?_; rintro e w' ⟨rfl, rfl⟩; (try rw [h1]))
            refine bodyPost_ret (v := .tuple #[.agg #[.string ⟨#[]⟩, .string ⟨#[]⟩], .bool false]) ?_ rfl F.out
            simp [results, Tryz.results67, go_sem, u0, u1]
          · cases h2 : wordOkB 4 y
            · have F := Lib.hid (RetRule.zero (m := s.size) HBW.out)
              obtain ⟨z0, z1⟩ := sys_cells hz
              obtain ⟨u0, u1⟩ := sys_cells (set_two hz (.string ⟨#[]⟩) (.string ⟨#[]⟩))
              have ff0 : wc.frozen? ⟨w.heap.size, 0, none⟩ = false := by simp [World.frozen?, hz]
              have ff1 : wc.frozen? ⟨w.heap.size, 1, none⟩ = false := by simp [World.frozen?, hz]
              clear hz
              go_wp2_with (go_at_call 93; refine (PW.out _ _ (by first | exact hx | exact hy)).mono ?_; rintro e w' ⟨rfl, rfl⟩; (try rw [h1]); (try rw [h2]))
              refine bodyPost_ret (v := .tuple #[.agg #[.string ⟨#[]⟩, .string ⟨#[]⟩], .bool false]) ?_ rfl F.out
              simp [results, Tryz.results67, go_sem, u0, u1]
            · have HFR := Lib.hid (fun W => specFormatRule_any x y W (by unfold maxLen; omega))
              have HZ := Lib.hid hz
              clear hz
              go_wp2_with (go_at_call 93; refine (PW.out _ _ (by first | exact hx | exact hy)).mono ?_; rintro e w' ⟨rfl, rfl⟩; (try rw [h1]); (try rw [h2]))
              refine (HFR.out _).mono ?_
              rintro e w3 ⟨rfl, hb3⟩
              have hz := (hb3.block w.heap.size (Array.getElem?_eq_some_iff.1 HZ.out).1).trans HZ.out
              obtain ⟨s0, s1⟩ := sys_cells ((hb3.block wr.heap.size (Array.getElem?_eq_some_iff.1 hbx).1).trans hbx)
              replace HBW := Lib.hid (Below.now HBW.out hb3)
              clear hb3 hbx HZ HFR PW
              generalize ruleT (x, y) = rt at *
              cases hq : (rt.toList == s.toList)
              · have F := Lib.hid (RetRule.zero (m := s.size) HBW.out)
                obtain ⟨z0, z1⟩ := sys_cells hz
                obtain ⟨u0, u1⟩ := sys_cells (set_two hz (.string ⟨#[]⟩) (.string ⟨#[]⟩))
                have ff0 : w3.frozen? ⟨w.heap.size, 0, none⟩ = false := by simp [World.frozen?, hz]
                have ff1 : w3.frozen? ⟨w.heap.size, 1, none⟩ = false := by simp [World.frozen?, hz]
                clear hz
                go_wp2_with fail
                refine bodyPost_ret (v := .tuple #[.agg #[.string ⟨#[]⟩, .string ⟨#[]⟩], .bool false]) ?_ rfl F.out
                simp [results, Tryz.results67, go_sem, u0, u1]
              · have F : Hid (RetRule s.size w (.returned (.tuple #[.agg #[.string x, .string y], .bool true])) ((w3.setCell ⟨w.heap.size, 0, none⟩ (.string x)).setCell ⟨w.heap.size, 1, none⟩ (.string y))) := Lib.hid ⟨x, y, true, ⟨hx, hy⟩, rfl, (HBW.out.setCell (Nat.le_refl _) _).setCell (Nat.le_refl _) _⟩
                obtain ⟨z0, z1⟩ := sys_cells hz
                obtain ⟨u0, u1⟩ := sys_cells (set_two hz (.string x) (.string y))
                have ff0 : w3.frozen? ⟨w.heap.size, 0, none⟩ = false := by simp [World.frozen?, hz]
                have ff1 : w3.frozen? ⟨w.heap.size, 1, none⟩ = false := by simp [World.frozen?, hz]
                clear hz
                go_wp2_with fail
                refine bodyPost_ret (v := .tuple #[.agg #[.string x, .string y], .bool true]) ?_ rfl F.out
                simp [results, Tryz.results67, go_sem, u0, u1]
  · have h2i : ((l.length : Int) == 2) = false := beq_eq_false_iff_ne.2 (by omega)
    have h2n : ¬ (l.length : Int) = 2 := by omega
    have F := Lib.hid (RetRule.zero (m := s.size) (Below.now HW1.out hb2))
    obtain ⟨z0, z1⟩ := sys_cells hb0
    obtain ⟨u0, u1⟩ := sys_cells (set_two hb0 (.string ⟨#[]⟩) (.string ⟨#[]⟩))
    clear hb2 ho
    go_wp2_with fail
    refine bodyPost_ret (v := .tuple #[.agg #[.string ⟨#[]⟩, .string ⟨#[]⟩], .bool false]) ?_ rfl F.out
    simp [results, Tryz.results67, go_sem, u0, u1]
end Go.Proofs.YtmgdglghjlggnaaGreat
namespace Go.Proofs.YtmgdglghjlggnaaGreat
open Go.RowKit
set_option linter.unusedVariables false
section
variable {P : Program}
/-- append of one element to a row that lies from H on, at a plain region's list -/
theorem wpList_appH {ops : Array Oper} {rest : List Oper} {o : Oper} {a : Act} {Q : Exit → Act → World → Prop} {T tsl : TypeId} {z : Value} {size bytes : Nat} (hg : o.guard = none) (s x : Operand)
    (ho : o.op = .call { callee := .builtin .append, args := #[s, x], argTypes := #[tsl, tsl] }) (ht : P.underlying tsl = some (.slice T)) (hinfo : (P.info? T).map (fun i => (i.zero, i.size, i.bytes)) = some (some z, size, bytes))
    (hzs : z.cells.size = size) (hpos : 0 < size) {H : Nat} {wr : World} {v : Value} {n : Nat} {xs news : List Value} (hs : a.eval s = v) (hb : wr.ownsRow H T size v n xs) (hH : H ≤ wr.heap.size) (hx : a.eval x = .slice (some ⟨wr.heap.size, 0, none⟩) 1 1)
    (hn : news.length = size) (h1 : ∀ u ∈ news, u.oneCell' = true) (h63 : n + 1 ≤ maxLen) (hbytes : (n + 1) * bytes ≤ 140737488355328)
    (hK : ∀ g cap w', w'.ownsRow H T size (.slice (some ⟨g, 0, none⟩) (n + 1) cap) (n + 1) (xs ++ news) → (wr.alloc (.cells news.toArray T)).grownBy w' v.ownBlock → ((Value.slice (some ⟨g, 0, none⟩) (n + 1) cap).ownBlock = v.ownBlock ∨ (Value.slice (some ⟨g, 0, none⟩) (n + 1) cap).ownBlock = some (wr.alloc (.cells news.toArray T)).heap.size) → wpList P ops Q rest (a.put o.dst (.slice (some ⟨g, 0, none⟩) (n + 1) cap)) w') :
    wpList P ops Q (o :: rest) a (wr.alloc (.cells news.toArray T)) := by
  obtain ⟨i0, hi, hz0, hz1, hz2⟩ := info_parts hinfo
  refine wpList_append_lies (w := wr.alloc (.cells news.toArray T)) hg s x tsl ho H T i0 z size bytes ht hi hz0 hz1 hz2 hzs hpos v n xs hs (hb.alloc _) ⟨wr.heap.size, 0, none⟩ 1 1 news hx (by omega) ?_ h1 (by omega) h63 hbytes ?_ _ rfl ?_
  · intro j u hu
    have hadd : (⟨wr.heap.size, 0, none⟩ : Addr).add j = ⟨wr.heap.size, j, none⟩ := by unfold Addr.add; split <;> simp_all
    rw [hadd, World.cell?_alloc_new]
    simpa using hu
  · simp; omega
  · intro g cap w' hown hgr ho _
    refine hK g cap w' hown hgr ?_
    rcases ho with ho | ho
    · exact .inl ho.symm
    · exact .inr (by rw [ho]; rfl)
end
end Go.Proofs.YtmgdglghjlggnaaGreat
namespace Go.Proofs.YtmgdglghjlggnaaGreat
open Go.RowKit
set_option linter.unusedVariables false
/-- rules whose sides have at most m bytes -/
def ShortR (m : Nat) (R : List RulD) : Prop := ∀ r ∈ R, r.1.size ≤ m ∧ r.2.size ≤ m
theorem ShortR.app {m : Nat} {R : List RulD} {r : RulD} (h : ShortR m R) (hr : r.1.size ≤ m ∧ r.2.size ≤ m) : ShortR m (R ++ [r]) := by
  intro x hx
  rcases List.mem_append.1 hx with h1 | h1
  · exact h x h1
  · obtain rfl : x = r := by simpa using h1
    exact hr
theorem ShortR.sz {m : Nat} {R : List RulD} (h : ShortR m R) (hm : m ≤ maxLen) : SzR R := fun j hj => ⟨Nat.le_trans (h _ (nthR_mem hj)).1 hm, Nat.le_trans (h _ (nthR_mem hj)).2 hm⟩
/-- some system in memory -/
def RetPS (m : Nat) (w : World) (e : Ending) (w' : World) : Prop := ∃ (k : Int) (R : List RulD) (a : Option Addr) (cap : Nat) (b : Bool),
  (ShortR m R ∧ R.length ≤ m) ∧ e = .returned (.tuple #[.agg #[.int .i64 k, .slice a R.length cap], .bool b]) ∧ RulesIn w' a R ∧ Below w.heap.size w w'
theorem RetPS.zero {m : Nat} {w wr : World} (h : Below w.heap.size w wr) : RetPS m w (.returned (.tuple #[.agg #[.int .i64 0, .slice none 0 0], .bool false])) ((wr.setCell ⟨w.heap.size, 0, none⟩ (.int .i64 0)).setCell ⟨w.heap.size, 1, none⟩ (.slice none 0 0)) :=
  ⟨0, [], none, 0, false, ⟨fun r hr => by simp at hr, Nat.zero_le _⟩, rfl, .inl rfl, (h.setCell (Nat.le_refl _) _).setCell (Nat.le_refl _) _⟩
set_option maxRecDepth 20000 in
set_option maxHeartbeats 4000000 in
theorem specParseSystem_any (s : ByteArray) (w : World) (hs : s.size ≤ 1000) :
    Calls Tryz.prog 47 #[.string s] w (RetPS (s.size + 1) w) := by
  have HSP := Lib.hid (fun W => specSplitAny_any s 32 W (by omega))
  have HW1 := Lib.hid ((Below.refl w.heap.size w).alloc (Nat.le_refl _) (.cells #[.int .i64 0, .slice none 0 0] 67))
  go_enter Tryz.func47, Tryz.ntmps47
  go_wp2_with fail
  refine (HSP.out _).mono ?_
  rintro e w2 ⟨l, ⟨hl1, hl2, hl3⟩, a, cap, rfl, ho, hb2⟩
  have hb0 := (hb2.block w.heap.size (by simp)).trans (alloc_at w (.cells #[.int .i64 0, .slice none 0 0] 67))
  have hcap := owns_capS ho
  obtain ⟨g, hg, off, rfl, hcells⟩ : ∃ g, g < w2.heap.size ∧ ∃ off, a = some ⟨g, off, none⟩ ∧ ∀ j, j < l.length → w2.cell? ⟨g, off + j, none⟩ = some (.string (nthS l j)) := by
    obtain ⟨b, off, ha, hb, hc⟩ := (owns_strs ho).cell (show 0 < l.length by omega)
    exact ⟨b, hb, off, ha, hc⟩
  have hc0 : w2.cell? ⟨g, off, none⟩ = some (.string (nthS l 0)) := hcells 0 (by omega)
  have hz0 := hl1.at_ (show 0 < l.length by omega)
  have HPI := Lib.hid (fun W => specParseInt_any (nthS l 0) W (by omega))
  have HB2 := Lib.hid (Below.now HW1.out hb2)
  have HC := Lib.hid hcells
  have HO := Lib.hid hb0
  clear hcells hb2 ho hz0 hb0
  generalize nthS l 0 = s0 at *
  go_wp2_with fail
  refine (HPI.out _).mono ?_
  rintro e w3 ⟨n, b, ⟨hn1, hn2⟩, rfl, hb3⟩
  have hb0 := (hb3.block w.heap.size (Array.getElem?_eq_some_iff.1 HO.out).1).trans HO.out
  have HB3 := Lib.hid (Below.now HB2.out hb3)
  have HC3 : Hid (∀ j, j < l.length → w3.cell? ⟨g, off + j, none⟩ = some (.string (nthS l j))) := Lib.hid (fun j hj => by rw [hb3.cell (World.block_lt_of_cell? w2 _ (HC.out j hj))]; exact HC.out j hj)
  clear hb3 HC HO HPI hc0
  cases b
  · have F := Lib.hid (RetPS.zero (m := s.size + 1) HB3.out)
    obtain ⟨z0, z1⟩ := sys_cells hb0
    obtain ⟨u0, u1⟩ := sys_cells (set_two hb0 (.int .i64 0) (.slice none 0 0))
    have ff0 : w3.frozen? ⟨w.heap.size, 0, none⟩ = false := by simp [World.frozen?, hb0]
    have ff1 : w3.frozen? ⟨w.heap.size, 1, none⟩ = false := by simp [World.frozen?, hb0]
    clear hb0
    go_wp2_with fail
    refine bodyPost_ret (v := .tuple #[.agg #[.int .i64 0, .slice none 0 0], .bool false]) ?_ rfl F.out
    simp [results, Tryz.results47, go_sem, u0, u1]
  · have HR := Lib.hid (Rec2.start 67 89 2 (w := w3) (w1 := w3) (Below.refl _ _) (.int .i64 n))
    obtain ⟨m, hm⟩ : ∃ m, l.length = m + 1 := ⟨l.length - 1, by omega⟩
    have HZ := Lib.hid hb0
    clear hb0
    go_upto_region 6 with fail
    generalize hW4 : w3.alloc (.cells #[.int .i64 n, .slice none 0 0] 67) = w4 at *
    go_cut [27, 28, 29] (fun v u i wx => ∃ off2 cap2, v = .slice (some ⟨g, off2, none⟩) m cap2 ∧ u = .int .i64 (m : Nat) ∧ i = .int .i64 0 ∧ (∀ j, j < m → w3.cell? ⟨g, off2 + j, none⟩ = some (.string (nthS l (j + 1)))) ∧ wx = w4)
    case first =>
      by_cases hc1 : cap = 1
      · subst hc1
        obtain rfl : m = 0 := by omega
        go_wp2_with fail
        go_meet
        exact ⟨_, _, rfl, rfl, rfl, fun j hj => by omega, rfl⟩
      · have hc2 : (1 : Int) < (cap : Int) := by omega
        have hc3 : ¬ (cap : Int) = 1 := by omega
        have HCC : Hid (∀ j, j < m → w3.cell? ⟨g, off + 1 + j, none⟩ = some (.string (nthS l (j + 1)))) := Lib.hid (fun j hj => by rw [show off + 1 + j = off + (j + 1) by omega]; exact HC3.out (j + 1) (by omega))
        go_wp2_with fail
        go_meet
        exact ⟨_, _, rfl, rfl, rfl, HCC.out, rfl⟩
    case rest =>
      obtain ⟨off2, cap2, rfl, rfl, rfl, hcs, rfl⟩ := hcut
      have HCS := Lib.hid hcs
      clear hcs HC3 hW4
      go_wp2_with fail
      go_loopw [29] (fun i wr => ∃ (R : List RulD) (v : Value), R.length ≤ m ∧ i = .int .i64 (R.length : Nat) ∧ Hid (ShortR s.size R) ∧ Hid (Rec2 67 89 2 w3 wr w3.heap.size (.int .i64 n) v R.length (ruleCells R))) (fun i _ => m - (intOf i).toNat)
      case atStart => exact ⟨[], .slice none 0 0, Nat.zero_le _, rfl, Lib.hid (fun r hr => by simp at hr), HR⟩
      case round =>
        clear HR
        obtain ⟨R, v, hj, rfl, hsh, HRC⟩ := hrel
        obtain ⟨a3, c3, rfl⟩ := owns_form HRC.out.own
        have HBW := Lib.hid (Below.now HB3.out HRC.out.below)
        have hz := (HRC.out.below.block w.heap.size (Array.getElem?_eq_some_iff.1 HZ.out).1).trans HZ.out
        have hsz := HRC.out.lt
        by_cases hlt : R.length < m
        · have cw : wr.cell? ⟨g, off2 + R.length, none⟩ = some (.string (nthS l (R.length + 1))) := by rw [HRC.out.below.cell (World.block_lt_of_cell? w3 _ (HCS.out R.length hlt))]; exact HCS.out R.length hlt
          have hnz := hl1.at_ (show R.length + 1 < l.length by omega)
          have HPR := Lib.hid (fun W => specParseRule_any (nthS l (R.length + 1)) W (by omega))
          generalize nthS l (R.length + 1) = sj at *
          have HZW := Lib.hid hz
          clear hz
          go_wp2_with fail
          refine (HPR.out _).mono ?_
          rintro e w5 ⟨x, y, b, ⟨hx, hy⟩, rfl, hb5⟩
          have HR5 := Lib.hid (HRC.out.later hb5)
          have HB5 := Lib.hid (Below.now HBW.out hb5)
          have hz5 := (hb5.block w.heap.size (Array.getElem?_eq_some_iff.1 HZW.out).1).trans HZW.out
          have HK6 := Lib.hid (fun o => alloc_belowS w5 o)
          have hz := ((HK6.out (.cells #[.string x, .string y] 89)).block w.heap.size (Array.getElem?_eq_some_iff.1 hz5).1).trans hz5
          have HR6 := Lib.hid (HR5.out.later (HK6.out (.cells #[.string x, .string y] 89)))
          replace HBW := Lib.hid (Below.now HB5.out (HK6.out (.cells #[.string x, .string y] 89)))
          obtain ⟨n0, n1⟩ := sys_cells (alloc_at w5 (.cells #[.string x, .string y] 89))
          clear HRC HZW cw hb5 HR5 HB5 hz5 HK6 HPR
          go_upto_region 10 with fail
          generalize w5.alloc (.cells #[.string x, .string y] 89) = w6 at *
          cases b
          · have F := Lib.hid (RetPS.zero (m := s.size + 1) HBW.out)
            obtain ⟨z0, z1⟩ := sys_cells hz
            obtain ⟨u0, u1⟩ := sys_cells (set_two hz (.int .i64 0) (.slice none 0 0))
            have ff0 : w6.frozen? ⟨w.heap.size, 0, none⟩ = false := by simp [World.frozen?, hz]
            have ff1 : w6.frozen? ⟨w.heap.size, 1, none⟩ = false := by simp [World.frozen?, hz]
            clear hz
            go_wp2_with fail
            refine bodyPost_ret (v := .tuple #[.agg #[.int .i64 0, .slice none 0 0], .bool false]) ?_ rfl F.out
            simp [results, Tryz.results47, go_sem, u0, u1]
          · have HN1 : Hid ([Value.string x, .string y].length = 1 * 2) := Lib.hid rfl
            have HN2 : Hid (∀ v ∈ [Value.string x, .string y], v.oneCell' = true) := Lib.hid (fun v hv => by simp at hv; rcases hv with rfl | rfl <;> rfl)
            obtain ⟨_, y1, _, y3⟩ := HR6.out.facts
            clear hz
            go_wp2_with (at_builtin; refine wpList_appH (n := R.length) (wr := w6) (news := [Value.string x, .string y]) rfl (.tmp 42) (.tmp 44) rfl Tryz.underlying65 Tryz.infoRule rfl (by decide) rfl HR6.out.own HR6.out.lt rfl HN1.out HN2.out (by unfold maxLen; omega) (by omega) ?_; intro g4 c4 w4 ho4 hg4 hr4; obtain ⟨_, x1, _, x3⟩ := rec_cells (HR6.out.grown (Below.refl _ _) hg4))
            have HR4 : Hid (Rec2 67 89 2 w3 (w4.setCell ⟨w3.heap.size, 1, none⟩ (.slice (some ⟨g4, 0, none⟩) (R.length + 1) c4)) w3.heap.size (.int .i64 n) (.slice (some ⟨g4, 0, none⟩) (R.length + 1) c4) (R ++ [(x, y)]).length (ruleCells (R ++ [(x, y)]))) := Lib.hid (by
              rw [List.length_append, ruleCells_app, show ruleCells [(x, y)] = [Value.string x, .string y] from rfl]; exact HR6.out.put (Below.refl _ _) hg4 ho4)
            have HSH := Lib.hid (hsh.out.app (r := (x, y)) ⟨by show x.size ≤ s.size; omega, by show y.size ≤ s.size; omega⟩)
            clear ho4 hg4 hr4 y1 y3 n0 n1 x1 x3
            go_wp2_with fail
            go_roundw
            case rel => exact ⟨R ++ [(x, y)], _, by simp; omega, by simp, HSH, HR4⟩
            case measure => simp [intOf]; omega
        · obtain rfl : m = R.length := by omega
          have HRO := Lib.hid (fun W h => specRulesOk_any n R a3 c3 W h (by omega) (hsh.out.sz (by unfold maxLen; omega)))
          have HFS := Lib.hid (fun W h => specFormatSystem_any n R a3 c3 W h (by omega) (hsh.out.sz (by unfold maxLen; omega)))
          have HRI := Lib.hid (owns_rules HRC.out.own)
          obtain ⟨y0, y1, _, _⟩ := HRC.out.facts
          have HZW := Lib.hid hz
          clear hz
          go_wp2_with fail
          refine (HRO.out _ HRI.out).mono ?_
          rintro e w5 ⟨bb, hbb, rfl, hb5⟩
          have HR5 := Lib.hid (HRC.out.later hb5)
          replace HBW := Lib.hid (Below.now HBW.out hb5)
          have hz := (hb5.block w.heap.size (Array.getElem?_eq_some_iff.1 HZW.out).1).trans HZW.out
          clear HRC HZW hb5 HRO hbb y0 y1 HRI
          cases bb
          · have F := Lib.hid (RetPS.zero (m := s.size + 1) HBW.out)
            obtain ⟨z0, z1⟩ := sys_cells hz
            obtain ⟨u0, u1⟩ := sys_cells (set_two hz (.int .i64 0) (.slice none 0 0))
            have ff0 : w5.frozen? ⟨w.heap.size, 0, none⟩ = false := by simp [World.frozen?, hz]
            have ff1 : w5.frozen? ⟨w.heap.size, 1, none⟩ = false := by simp [World.frozen?, hz]
            clear hz
            go_wp2_with fail
            refine bodyPost_ret (v := .tuple #[.agg #[.int .i64 0, .slice none 0 0], .bool false]) ?_ rfl F.out
            simp [results, Tryz.results47, go_sem, u0, u1]
          · have HRI := Lib.hid (owns_rules HR5.out.own)
            obtain ⟨y0, y1, _, _⟩ := HR5.out.facts
            have HZW := Lib.hid hz
            clear hz
            go_wp2_with fail
            refine (HFS.out _ HRI.out).mono ?_
            rintro e w6 ⟨rfl, hb6⟩
            have HR6 := Lib.hid (HR5.out.later hb6)
            replace HBW := Lib.hid (Below.now HBW.out hb6)
            have hz := (hb6.block w.heap.size (Array.getElem?_eq_some_iff.1 HZW.out).1).trans HZW.out
            clear HR5 HZW hb6 HFS y0 y1 HRI
            generalize sysT0 n R = st at *
            cases hq : (st.toList == s.toList)
            · have F := Lib.hid (RetPS.zero (m := s.size + 1) HBW.out)
              obtain ⟨z0, z1⟩ := sys_cells hz
              obtain ⟨u0, u1⟩ := sys_cells (set_two hz (.int .i64 0) (.slice none 0 0))
              have ff0 : w6.frozen? ⟨w.heap.size, 0, none⟩ = false := by simp [World.frozen?, hz]
              have ff1 : w6.frozen? ⟨w.heap.size, 1, none⟩ = false := by simp [World.frozen?, hz]
              clear hz
              go_wp2_with fail
              refine bodyPost_ret (v := .tuple #[.agg #[.int .i64 0, .slice none 0 0], .bool false]) ?_ rfl F.out
              simp [results, Tryz.results47, go_sem, u0, u1]
            · have F : Hid (RetPS (s.size + 1) w (.returned (.tuple #[.agg #[.int .i64 n, .slice a3 R.length c3], .bool true])) ((w6.setCell ⟨w.heap.size, 0, none⟩ (.int .i64 n)).setCell ⟨w.heap.size, 1, none⟩ (.slice a3 R.length c3))) := Lib.hid ⟨n, R, a3, c3, true, ⟨fun r hr => ⟨Nat.le_trans (hsh.out r hr).1 (by omega), Nat.le_trans (hsh.out r hr).2 (by omega)⟩, by omega⟩, rfl,
                owns_rules (ownsRow_setCell_below (ownsRow_setCell_below HR6.out.own (by show w.heap.size < w3.heap.size + 1; have := HB3.out.size; omega) _) (by show w.heap.size < w3.heap.size + 1; have := HB3.out.size; omega) _), (HBW.out.setCell (Nat.le_refl _) _).setCell (Nat.le_refl _) _⟩
              obtain ⟨y0, y1, _, _⟩ := HR6.out.facts
              obtain ⟨z0, z1⟩ := sys_cells hz
              obtain ⟨u0, u1⟩ := sys_cells (set_two hz (.int .i64 n) (.slice a3 R.length c3))
              have ff0 : w6.frozen? ⟨w.heap.size, 0, none⟩ = false := by simp [World.frozen?, hz]
              have ff1 : w6.frozen? ⟨w.heap.size, 1, none⟩ = false := by simp [World.frozen?, hz]
              clear hz
              go_wp2_with fail
              refine bodyPost_ret (v := .tuple #[.agg #[.int .i64 n, .slice a3 R.length c3], .bool true]) ?_ rfl F.out
              simp [results, Tryz.results47, go_sem, u0, u1]
end Go.Proofs.YtmgdglghjlggnaaGreat
namespace Go.Proofs.YtmgdglghjlggnaaGreat
open Go.RowKit
set_option linter.unusedVariables false
def RetOri (k : Int) (w : World) (e : Ending) (w' : World) : Prop := ∃ (p : RulD) (b : Bool), (b = true → ruleP k p ∧ lessS p.2 p.1 = true) ∧ e = .returned (.tuple #[.agg #[.string p.1, .string p.2], .bool b]) ∧ Below w.heap.size w w'
theorem RetOri.zero {k : Int} {w wr : World} (h : Below w.heap.size w wr) : RetOri k w (.returned (.tuple #[.agg #[.string ⟨#[]⟩, .string ⟨#[]⟩], .bool false])) ((wr.setCell ⟨w.heap.size + 1, 0, none⟩ (.string ⟨#[]⟩)).setCell ⟨w.heap.size + 1, 1, none⟩ (.string ⟨#[]⟩)) :=
  ⟨(⟨#[]⟩, ⟨#[]⟩), false, fun h => Bool.noConfusion h, rfl, (h.setCell (by show w.heap.size ≤ w.heap.size + 1; omega) _).setCell (by show w.heap.size ≤ w.heap.size + 1; omega) _⟩
theorem RetOri.some {k : Int} {w wr : World} {x y : ByteArray} (hr : ruleP k (x, y)) (hl : lessS y x = true) (h : Below w.heap.size w wr) : RetOri k w (.returned (.tuple #[.agg #[.string x, .string y], .bool true])) ((wr.setCell ⟨w.heap.size + 1, 0, none⟩ (.string x)).setCell ⟨w.heap.size + 1, 1, none⟩ (.string y)) :=
  ⟨(x, y), true, fun _ => ⟨hr, hl⟩, rfl, (h.setCell (by show w.heap.size ≤ w.heap.size + 1; omega) _).setCell (by show w.heap.size ≤ w.heap.size + 1; omega) _⟩
end Go.Proofs.YtmgdglghjlggnaaGreat
namespace Go.Proofs.YtmgdglghjlggnaaGreat
open Go.RowKit
set_option linter.unusedVariables false
end Go.Proofs.YtmgdglghjlggnaaGreat
namespace Go.Proofs.YtmgdglghjlggnaaGreat
open Go.RowKit
set_option linter.unusedVariables false
end Go.Proofs.YtmgdglghjlggnaaGreat
