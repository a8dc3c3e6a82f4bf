/-
  The laws' own functions over rows of numbers: count, has, same; and ProductOf at a valid table.
-/
import Derived.Test.YtngbimgabcacpaaGreatGrp28
import Derived.Test.YtngbimgabcacpaaGreatGrp29
import Derived.Test.YtngbimgabcacpaaGreatGrp22
namespace Go.Proofs.YtngbimgabcacpaaGreat
open Go.RowKit
set_option linter.unusedVariables false
/-- how often a number is in a list -/
def cntZ (l : List Int) (x : Int) : Nat := (l.filter fun y => decide (y = x)).length
def cntZTo (l : List Int) (x : Int) (j : Nat) : Nat := cntZ (l.take j) x
theorem cntZTo_le (l : List Int) (x : Int) (j : Nat) : cntZTo l x j ≤ l.length := Nat.le_trans (List.length_filter_le _ _) (by rw [List.length_take]; omega)
theorem cntZTo_succ {l : List Int} {x : Int} {j : Nat} (hj : j < l.length) : cntZTo l x (j + 1) = if nthZ l j = x then cntZTo l x j + 1 else cntZTo l x j := by
  unfold cntZTo cntZ
  rw [List.take_add_one, List.getElem?_eq_getElem hj, List.filter_append, List.length_append]
  have e : nthZ l j = l[j] := by unfold nthZ; rw [List.getD_eq_getElem?_getD, List.getElem?_eq_getElem hj]; rfl
  rw [e]
  by_cases h : l[j] = x
  · simp [h]
  · simp [h]
theorem cntZTo_all {l : List Int} {x : Int} {j : Nat} (hj : ¬ j < l.length) : cntZTo l x j = cntZ l x := by
  unfold cntZTo; rw [List.take_of_length_le (by omega)]
theorem cntZ_pos (l : List Int) (x : Int) : decide (0 < cntZ l x) = decide (x ∈ l) := by
  rw [decide_eq_decide]
  unfold cntZ
  rw [List.length_pos_iff_exists_mem]
  constructor
  · rintro ⟨y, hy⟩
    obtain ⟨h1, h2⟩ := List.mem_filter.1 hy
    rw [← of_decide_eq_true h2]; exact h1
  · intro h
    exact ⟨x, List.mem_filter.2 ⟨h, by simp⟩⟩
set_option maxHeartbeats 1000000 in
theorem lawCount_any (l : List Int) (a : Option Addr) (cap : Nat) (x : Int) (w : World) (hl : IntsIn w a l) (hlen : l.length ≤ 2 ^ 47) :
    Calls Tryz.prog 15 #[.slice a l.length cap, .int .i64 x] w fun e w' => e = .returned (.int .i64 ((cntZ l x : Nat) : Int)) ∧ w' = w := by
  have HL := Lib.hid hl
  have HC0 : Hid (cntZTo l x 0 = 0) := Lib.hid (by simp [cntZTo, cntZ])
  clear hl
  go_enter Tryz.func15, Tryz.ntmps15
  go_wp2_with fail
  go_loop [5, 10] (fun k i => ∃ j c : Nat, j ≤ l.length ∧ i = .int .i64 (j : Nat) ∧ k = .int .i64 (c : Nat) ∧ Hid (c = cntZTo l x j) ∧ c ≤ j) (fun _ i => l.length - (intOf i).toNat)
  case atStart => exact ⟨0, 0, Nat.zero_le _, rfl, rfl, Lib.hid HC0.out.symm, Nat.le_refl _⟩
  case round =>
    obtain ⟨j, c, hj, rfl, rfl, hc, hcj⟩ := hrel
    by_cases hlt : j < l.length
    · obtain ⟨b, off, rfl, hb, hcell⟩ := HL.out.cell hlt
      have h1 := hcell j hlt
      have HS := Lib.hid (cntZTo_succ (x := x) hlt)
      clear hcell
      cases hq : (nthZ l j == x)
      · have F : Hid (c = cntZTo l x (j + 1)) := Lib.hid (by rw [HS.out, if_neg (by simpa using hq)]; exact hc.out)
        go_wp2_with fail
        go_round
        case rel => exact ⟨j + 1, c, by omega, by go_num, rfl, F, by omega⟩
        case measure => simp [intOf]; omega
      · have F : Hid (c + 1 = cntZTo l x (j + 1)) := Lib.hid (by rw [HS.out, if_pos (by simpa using hq)]; exact congrArg (· + 1) hc.out)
        go_wp2_with fail
        go_round
        case rel => exact ⟨j + 1, c + 1, by omega, by go_num, by go_num, F, by omega⟩
        case measure => simp [intOf]; omega
    · have F : Hid (c = cntZ l x) := Lib.hid (hc.out.trans (cntZTo_all hlt))
      go_wp2_with fail
      go_ret
      exact ⟨ret_int (by rw [F.out]), rfl⟩
set_option maxHeartbeats 400000 in
theorem lawHas_any (l : List Int) (a : Option Addr) (cap : Nat) (x : Int) (w : World) (hl : IntsIn w a l) (hlen : l.length ≤ 2 ^ 47) :
    Calls Tryz.prog 14 #[.slice a l.length cap, .int .i64 x] w fun e w' => e = .returned (.bool (decide (x ∈ l))) ∧ w' = w := by
  have HC := Lib.hid (lawCount_any l a cap x w hl hlen)
  have HP := Lib.hid (cntZ_pos l x)
  clear hl
  go_enter Tryz.func14, Tryz.ntmps14
  go_wp2_with fail
  refine HC.out.mono ?_
  rintro e w2 ⟨rfl, rfl⟩
  go_wp2_with fail
  go_ret
  exact ⟨ret_bool (by rw [← HP.out]), rfl⟩
set_option maxHeartbeats 1000000 in
theorem lawSame_any (xs ys : List Int) (ax ay : Option Addr) (cx cy : Nat) (w : World) (hx : IntsIn w ax xs) (hy : IntsIn w ay ys) (hxl : xs.length ≤ 2 ^ 47) (hyl : ys.length ≤ 2 ^ 47) :
    Calls Tryz.prog 30 #[.slice ax xs.length cx, .slice ay ys.length cy] w fun e w' => e = .returned (.bool (decide (xs = ys))) ∧ w' = w := by
  have HX := Lib.hid hx
  have HY := Lib.hid hy
  clear hx hy
  cases hn : (((xs.length : Nat) : Int) != ((ys.length : Nat) : Int))
  rotate_left
  · have F : Hid (decide (xs = ys) = false) := Lib.hid (decide_eq_false (by rintro rfl; simp at hn))
    go_enter Tryz.func30, Tryz.ntmps30
    go_wp2_with fail
    go_ret
    exact ⟨ret_bool F.out.symm, rfl⟩
  have hxy : xs.length = ys.length := by simp at hn; omega
  have HE := Lib.hid hxy
  clear hxy
  go_enter Tryz.func30, Tryz.ntmps30
  go_wp2_with fail
  go_loop [14] (fun i => ∃ j : Nat, j ≤ xs.length ∧ i = .int .i64 (j : Nat) ∧ Hid (xs.take j = ys.take j)) (fun i => xs.length - (intOf i).toNat)
  case atStart => exact ⟨0, Nat.zero_le _, rfl, Lib.hid rfl⟩
  case round =>
    obtain ⟨j, hj, rfl, ht⟩ := hrel
    by_cases hlt : j < xs.length
    · have hlt2 : j < ys.length := by rw [← HE.out]; exact hlt
      obtain ⟨b, off, rfl, hb, hcell⟩ := HX.out.cell hlt
      obtain ⟨b2, off2, rfl, hb2, hcell2⟩ := HY.out.cell hlt2
      have h1 := hcell j hlt
      have h2 := hcell2 j hlt2
      have e1 : Hid (nthZ xs j = xs[j] ∧ nthZ ys j = ys[j]) := Lib.hid (by unfold nthZ; rw [List.getD_eq_getElem?_getD, List.getElem?_eq_getElem hlt, List.getD_eq_getElem?_getD, List.getElem?_eq_getElem hlt2]; exact ⟨rfl, rfl⟩)
      clear hcell hcell2
      cases hq : (nthZ xs j != nthZ ys j)
      · have F : Hid (xs.take (j + 1) = ys.take (j + 1)) := Lib.hid (by
          rw [List.take_add_one, List.take_add_one, ht.out, List.getElem?_eq_getElem hlt, List.getElem?_eq_getElem hlt2, ← e1.out.1, ← e1.out.2]
          have : nthZ xs j = nthZ ys j := by simpa using hq
          rw [this])
        go_wp2_with fail
        go_round
        case rel => exact ⟨j + 1, by omega, by go_num, F⟩
        case measure => simp [intOf]; omega
      · have F : Hid (decide (xs = ys) = false) := Lib.hid (decide_eq_false (by rintro rfl; simp at hq))
        go_wp2_with fail
        go_ret
        exact ⟨ret_bool F.out.symm, rfl⟩
    · have F : Hid (decide (xs = ys) = true) := Lib.hid (decide_eq_true (by
        have := ht.out
        rw [List.take_of_length_le (by omega), List.take_of_length_le (by rw [← HE.out]; omega)] at this
        exact this))
      go_wp2_with fail
      go_ret
      exact ⟨ret_bool F.out.symm, rfl⟩
set_option maxHeartbeats 1000000 in
theorem implProductOf_ok (m : Nat) (l : List Int) (a : Option Addr) (cap i k : Nat) (w : World) (hl : IntsIn w a l) (hT : TabG m l) (hi : i < m) (hk : k < m) :
    Calls Tryz.prog 12 #[.agg #[.int .i64 (m : Nat), .slice a l.length cap], .int .i64 (i : Nat), .int .i64 (k : Nat)] w fun e w' => e = .returned (.tuple #[.int .i64 ((tm m (l.map Int.toNat) i k : Nat) : Int), .bool true]) ∧ Below w.heap.size w w' := by
  have hlen : l.length ≤ 1600 := by
    obtain ⟨ln, rfl, h⟩ := hT
    rw [List.length_map, h.len]; exact sq_le h.hi
  have HB1 := Lib.hid ((Below.refl w.heap.size w).alloc (Nat.le_refl _) (.cells #[.int .i64 (m : Nat), .slice a l.length cap] 25))
  have HX : Hid (∀ W, Below (w.alloc (.cells #[.int .i64 (m : Nat), .slice a l.length cap] 25)).heap.size (w.alloc (.cells #[.int .i64 (m : Nat), .slice a l.length cap] 25)) W → W.cell? ⟨w.heap.size, 0, none⟩ = some (.int .i64 (m : Nat)) ∧ W.cell? ⟨w.heap.size, 1, none⟩ = some (.slice a l.length cap)) := Lib.hid (fun W hW => ⟨by rw [hW.cell (by simp)]; simp, by rw [hW.cell (by simp)]; simp⟩)
  have HTO := Lib.hid (fun W (h : IntsIn W a l) => implTableOk_any (m : Nat) l a cap W h (by omega))
  rw [hT.tab] at HTO
  obtain ⟨hm1, hm2⟩ : 1 ≤ m ∧ m ≤ 40 := by obtain ⟨ln, _, h⟩ := hT; exact ⟨h.lo, h.hi⟩
  have hbi : inB (i : Int) 0 ((m : Int) - 1) = true := by unfold inB; simp; omega
  have hbk : inB (k : Int) 0 ((m : Int) - 1) = true := by unfold inB; simp; omega
  have HHI := Lib.hid (fun W => has_any m (i : Int) (.slice a l.length cap) W hm1 hm2)
  have HHK := Lib.hid (fun W => has_any m (k : Int) (.slice a l.length cap) W hm1 hm2)
  rw [hbi] at HHI
  rw [hbk] at HHK
  have HTM : Hid (∀ W, IntsIn W a l → Calls Tryz.prog 42 #[.agg #[.int .i64 (m : Nat), .slice a l.length cap], .int .i64 (i : Nat), .int .i64 (k : Nat)] W fun e w' => e = .returned (.int .i64 (tm m (l.map Int.toNat) i k : Nat)) ∧ Below W.heap.size W w') := Lib.hid (fun W h => by
    obtain ⟨ln, rfl, hT⟩ := hT
    rw [map_toNat]
    exact implTimes_any m ln a _ cap i k W h hT.toTb (by rw [List.length_map]; exact hT.len) hi hk)
  have HL := Lib.hid hl
  generalize tm m (l.map Int.toNat) i k = q at *
  clear hl hT hbi hbk
  go_enter Tryz.func12, Tryz.ntmps12
  go_wp2_with fail
  generalize w.alloc (.cells #[.int .i64 (m : Nat), .slice a l.length cap] 25) = w1 at *
  refine (HTO.out _ (HL.out.later HB1.out)).mono ?_
  rintro e w2 ⟨rfl, hb2⟩
  have HB2 := Lib.hid hb2
  obtain ⟨z0, z1⟩ := HX.out _ hb2
  clear hb2
  go_wp2_with fail
  refine (HHI.out _).mono ?_
  rintro e w3 ⟨rfl, hb3⟩
  have HB3 := Lib.hid (Below.now HB2.out hb3)
  clear hb3 z0 z1
  obtain ⟨z0, z1⟩ := HX.out _ HB3.out
  go_wp2_with fail
  refine (HHK.out _).mono ?_
  rintro e w4 ⟨rfl, hb4⟩
  have HB4 := Lib.hid (Below.now HB3.out hb4)
  clear hb4 z0 z1
  obtain ⟨z0, z1⟩ := HX.out _ HB4.out
  go_wp2_with fail
  refine (HTM.out _ (HL.out.later (Below.now HB1.out HB4.out))).mono ?_
  rintro e w5 ⟨rfl, hb5⟩
  have HB5 := Lib.hid (Below.now HB4.out hb5)
  clear hb5 z0 z1
  go_wp2_with fail
  go_ret2
  exact ⟨rfl, Below.now HB1.out HB5.out⟩
end Go.Proofs.YtngbimgabcacpaaGreat
