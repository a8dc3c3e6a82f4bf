/-
  l06Pairs of the reference: the sides of the pairs with the last rule.
-/
import Derived.Test.YtoddpmdjjgnpgaaGreatDoorGra05
import Derived.Test.YtoddpmdjjgnpgaaGreatDoorGra08
import Derived.Test.YtoddpmdjjgnpgaaGreatDoorGra04
import Derived.Test.YtoddpmdjjgnpgaaGreatDoorGra06
namespace Go.Proofs.YtoddpmdjjgnpgaaGreatDoor
open Go.RowKit
set_option linter.unusedVariables false
set_option maxHeartbeats 1000000 in
theorem specIsDigits_x (s : ByteArray) (w : World) (hs : s.size ≤ maxLen) (h0 : 0 < s.size) (hd : digP s) :
    Calls Tryz.prog 173 #[.string s] w fun e w' => e = .returned (.bool true) ∧ w = w' := by
  unfold maxLen at hs
  have HD := Lib.hid hd
  clear hd
  go_enter Tryz.func173, Tryz.ntmps173
  go_wp2_with fail
  go_loop [3] (fun i => ∃ j : Nat, j ≤ s.size ∧ i = .int .i64 j) (fun i => s.size - (intOf i).toNat)
  case atStart => exact ⟨0, Nat.zero_le _, rfl⟩
  case round =>
    obtain ⟨j, hj, rfl⟩ := hrel
    by_cases hlt : j < s.size
    · have hb := byte_lt s[j]
      have h1 : ¬ ((s[j]'hlt).toNat : Int) < 48 := by have := (HD.out j hlt).1; omega
      have h2 : ¬ (57 : Int) < ((s[j]'hlt).toNat : Int) := by have := (HD.out j hlt).2; omega
      go_wp2
      go_round
      case rel => exact ⟨j + 1, by omega, by go_num⟩
      case measure => simp [intOf]; omega
    · obtain rfl : j = s.size := by omega
      have hpos : (0 : Int) < (s.size : Int) := by omega
      go_wp2
      go_ret
      exact ⟨rfl, rfl⟩
/-- the text of one digit -/
def dgB (d : Nat) : ByteArray := ⟨#[UInt8.ofNat (48 + d)]⟩
theorem dgB_at {d : Nat} (h : d < 10) : ((dgB d)[0]'(Nat.zero_lt_one)).toNat = 48 + d := by
  show (UInt8.ofNat (48 + d)).toNat = 48 + d
  simp; omega
theorem numB_dg {d : Nat} (h : d < 10) : numB (d : Int) = dgB d := by
  unfold numB dgB Lib.itoa
  rw [if_neg (by omega), Int.toNat_natCast, Lib.decDigits, dif_pos h]
set_option maxRecDepth 20000 in
set_option maxHeartbeats 4000000 in
theorem specParseInt_x (d : Nat) (w : World) (hd : d < 10) :
    Calls Tryz.prog 133 #[.string (dgB d)] w fun e w' => e = .returned (.tuple #[.int .i64 (d : Nat), .bool true]) ∧ Below w.heap.size w w' := by
  have hz : (dgB d).size = 1 := rfl
  obtain ⟨h0, hb0⟩ : ∃ h0 : 0 < (dgB d).size, ((dgB d)[0]'h0).toNat = 48 + d := ⟨by rw [hz]; omega, dgB_at hd⟩
  have HD := Lib.hid (fun W => specIsDigits_x (dgB d) W (by rw [hz]; unfold maxLen; omega) (by rw [hz]; omega) (fun j hj => by
    obtain rfl : j = 0 := by rw [hz] at hj; omega
    have h : ((dgB d)[0]'hj).toNat = 48 + d := hb0
    rw [h]; omega))
  have HF := Lib.hid (fun W => specFormatInt_any ((d : Nat) : Int) W (by omega) (by omega))
  have HNB : Hid ((⟨(Lib.itoa (d : Int)).toArray⟩ : ByteArray) = dgB d) := Lib.hid (numB_dg hd)
  rw [HNB.out] at HF
  have hq : ((dgB d).toList == (dgB d).toList) = true := by simp
  generalize dgB d = s at *
  have hne : (((s[0]'h0).toNat : Int) == 45) = false := by rw [beq_eq_false_iff_ne]; omega
  have hdv : decide ((0 : Int) < (-9223372036854775808 + (((s[0]'h0).toNat : Int) - 48)).tdiv 10) = false := by
    rw [decide_eq_false_iff_not, show -9223372036854775808 + (((s[0]'h0).toNat : Int) - 48) = -(9223372036854775808 - (d : Int)) by omega, Int.neg_tdiv, Int.tdiv_eq_ediv_of_nonneg (by omega)]
    omega
  have hlo : 48 ≤ ((s[0]'h0).toNat : Int) := by omega
  have hhi : ((s[0]'h0).toNat : Int) ≤ 57 := by omega
  have HB0 := Lib.hid hb0
  have HDV := Lib.hid hdv
  clear hb0 hdv
  go_enter Tryz.func133, Tryz.ntmps133
  go_wp2_with fail
  refine (HD.out _).mono ?_
  rintro e w2 ⟨rfl, rfl⟩
  go_wp2_with fail
  go_loop [6, 7] (fun n i => ∃ (j : Nat) (m : Int), j ≤ 1 ∧ i = .int .i64 (j : Nat) ∧ n = .int .i64 m ∧ Hid (m = - ((j * d : Nat) : Int)) ∧ -9 ≤ m ∧ m ≤ 0) (fun _ i => 1 - (intOf i).toNat)
  case atStart => exact ⟨0, 0, Nat.zero_le _, rfl, rfl, Lib.hid (by simp), by omega, by omega⟩
  case round =>
    obtain ⟨j, m, hj, rfl, rfl, hm, hm1, hm2⟩ := hrel
    by_cases hlt : j = 0
    · subst hlt
      have hm0 : m = 0 := by have := hm.out; omega
      have hq : ¬ m < (-9223372036854775808 + (((s[0]'h0).toNat : Int) - 48)).tdiv 10 := by rw [hm0]; exact of_decide_eq_false HDV.out
      have hq2 : decide (m < (-9223372036854775808 + (((s[0]'h0).toNat : Int) - 48)).tdiv 10) = false := decide_eq_false hq
      have hr1 : -9223372036854775808 ≤ m * 10 - (((s[0]'h0).toNat : Int) - 48) := by omega
      have hr2 : m * 10 - (((s[0]'h0).toNat : Int) - 48) ≤ 0 := by omega
      have HNX : Hid (m * 10 - (((s[0]'h0).toNat : Int) - 48) = - ((1 * d : Nat) : Int)) := Lib.hid (by have := HB0.out; omega)
      have hr3 : -9 ≤ m * 10 - (((s[0]'h0).toNat : Int) - 48) := by omega
      have hj1 : (0 : Int) < (s.size : Int) := by omega
      clear hm hm0
      go_wp2_with fail
      go_round
      case rel => exact ⟨1, _, by omega, by go_num, rfl, HNX, hr3, hr2⟩
      case measure => simp [intOf]
    · obtain rfl : j = 1 := by omega
      have hm0 := hm.out
      have e : m = - (d : Int) := by rw [hm0]; simp
      subst e
      have hmne : ((- (d : Int)) == -9223372036854775808) = false := by rw [beq_eq_false_iff_ne]; omega
      have hj1 : ¬ (1 : Int) < (s.size : Int) := by omega
      have hneg : - - (d : Int) = (d : Int) := by omega
      clear hm
      go_wp2_with fail
      refine (HF.out _).mono ?_
      rintro e w3 ⟨rfl, hb3⟩
      have HB3 := Lib.hid hb3
      clear hb3
      go_wp2_with fail
      refine bodyPost_ret (v := .tuple #[.int .i64 (d : Nat), .bool true]) ?_ rfl ⟨rfl, HB3.out⟩
      simp [results, Tryz.results133, go_sem]
/-- a side's text, read -/
def undot (s : ByteArray) : ByteArray := if (s.data.toList == [46]) = true then ⟨#[]⟩ else s
theorem undot_yes {s : ByteArray} (h : (s.toList == [46]) = true) : undot s = ⟨#[]⟩ := by
  rw [Lib.toList_data] at h
  exact if_pos h
theorem undot_no {s : ByteArray} (h : (s.toList == [46]) = false) : undot s = s := by
  rw [Lib.toList_data] at h
  exact if_neg (by rw [h]; exact Bool.noConfusion)
theorem undot_size (s : ByteArray) : (undot s).size ≤ s.size := by
  unfold undot
  split
  · exact Nat.zero_le _
  · exact Nat.le_refl _
/-- a rule's text and the rule -/
structure RuleTx (s : ByteArray) (u v : ByteArray) : Prop where
  size : s.size ≤ 2 ^ 20
  small : u.size ≤ s.size ∧ v.size ≤ s.size
  split : splitB s 62 = [u, v]
  w1 : wordOkB 4 (undot u) = true
  w2 : wordOkB 4 (undot v) = true
  text : (ruleT (undot u, undot v)).toList = s.toList
/-- two strings in a row of their own -/
def TwoX (B : Nat) (w wr : World) (v : Value) (x y : ByteArray) : Prop := wr.ownsRow (B + 1) 9 1 v 2 [.string x, .string y] ∧ Below B w wr ∧ wr.heap[B]? = some (.cells #[.string ⟨#[]⟩, .string ⟨#[]⟩] 120 (0, 0))
theorem TwoX.form {B : Nat} {w wr : World} {a : Option Addr} {n cap : Nat} {x y : ByteArray} (h : TwoX B w wr (.slice a n cap) x y) : ∃ g, a = some ⟨g, 0, none⟩ ∧ B + 1 ≤ g ∧ n = 2 := by
  obtain ⟨ho, hb, h0⟩ := h
  rcases ho.2 with ⟨hv, h0⟩ | ⟨g, cap', cur, hv, hb', r⟩
  · cases h0
  · simp only [Value.slice.injEq] at hv
    exact ⟨g, hv.1, hb', hv.2.1⟩
theorem TwoX.blk {B : Nat} {wr : World} {g : Nat} {o : Nat} {z : Value} {O : Option Obj} (h0 : wr.heap[B]? = O) (hg : B + 1 ≤ g) : (wr.setCell ⟨g, o, none⟩ z).heap[B]? = O := by
  rw [← h0]
  unfold World.setCell
  rw [Array.getElem?_modify, if_neg (by show ¬ g = B; omega)]
theorem TwoX.store0 {B : Nat} {w wr : World} {g cap : Nat} {x y : ByteArray} (h : TwoX B w wr (.slice (some ⟨g, 0, none⟩) 2 cap) x y) (hg : B + 1 ≤ g) (z : ByteArray) : TwoX B w (wr.setCell ⟨g, 0, none⟩ (.string z)) (.slice (some ⟨g, 0, none⟩) 2 cap) z y := by
  obtain ⟨ho, hb, h0⟩ := h
  exact ⟨(ho.stored 0 (.string z)).1, hb.setCell (by show B ≤ g; omega) _, TwoX.blk h0 hg⟩
theorem TwoX.store1 {B : Nat} {w wr : World} {g cap : Nat} {x y : ByteArray} (h : TwoX B w wr (.slice (some ⟨g, 0, none⟩) 2 cap) x y) (hg : B + 1 ≤ g) (z : ByteArray) : TwoX B w (wr.setCell ⟨g, 1, none⟩ (.string z)) (.slice (some ⟨g, 0, none⟩) 2 cap) x z := by
  obtain ⟨ho, hb, h0⟩ := h
  exact ⟨(ho.stored 1 (.string z)).1, hb.setCell (by show B ≤ g; omega) _, TwoX.blk h0 hg⟩
def stX (u v : ByteArray) (j : Nat) : ByteArray × ByteArray := if j = 0 then (u, v) else if j = 1 then (undot u, v) else (undot u, undot v)
set_option maxRecDepth 20000 in
set_option maxHeartbeats 4000000 in
theorem specParseRule_x (s u v : ByteArray) (w : World) (hs : RuleTx s u v) :
    Calls Tryz.prog 134 #[.string s] w fun e w' => e = .returned (.tuple #[.agg #[.string (undot u), .string (undot v)], .bool true]) ∧ Below w.heap.size w w' := by
  have HSP := Lib.hid (fun W => specSplitAny_x s 62 W hs.size)
  have HX := Lib.hid hs
  have hzs := hs.size
  have hzu := hs.small.1
  have hzv := hs.small.2
  have hz1 : (⟨#[]⟩ : ByteArray).size = 0 := rfl
  clear hs
  rw [HX.out.split] at HSP
  go_enter Tryz.func134, Tryz.ntmps134
  go_wp2_with fail
  refine (HSP.out _).mono ?_
  rintro e w2 ⟨a, cap, rfl, ho, hb2⟩
  have hb0 := (hb2.block w.heap.size (by simp)).trans (alloc_at w (.cells #[.string ⟨#[]⟩, .string ⟨#[]⟩] 120))
  have HW1 := Lib.hid ((Below.refl w.heap.size w).alloc (Nat.le_refl _) (.cells #[.string ⟨#[]⟩, .string ⟨#[]⟩] 120))
  have HT : Hid (TwoX w.heap.size w w2 (.slice a 2 cap) u v) := Lib.hid ⟨by simpa [strVals] using ho, Below.now HW1.out hb2, hb0⟩
  have HZ0 : Hid (w2.heap[w.heap.size]? = some (.cells #[.string ⟨#[]⟩, .string ⟨#[]⟩] 120 (0, 0))) := Lib.hid hb0
  clear hb2 ho hb0 HSP
  obtain ⟨g, rfl, hg, _⟩ := HT.out.form
  simp only [List.length_cons, List.length_nil, Nat.zero_add, Nat.reduceAdd]
  go_wp2_with fail
  go_loopw [16] (fun i wr => ∃ j : Nat, j ≤ 2 ∧ i = .int .i64 (j : Nat) ∧ Hid (TwoX w.heap.size w wr (.slice (some ⟨g, 0, none⟩) 2 cap) (stX u v j).1 (stX u v j).2)) (fun i _ => 2 - (intOf i).toNat)
  case atStart => exact ⟨0, by omega, rfl, HT⟩
  case round =>
    clear HT HZ0
    obtain ⟨j, hj, rfl, HT⟩ := hrel
    have hj3 : j = 0 ∨ j = 1 ∨ j = 2 := by omega
    rcases hj3 with rfl | rfl | rfl
    · have HT0 : Hid (TwoX w.heap.size w wr (.slice (some ⟨g, 0, none⟩) 2 cap) u v) := HT
      clear HT
      obtain ⟨ho, hb, h0⟩ := HT0.out
      have c0 : wr.cell? ⟨g, 0, none⟩ = some (.string u) := ho.cellAt 0 (by omega)
      have f0 := ho.frozenAt 0
      cases hq : (u.toList == [46])
      · have HN : Hid (TwoX w.heap.size w wr (.slice (some ⟨g, 0, none⟩) 2 cap) (stX u v 1).1 (stX u v 1).2) := Lib.hid (by
          have e := undot_no hq
          show TwoX w.heap.size w wr (.slice (some ⟨g, 0, none⟩) 2 cap) (undot u) v
          rw [e]; exact HT0.out)
        clear ho hb h0
        go_wp2_with fail
        go_roundw
        case rel => exact ⟨1, by omega, by go_num, HN⟩
        case measure => simp [intOf]
      · have HN : Hid (TwoX w.heap.size w (wr.setCell ⟨g, 0, none⟩ (.string ⟨#[]⟩)) (.slice (some ⟨g, 0, none⟩) 2 cap) (stX u v 1).1 (stX u v 1).2) := Lib.hid (by
          have e := undot_yes hq
          show TwoX w.heap.size w _ (.slice (some ⟨g, 0, none⟩) 2 cap) (undot u) v
          rw [e]; exact HT0.out.store0 hg _)
        clear ho hb h0
        go_wp2_with fail
        go_roundw
        case rel => exact ⟨1, by omega, by go_num, HN⟩
        case measure => simp [intOf]
    · have HT0 : Hid (TwoX w.heap.size w wr (.slice (some ⟨g, 0, none⟩) 2 cap) (undot u) v) := HT
      clear HT
      obtain ⟨ho, hb, h0⟩ := HT0.out
      have c1 : wr.cell? ⟨g, 1, none⟩ = some (.string v) := ho.cellAt 1 (by omega)
      have f1 := ho.frozenAt 1
      cases hq : (v.toList == [46])
      · have HN : Hid (TwoX w.heap.size w wr (.slice (some ⟨g, 0, none⟩) 2 cap) (stX u v 2).1 (stX u v 2).2) := Lib.hid (by
          have e := undot_no hq
          show TwoX w.heap.size w wr (.slice (some ⟨g, 0, none⟩) 2 cap) (undot u) (undot v)
          rw [e]; exact HT0.out)
        clear ho hb h0
        go_wp2_with fail
        go_roundw
        case rel => exact ⟨2, by omega, by go_num, HN⟩
        case measure => simp [intOf]
      · have HN : Hid (TwoX w.heap.size w (wr.setCell ⟨g, 1, none⟩ (.string ⟨#[]⟩)) (.slice (some ⟨g, 0, none⟩) 2 cap) (stX u v 2).1 (stX u v 2).2) := Lib.hid (by
          have e := undot_yes hq
          show TwoX w.heap.size w _ (.slice (some ⟨g, 0, none⟩) 2 cap) (undot u) (undot v)
          rw [e]; exact HT0.out.store1 hg _)
        clear ho hb h0
        go_wp2_with fail
        go_roundw
        case rel => exact ⟨2, by omega, by go_num, HN⟩
        case measure => simp [intOf]
    · have HT0 : Hid (TwoX w.heap.size w wr (.slice (some ⟨g, 0, none⟩) 2 cap) (undot u) (undot v)) := HT
      clear HT
      obtain ⟨ho, hb, h0⟩ := HT0.out
      have H0 := Lib.hid h0
      have hx : (undot u).size ≤ s.size := Nat.le_trans (undot_size u) hzu
      have hy : (undot v).size ≤ s.size := Nat.le_trans (undot_size v) hzv
      have h1 := HX.out.w1
      have h2 := HX.out.w2
      have hq : ((ruleT (undot u, undot v)).toList == s.toList) = true := by rw [HX.out.text]; simp
      clear HX HT0
      obtain ⟨x, hxe⟩ : ∃ x, undot u = x := ⟨_, rfl⟩
      obtain ⟨y, hye⟩ : ∃ y, undot v = y := ⟨_, rfl⟩
      rw [hxe] at ho hx h1 hq
      rw [hye] at ho hy h2 hq
      have HXE := Lib.hid hxe
      have HYE := Lib.hid hye
      clear hxe hye
      have c0 : wr.cell? ⟨g, 0, none⟩ = some (.string x) := ho.cellAt 0 (by omega)
      have c1 : wr.cell? ⟨g, 1, none⟩ = some (.string y) := ho.cellAt 1 (by omega)
      have p0 : ∀ o, (wr.alloc o).cell? ⟨g, 0, none⟩ = some (.string x) := fun o => by rw [(alloc_belowS wr o).cell (World.block_lt_of_cell? wr _ c0)]; exact c0
      have p1 : ∀ o, (wr.alloc o).cell? ⟨g, 1, none⟩ = some (.string y) := fun o => by rw [(alloc_belowS wr o).cell (World.block_lt_of_cell? wr _ c1)]; exact c1
      clear ho h0
      have HQ := Lib.hid hq
      have H1 := Lib.hid h1
      have H2 := Lib.hid h2
      clear hq h1 h2
      go_wp2_with fail
      go_upto_region 10 with fail
      go_cut [7] (fun v wx => v = .pointer (some ⟨wr.heap.size, 0, none⟩) ∧ wx.heap[wr.heap.size]? = some (.cells #[.string x, .string y] 120 (0, 0)) ∧ Below wr.heap.size wr wx)
      case first =>
        go_region_law (fail)
        all_goals
          go_wp2_with fail
          go_meet
          exact ⟨rfl, alloc_at wr _, Below.drew (alloc_belowS wr _)⟩
      case rest =>
        obtain ⟨rfl, hbx, hbc⟩ := hcut
        have hz := (hbc.block w.heap.size (Array.getElem?_eq_some_iff.1 H0.out).1).trans H0.out
        have HBW := Lib.hid (Below.now hb hbc)
        obtain ⟨s0, s1⟩ := sys_cells hbx
        clear hbc H0 p0 p1 c0 c1 hb
        have PW := Lib.hid (fun v W (h : v.size ≤ s.size) => specWordOk_any 4 v W (by unfold maxLen; omega))
        have HFR := Lib.hid (fun W => specFormatRule_any x y W (by unfold maxLen; omega))
        have HZ := Lib.hid hz
        have h1 := H1.out
        have h2 := H2.out
        clear hz H1 H2
        go_wp2_with (go_at_call 65; refine (PW.out _ _ (by first | exact hx | exact hy)).mono ?_; rintro e w' ⟨rfl, rfl⟩; (try rw [h1]); (try rw [h2]))
        refine (HFR.out _).mono ?_
        rintro e w3 ⟨rfl, hb3⟩
        have hz := (hb3.block w.heap.size (Array.getElem?_eq_some_iff.1 HZ.out).1).trans HZ.out
        obtain ⟨s0, s1⟩ := sys_cells ((hb3.block wr.heap.size (Array.getElem?_eq_some_iff.1 hbx).1).trans hbx)
        replace HBW := Lib.hid (Below.now HBW.out hb3)
        have hq := HQ.out
        clear hb3 hbx HZ HFR PW HQ
        generalize ruleT (x, y) = rt at *
        have F : Hid (Below w.heap.size w ((w3.setCell ⟨w.heap.size, 0, none⟩ (.string x)).setCell ⟨w.heap.size, 1, none⟩ (.string y))) := Lib.hid ((HBW.out.setCell (Nat.le_refl _) _).setCell (Nat.le_refl _) _)
        obtain ⟨z0, z1⟩ := sys_cells hz
        obtain ⟨u0, u1⟩ := sys_cells (set_two hz (.string x) (.string y))
        have ff0 : w3.frozen? ⟨w.heap.size, 0, none⟩ = false := by simp [World.frozen?, hz]
        have ff1 : w3.frozen? ⟨w.heap.size, 1, none⟩ = false := by simp [World.frozen?, hz]
        clear hz
        go_wp2_with fail
        refine bodyPost_ret (v := .tuple #[.agg #[.string x, .string y], .bool true]) ?_ rfl ⟨by rw [HXE.out, HYE.out], F.out⟩
        simp [results, Tryz.results134, go_sem, u0, u1]
end Go.Proofs.YtoddpmdjjgnpgaaGreatDoor
namespace Go.Proofs.YtoddpmdjjgnpgaaGreatDoor
open Go.RowKit
set_option linter.unusedVariables false
section
variable {P : Program}
/-- append of one element to a row that lies from H on, at a plain region's list -/
theorem wpList_appH {ops : Array Oper} {rest : List Oper} {o : Oper} {a : Act} {Q : Exit → Act → World → Prop} {T tsl : TypeId} {z : Value} {size bytes : Nat} (hg : o.guard = none) (s x : Operand)
    (ho : o.op = .call { callee := .builtin .append, args := #[s, x], argTypes := #[tsl, tsl] }) (ht : P.underlying tsl = some (.slice T)) (hinfo : (P.info? T).map (fun i => (i.zero, i.size, i.bytes)) = some (some z, size, bytes))
    (hzs : z.cells.size = size) (hpos : 0 < size) {H : Nat} {wr : World} {v : Value} {n : Nat} {xs news : List Value} (hs : a.eval s = v) (hb : wr.ownsRow H T size v n xs) (hH : H ≤ wr.heap.size) (hx : a.eval x = .slice (some ⟨wr.heap.size, 0, none⟩) 1 1)
    (hn : news.length = size) (h1 : ∀ u ∈ news, u.oneCell' = true) (h63 : n + 1 ≤ maxLen) (hbytes : (n + 1) * bytes ≤ 140737488355328)
    (hK : ∀ g cap w', w'.ownsRow H T size (.slice (some ⟨g, 0, none⟩) (n + 1) cap) (n + 1) (xs ++ news) → (wr.alloc (.cells news.toArray T)).grownBy w' v.ownBlock → ((Value.slice (some ⟨g, 0, none⟩) (n + 1) cap).ownBlock = v.ownBlock ∨ (Value.slice (some ⟨g, 0, none⟩) (n + 1) cap).ownBlock = some (wr.alloc (.cells news.toArray T)).heap.size) → wpList P ops Q rest (a.put o.dst (.slice (some ⟨g, 0, none⟩) (n + 1) cap)) w') :
    wpList P ops Q (o :: rest) a (wr.alloc (.cells news.toArray T)) := by
  obtain ⟨i0, hi, hz0, hz1, hz2⟩ := info_parts hinfo
  refine wpList_append_lies (w := wr.alloc (.cells news.toArray T)) hg s x tsl ho H T i0 z size bytes ht hi hz0 hz1 hz2 hzs hpos v n xs hs (hb.alloc _) ⟨wr.heap.size, 0, none⟩ 1 1 news hx (by omega) ?_ h1 (by omega) h63 hbytes ?_ _ rfl ?_
  · intro j u hu
    have hadd : (⟨wr.heap.size, 0, none⟩ : Addr).add j = ⟨wr.heap.size, j, none⟩ := by unfold Addr.add; split <;> simp_all
    rw [hadd, World.cell?_alloc_new]
    simpa using hu
  · simp; omega
  · intro g cap w' hown hgr ho _
    refine hK g cap w' hown hgr ?_
    rcases ho with ho | ho
    · exact .inl ho.symm
    · exact .inr (by rw [ho]; rfl)
end
end Go.Proofs.YtoddpmdjjgnpgaaGreatDoor
namespace Go.Proofs.YtoddpmdjjgnpgaaGreatDoor
open Go.RowKit
set_option linter.unusedVariables false
/-- rules whose sides have at most m bytes -/
def ShortR (m : Nat) (R : List RulD) : Prop := ∀ r ∈ R, r.1.size ≤ m ∧ r.2.size ≤ m
theorem ShortR.app {m : Nat} {R : List RulD} {r : RulD} (h : ShortR m R) (hr : r.1.size ≤ m ∧ r.2.size ≤ m) : ShortR m (R ++ [r]) := by
  intro x hx
  rcases List.mem_append.1 hx with h1 | h1
  · exact h x h1
  · obtain rfl : x = r := by simpa using h1
    exact hr
theorem ShortR.sz {m : Nat} {R : List RulD} (h : ShortR m R) (hm : m ≤ maxLen) : SzR R := fun j hj => ⟨Nat.le_trans (h _ (nthR_mem hj)).1 hm, Nat.le_trans (h _ (nthR_mem hj)).2 hm⟩
/-- some system in memory of its own -/
def RetPSo (m : Nat) (w : World) (e : Ending) (w' : World) : Prop := ∃ (k : Int) (R : List RulD) (a : Option Addr) (cap : Nat) (b : Bool),
  (ShortR m R ∧ R.length ≤ m) ∧ e = .returned (.tuple #[.agg #[.int .i64 k, .slice a R.length cap], .bool b]) ∧ w'.ownsRow (w.heap.size + 1) 120 2 (.slice a R.length cap) R.length (ruleCells R) ∧ Below w.heap.size w w'
theorem RetPSo.zero {m : Nat} {w wr : World} (h : Below w.heap.size w wr) : RetPSo m w (.returned (.tuple #[.agg #[.int .i64 0, .slice none 0 0], .bool false])) ((wr.setCell ⟨w.heap.size, 0, none⟩ (.int .i64 0)).setCell ⟨w.heap.size, 1, none⟩ (.slice none 0 0)) :=
  ⟨0, [], none, 0, false, ⟨fun r hr => by simp at hr, Nat.zero_le _⟩, rfl, World.ownsRow_nil _ _ _ _, (h.setCell (Nat.le_refl _) _).setCell (Nat.le_refl _) _⟩
end Go.Proofs.YtoddpmdjjgnpgaaGreatDoor
namespace Go.Proofs.YtoddpmdjjgnpgaaGreatDoor
open Go.RowKit
set_option linter.unusedVariables false
/-- a system's text and the system -/
structure SysTx (s : ByteArray) (k : Nat) (R : List RulD) (l : List ByteArray) : Prop where
  size : s.size ≤ 1000
  dig : k < 10
  split : splitB s 32 = dgB k :: l
  len : l.length = R.length
  rule : ∀ i, i < R.length → ∃ u v, RuleTx (nthS l i) u v ∧ nthR R i = (undot u, undot v)
  ok : rulesP (k : Int) R
  text : (sysT0 (k : Int) R).toList = s.toList
def RetPXo (k : Nat) (R : List RulD) (w : World) (e : Ending) (w' : World) : Prop := ∃ (a : Option Addr) (cap : Nat), e = .returned (.tuple #[.agg #[.int .i64 (k : Nat), .slice a R.length cap], .bool true]) ∧ w'.ownsRow (w.heap.size + 1) 120 2 (.slice a R.length cap) R.length (ruleCells R) ∧ Below w.heap.size w w'
theorem take_nthR {R : List RulD} {j : Nat} (h : j < R.length) : R.take (j + 1) = R.take j ++ [nthR R j] := by
  rw [List.take_add_one, List.getElem?_eq_getElem h, nthR_lt h]; rfl
set_option maxRecDepth 20000 in
set_option maxHeartbeats 4000000 in
theorem specParseSystem_xo (s : ByteArray) (k : Nat) (R : List RulD) (l : List ByteArray) (w : World) (hs : SysTx s k R l) :
    Calls Tryz.prog 86 #[.string s] w (RetPXo k R w) := by
  have HX := Lib.hid hs
  have hsz1 := hs.size
  have HSP := Lib.hid (fun W => specSplitAny_x s 32 W (by omega))
  have HLR := Lib.hid hs.len
  have HR12 : Hid (R.length ≤ 12) := Lib.hid hs.ok.1.2
  have hSzR : SzR R := fun j hj => by
    have h1 := (hs.ok.2 _ (nthR_mem hj)).1
    have h2 := h1.2
    unfold maxLen
    omega
  have HSZ := Lib.hid hSzR
  clear hSzR
  rw [HX.out.split] at HSP
  have HW1 := Lib.hid ((Below.refl w.heap.size w).alloc (Nat.le_refl _) (.cells #[.int .i64 0, .slice none 0 0] 25))
  clear hs
  go_enter Tryz.func86, Tryz.ntmps86
  go_wp2_with fail
  refine (HSP.out _).mono ?_
  rintro e w2 ⟨a, cap, rfl, ho, hb2⟩
  have hb0 := (hb2.block w.heap.size (by simp)).trans (alloc_at w (.cells #[.int .i64 0, .slice none 0 0] 25))
  have hcap := owns_capS ho
  obtain ⟨g, hg, off, rfl, hcells⟩ : ∃ g, g < w2.heap.size ∧ ∃ off, a = some ⟨g, off, none⟩ ∧ ∀ j, j < (dgB k :: l).length → w2.cell? ⟨g, off + j, none⟩ = some (.string (nthS (dgB k :: l) j)) := by
    obtain ⟨b, off, ha, hb, hc⟩ := (owns_strs ho).cell (show 0 < (dgB k :: l).length by simp)
    exact ⟨b, hb, off, ha, hc⟩
  have hc0 : w2.cell? ⟨g, off, none⟩ = some (.string (dgB k)) := hcells 0 (by simp)
  have HPI := Lib.hid (fun W => specParseInt_x k W HX.out.dig)
  have HB2 := Lib.hid (Below.now HW1.out hb2)
  have HC : Hid (∀ j, j < l.length → w2.cell? ⟨g, off + 1 + j, none⟩ = some (.string (nthS l j))) := Lib.hid (fun j hj => by
    have := hcells (j + 1) (by simp; omega)
    rw [show off + (j + 1) = off + 1 + j by omega] at this
    exact this)
  have HO := Lib.hid hb0
  have hk10 := HX.out.dig
  clear hcells hb2 ho hb0 HSP
  generalize dgB k = s0 at *
  simp only [List.length_cons] at hcap ⊢
  obtain ⟨m, hm⟩ : ∃ m, l.length = m := ⟨_, rfl⟩
  have hRm : R.length = m := by rw [← HLR.out, hm]
  have hm12 : m ≤ 12 := by have := HR12.out; omega
  rw [hm] at hcap HC ⊢
  have HRM := Lib.hid hRm
  clear hRm
  go_wp2_with fail
  refine (HPI.out _).mono ?_
  rintro e w3 ⟨rfl, hb3⟩
  have hb0 := (hb3.block w.heap.size (Array.getElem?_eq_some_iff.1 HO.out).1).trans HO.out
  have HB3 := Lib.hid (Below.now HB2.out hb3)
  have HC3 : Hid (∀ j, j < m → w3.cell? ⟨g, off + 1 + j, none⟩ = some (.string (nthS l j))) := Lib.hid (fun j hj => by rw [hb3.cell (World.block_lt_of_cell? w2 _ (HC.out j hj))]; exact HC.out j hj)
  clear hb3 HC HO HPI hc0
  have HR := Lib.hid (Rec2.start 25 120 2 (w := w3) (w1 := w3) (Below.refl _ _) (.int .i64 (k : Nat)))
  have HZ := Lib.hid hb0
  clear hb0
  go_upto_region 6 with fail
  generalize hW4 : w3.alloc (.cells #[.int .i64 (k : Nat), .slice none 0 0] 25) = w4 at *
  go_cut [27, 28, 29] (fun v u i wx => ∃ off2 cap2, v = .slice (some ⟨g, off2, none⟩) m cap2 ∧ u = .int .i64 (m : Nat) ∧ i = .int .i64 0 ∧ (∀ j, j < m → w3.cell? ⟨g, off2 + j, none⟩ = some (.string (nthS l j))) ∧ wx = w4)
  case first =>
    by_cases hc1 : cap = 1
    · subst hc1
      obtain rfl : m = 0 := by omega
      go_wp2_with fail
      go_meet
      exact ⟨_, _, rfl, rfl, rfl, fun j hj => by omega, rfl⟩
    · have hc2 : (1 : Int) < (cap : Int) := by omega
      have hc3 : ¬ (cap : Int) = 1 := by omega
      go_wp2_with fail
      go_meet
      exact ⟨_, _, rfl, rfl, rfl, HC3.out, rfl⟩
  case rest =>
    obtain ⟨off2, cap2, rfl, rfl, rfl, hcs, rfl⟩ := hcut
    have HCS := Lib.hid hcs
    clear hcs HC3 hW4
    go_wp2_with fail
    go_loopw [29] (fun i wr => ∃ (j : Nat) (v : Value), j ≤ m ∧ i = .int .i64 (j : Nat) ∧ Hid (Rec2 25 120 2 w3 wr w3.heap.size (.int .i64 (k : Nat)) v j (ruleCells (R.take j)))) (fun i _ => m - (intOf i).toNat)
    case atStart => exact ⟨0, .slice none 0 0, Nat.zero_le _, rfl, HR⟩
    case round =>
      clear HR
      obtain ⟨j, v, hj, rfl, HRC⟩ := hrel
      obtain ⟨a3, c3, rfl⟩ := owns_form HRC.out.own
      have HBW := Lib.hid (Below.now HB3.out HRC.out.below)
      have hz := (HRC.out.below.block w.heap.size (Array.getElem?_eq_some_iff.1 HZ.out).1).trans HZ.out
      have hsz := HRC.out.lt
      by_cases hlt : j < m
      · have cw : wr.cell? ⟨g, off2 + j, none⟩ = some (.string (nthS l j)) := by rw [HRC.out.below.cell (World.block_lt_of_cell? w3 _ (HCS.out j hlt))]; exact HCS.out j hlt
        obtain ⟨u, v, hrt, hre⟩ := HX.out.rule j (by rw [HRM.out]; exact hlt)
        have HPR := Lib.hid (fun W => specParseRule_x (nthS l j) u v W hrt)
        have HTK : Hid (R.take (j + 1) = R.take j ++ [(undot u, undot v)]) := Lib.hid (by rw [take_nthR (by rw [HRM.out]; exact hlt), hre])
        clear hrt hre
        generalize undot u = x at *
        generalize undot v = y at *
        generalize nthS l j = sj at *
        have HZW := Lib.hid hz
        clear hz
        go_wp2_with fail
        refine (HPR.out _).mono ?_
        rintro e w5 ⟨rfl, hb5⟩
        have HR5 := Lib.hid (HRC.out.later hb5)
        have HB5 := Lib.hid (Below.now HBW.out hb5)
        have hz5 := (hb5.block w.heap.size (Array.getElem?_eq_some_iff.1 HZW.out).1).trans HZW.out
        have HK6 := Lib.hid (fun o => alloc_belowS w5 o)
        have hz := ((HK6.out (.cells #[.string x, .string y] 120)).block w.heap.size (Array.getElem?_eq_some_iff.1 hz5).1).trans hz5
        have HR6 := Lib.hid (HR5.out.later (HK6.out (.cells #[.string x, .string y] 120)))
        replace HBW := Lib.hid (Below.now HB5.out (HK6.out (.cells #[.string x, .string y] 120)))
        obtain ⟨n0, n1⟩ := sys_cells (alloc_at w5 (.cells #[.string x, .string y] 120))
        clear HRC HZW cw hb5 HR5 HB5 hz5 HK6 HPR
        go_upto_region 10 with fail
        generalize w5.alloc (.cells #[.string x, .string y] 120) = w6 at *
        have HN1 : Hid ([Value.string x, .string y].length = 1 * 2) := Lib.hid rfl
        have HN2 : Hid (∀ v ∈ [Value.string x, .string y], v.oneCell' = true) := Lib.hid (fun v hv => by simp at hv; rcases hv with rfl | rfl <;> rfl)
        obtain ⟨_, y1, _, y3⟩ := HR6.out.facts
        clear hz
        go_wp2_with (at_builtin; refine wpList_appH (n := j) (wr := w6) (news := [Value.string x, .string y]) rfl (.tmp 42) (.tmp 44) rfl Tryz.underlying23 Tryz.infoRule rfl (by decide) rfl HR6.out.own HR6.out.lt rfl HN1.out HN2.out (by unfold maxLen; omega) (by omega) ?_; intro g4 c4 w4 ho4 hg4 hr4; obtain ⟨_, x1, _, x3⟩ := rec_cells (HR6.out.grown (Below.refl _ _) hg4))
        have HR4 : Hid (Rec2 25 120 2 w3 (w4.setCell ⟨w3.heap.size, 1, none⟩ (.slice (some ⟨g4, 0, none⟩) (j + 1) c4)) w3.heap.size (.int .i64 (k : Nat)) (.slice (some ⟨g4, 0, none⟩) (j + 1) c4) (j + 1) (ruleCells (R.take (j + 1)))) := Lib.hid (by
          rw [HTK.out, ruleCells_app, show ruleCells [(x, y)] = [Value.string x, .string y] from rfl]; exact HR6.out.put (Below.refl _ _) hg4 ho4)
        clear ho4 hg4 hr4 y1 y3 n0 n1 x1 x3
        go_wp2_with fail
        go_roundw
        case rel => exact ⟨j + 1, _, by omega, by simp, HR4⟩
        case measure => simp [intOf]; omega
      · obtain rfl : m = j := by omega
        have hRC : Hid (Rec2 25 120 2 w3 wr w3.heap.size (.int .i64 (k : Nat)) (.slice a3 m c3) m (ruleCells R)) := Lib.hid (by have := HRC.out; rw [List.take_of_length_le (by rw [HRM.out]; exact Nat.le_refl _)] at this; exact this)
        clear HRC
        have HRC := hRC
        clear hRC
        have HRO : Hid (∀ W, RulesIn W a3 R → Calls Tryz.prog 112 #[.agg #[.int .i64 (k : Nat), .slice a3 m c3]] W fun e w' => e = .returned (.bool true) ∧ Below W.heap.size W w') := Lib.hid (fun W h => by
          have := specRulesOk_any (k : Int) R a3 c3 W h (by rw [HRM.out]; omega) HSZ.out
          rw [HRM.out] at this
          refine this.mono ?_
          rintro e w' ⟨b, hb, rfl, hb5⟩
          have : b = true := hb.2 HX.out.ok
          subst this
          exact ⟨rfl, hb5⟩)
        have HFS := Lib.hid (fun W h => specFormatSystem_any (k : Int) R a3 c3 W h (by rw [HRM.out]; omega) HSZ.out)
        rw [HRM.out] at HFS
        have HRI : Hid (RulesIn wr a3 R) := Lib.hid (owns_rules HRC.out.own)
        obtain ⟨y0, y1, _, _⟩ := HRC.out.facts
        have HZW := Lib.hid hz
        clear hz
        go_wp2_with fail
        refine (HRO.out _ HRI.out).mono ?_
        rintro e w5 ⟨rfl, hb5⟩
        have HR5 := Lib.hid (HRC.out.later hb5)
        replace HBW := Lib.hid (Below.now HBW.out hb5)
        have hz := (hb5.block w.heap.size (Array.getElem?_eq_some_iff.1 HZW.out).1).trans HZW.out
        have HRI2 := Lib.hid (HRI.out.later hb5)
        clear HRC HZW hb5 HRO y0 y1 HRI
        obtain ⟨y0, y1, _, _⟩ := HR5.out.facts
        have HZW := Lib.hid hz
        clear hz
        go_wp2_with fail
        refine (HFS.out _ HRI2.out).mono ?_
        rintro e w6 ⟨rfl, hb6⟩
        have HR6 := Lib.hid (HR5.out.later hb6)
        replace HBW := Lib.hid (Below.now HBW.out hb6)
        have hz := (hb6.block w.heap.size (Array.getElem?_eq_some_iff.1 HZW.out).1).trans HZW.out
        have hq : ((sysT0 (k : Int) R).toList == s.toList) = true := by rw [HX.out.text]; simp
        clear HR5 HZW hb6 HFS y0 y1 HRI2
        generalize sysT0 (k : Int) R = st at *
        have F : Hid (RetPXo k R w (.returned (.tuple #[.agg #[.int .i64 (k : Nat), .slice a3 m c3], .bool true])) ((w6.setCell ⟨w.heap.size, 0, none⟩ (.int .i64 (k : Nat))).setCell ⟨w.heap.size, 1, none⟩ (.slice a3 m c3))) := Lib.hid ⟨a3, c3, by rw [HRM.out],
          by rw [HRM.out]; exact owns_mono (ownsRow_setCell_below (ownsRow_setCell_below HR6.out.own (by show w.heap.size < w3.heap.size + 1; have := HB3.out.size; omega) _) (by show w.heap.size < w3.heap.size + 1; have := HB3.out.size; omega) _) (by have := HB3.out.size; omega), (HBW.out.setCell (Nat.le_refl _) _).setCell (Nat.le_refl _) _⟩
        obtain ⟨y0, y1, _, _⟩ := HR6.out.facts
        obtain ⟨z0, z1⟩ := sys_cells hz
        obtain ⟨u0, u1⟩ := sys_cells (set_two hz (.int .i64 (k : Nat)) (.slice a3 m c3))
        have ff0 : w6.frozen? ⟨w.heap.size, 0, none⟩ = false := by simp [World.frozen?, hz]
        have ff1 : w6.frozen? ⟨w.heap.size, 1, none⟩ = false := by simp [World.frozen?, hz]
        clear hz HX
        go_wp2_with fail
        refine bodyPost_ret (v := .tuple #[.agg #[.int .i64 (k : Nat), .slice a3 m c3], .bool true]) ?_ rfl F.out
        simp [results, Tryz.results86, go_sem, u0, u1]
end Go.Proofs.YtoddpmdjjgnpgaaGreatDoor
namespace Go.Proofs.YtoddpmdjjgnpgaaGreatDoor
open Go.RowKit
set_option linter.unusedVariables false
/-- one rule's text and its two parts -/
abbrev TxD := ByteArray × ByteArray × ByteArray
def ruleD (p : TxD) : RulD := (undot p.2.1, undot p.2.2)
def chkR (k : Nat) (p : TxD) : Bool :=
  decide (p.1.size ≤ 100) && decide (p.2.1.size ≤ p.1.size) && decide (p.2.2.size ≤ p.1.size) && decide (splitB p.1 62 = [p.2.1, p.2.2]) && wordOkB 4 (undot p.2.1) && wordOkB 4 (undot p.2.2) &&
  decide ((ruleT (ruleD p)).data.toList = p.1.data.toList) && wordOkB (k : Int) (undot p.2.1) && wordOkB (k : Int) (undot p.2.2) && decide ((undot p.2.1).size ≤ 8) && decide ((undot p.2.2).size ≤ 8) && decide ((undot p.2.1).size ≠ 0)
def chkS (s : ByteArray) (k : Nat) (ps : List TxD) : Bool :=
  decide (s.size ≤ 100) && decide (1 ≤ k) && decide (k ≤ 4) && decide (ps.length ≤ 12) && decide (splitB s 32 = dgB k :: ps.map (·.1)) && ps.all (chkR k) && decide ((rulesT (dgB k) (ps.map ruleD) (ps.map ruleD).length).data.toList = s.data.toList)
theorem toList_data (a : ByteArray) : ∀ b : ByteArray, a.data.toList = b.data.toList → a.toList = b.toList := fun b h => by
  rw [ba_lists h]
theorem chk_tx {s : ByteArray} {k : Nat} {ps : List TxD} (h : chkS s k ps = true) : SysTx s k (ps.map ruleD) (ps.map (·.1)) := by
  unfold chkS at h
  simp only [Bool.and_eq_true, decide_eq_true_eq] at h
  obtain ⟨⟨⟨⟨⟨⟨h1, h2⟩, h3⟩, h4⟩, h5⟩, h6⟩, h7⟩ := h
  rw [List.all_eq_true] at h6
  have hr : ∀ p ∈ ps, chkR k p = true := h6
  have hP : rulesP (k : Int) (ps.map ruleD) := by
    refine ⟨⟨by omega, by rw [List.length_map]; exact h4⟩, fun r hr2 => ?_⟩
    obtain ⟨p, hp, rfl⟩ := List.mem_map.1 hr2
    have := hr p hp
    unfold chkR at this
    simp only [Bool.and_eq_true, decide_eq_true_eq] at this
    obtain ⟨⟨⟨⟨⟨⟨⟨⟨⟨⟨⟨_, _⟩, _⟩, _⟩, _⟩, _⟩, _⟩, a8⟩, a9⟩, a10⟩, a11⟩, a12⟩ := this
    exact ⟨⟨⟨a8, a9⟩, a10, a11⟩, a12⟩
  refine ⟨by omega, by omega, h5, by simp, fun i hi => ?_, hP, ?_⟩
  · rw [List.length_map] at hi
    have := hr _ (List.getElem_mem hi)
    unfold chkR at this
    simp only [Bool.and_eq_true, decide_eq_true_eq] at this
    obtain ⟨⟨⟨⟨⟨⟨⟨⟨⟨⟨⟨a1, a2⟩, a3⟩, a4⟩, a5⟩, a6⟩, a7⟩, _⟩, _⟩, _⟩, _⟩, _⟩ := this
    refine ⟨ps[i].2.1, ps[i].2.2, ?_, ?_⟩
    · rw [nthS_lt (by simpa using hi), List.getElem_map]
      exact ⟨by omega, ⟨a2, a3⟩, a4, a5, a6, toList_data _ _ a7⟩
    · rw [nthR_lt (by simpa using hi), List.getElem_map]
      rfl
  · unfold sysT0
    rw [if_pos hP]
    unfold sysT
    rw [numB_dg (by omega)]
    exact toList_data _ _ h7
end Go.Proofs.YtoddpmdjjgnpgaaGreatDoor
namespace Go.Proofs.YtoddpmdjjgnpgaaGreatDoor
open Go.RowKit
set_option linter.unusedVariables false
def RetOriZ (m : Nat) (k : Int) (w : World) (e : Ending) (w' : World) : Prop := ∃ (p : RulD) (b : Bool), (b = true → (ruleP k p ∧ lessS p.2 p.1 = true) ∧ p.1.size ≤ m) ∧ e = .returned (.tuple #[.agg #[.string p.1, .string p.2], .bool b]) ∧ Below w.heap.size w w'
theorem RetOriZ.zero {m : Nat} {k : Int} {w wr : World} (h : Below w.heap.size w wr) : RetOriZ m k w (.returned (.tuple #[.agg #[.string ⟨#[]⟩, .string ⟨#[]⟩], .bool false])) ((wr.setCell ⟨w.heap.size + 1, 0, none⟩ (.string ⟨#[]⟩)).setCell ⟨w.heap.size + 1, 1, none⟩ (.string ⟨#[]⟩)) :=
  ⟨(⟨#[]⟩, ⟨#[]⟩), false, fun h => Bool.noConfusion h, rfl, (h.setCell (by show w.heap.size ≤ w.heap.size + 1; omega) _).setCell (by show w.heap.size ≤ w.heap.size + 1; omega) _⟩
theorem RetOriZ.some {m : Nat} {k : Int} {w wr : World} {x y : ByteArray} (hm : x.size ≤ m) (hr : ruleP k (x, y)) (hl : lessS y x = true) (h : Below w.heap.size w wr) : RetOriZ m k w (.returned (.tuple #[.agg #[.string x, .string y], .bool true])) ((wr.setCell ⟨w.heap.size + 1, 0, none⟩ (.string x)).setCell ⟨w.heap.size + 1, 1, none⟩ (.string y)) :=
  ⟨(x, y), true, fun _ => ⟨⟨hr, hl⟩, hm⟩, rfl, (h.setCell (by show w.heap.size ≤ w.heap.size + 1; omega) _).setCell (by show w.heap.size ≤ w.heap.size + 1; omega) _⟩
set_option maxRecDepth 20000 in
set_option maxHeartbeats 4000000 in
theorem specOrientRule_z (m : Nat) (k : Int) (x y : ByteArray) (w : World) (hmx : x.size ≤ m) (hmy : y.size ≤ m) (hx : x.size ≤ maxLen) (hy : y.size ≤ maxLen) :
    Calls Tryz.prog 88 #[.int .i64 k, .agg #[.string x, .string y]] w (RetOriZ m k w) := by
  have HSD := Lib.hid (fun W => specSidesOk_any k x y W hx hy)
  have HIL := Lib.hid (fun W => specIsLess_any x y W hx hy)
  have hlt := alloc_two w (.cells #[.string x, .string y] 120) (.cells #[.string ⟨#[]⟩, .string ⟨#[]⟩] 120)
  have hsz : ((w.alloc (.cells #[.string x, .string y] 120)).alloc (.cells #[.string ⟨#[]⟩, .string ⟨#[]⟩] 120)).heap.size = w.heap.size + 2 := by simp
  have HW0 : Hid (Below w.heap.size w ((w.alloc (.cells #[.string x, .string y] 120)).alloc (.cells #[.string ⟨#[]⟩, .string ⟨#[]⟩] 120))) := Lib.hid (Below.now (alloc_belowS w _) (alloc_belowS _ _))
  go_enter Tryz.func88, Tryz.ntmps88
  go_wp2_with fail
  refine (HSD.out _).mono ?_
  rintro e w2 ⟨bb, hbb, rfl, hb2⟩
  have HBB := Lib.hid hbb
  have hbx := (hb2.block w.heap.size (by rw [hsz]; omega)).trans hlt.1
  have hz := (hb2.block (w.heap.size + 1) (by rw [hsz]; omega)).trans hlt.2
  have HBW := Lib.hid (Below.now HW0.out hb2)
  clear hbb hb2 HSD hlt hsz
  obtain ⟨s0, s1⟩ := sys_cells hbx
  obtain ⟨z0, z1⟩ := sys_cells hz
  have ff0 : w2.frozen? ⟨w.heap.size + 1, 0, none⟩ = false := by simp [World.frozen?, hz]
  have ff1 : w2.frozen? ⟨w.heap.size + 1, 1, none⟩ = false := by simp [World.frozen?, hz]
  cases bb
  · have F := Lib.hid (RetOriZ.zero (m := m) (k := k) HBW.out)
    obtain ⟨u0, u1⟩ := sys_cells (set_two hz (.string ⟨#[]⟩) (.string ⟨#[]⟩))
    go_wp2_with fail
    refine bodyPost_ret (v := .tuple #[.agg #[.string ⟨#[]⟩, .string ⟨#[]⟩], .bool false]) ?_ rfl F.out
    simp [results, Tryz.results88, go_sem, u0, u1]
  · have hsd := HBB.out.1 rfl
    cases hq : (x.toList == y.toList)
    · have hne : x ≠ y := fun e => by rw [e] at hq; simp at hq
      have hor := orF2_less hne
      unfold orF2 at hor
      cases hls : lessS x y
      · have F := Lib.hid (RetOriZ.some (m := m) (k := k) (x := x) (y := y) hmx ⟨hsd, by rw [hls] at hor; exact less_ne hor⟩ (by rw [hls] at hor; exact hor) HBW.out)
        obtain ⟨u0, u1⟩ := sys_cells (set_two hz (.string x) (.string y))
        rw [hls] at HIL
        clear hor hsd hne hbx hz HBB
        go_wp2_with (go_at_call 113; refine (HIL.out _).mono ?_; rintro e w' ⟨rfl, rfl⟩)
        refine bodyPost_ret (v := .tuple #[.agg #[.string x, .string y], .bool true]) ?_ rfl F.out
        simp [results, Tryz.results88, go_sem, u0, u1]
      · have F := Lib.hid (RetOriZ.some (m := m) (k := k) (x := y) (y := x) hmy ⟨⟨⟨hsd.1.2, hsd.1.1⟩, hsd.2.2, hsd.2.1⟩, less_ne hls⟩ hls HBW.out)
        obtain ⟨u0, u1⟩ := sys_cells (set_two hz (.string y) (.string x))
        rw [hls] at HIL
        clear hor hsd hne hbx hz HBB
        go_wp2_with (go_at_call 113; refine (HIL.out _).mono ?_; rintro e w' ⟨rfl, rfl⟩)
        refine bodyPost_ret (v := .tuple #[.agg #[.string y, .string x], .bool true]) ?_ rfl F.out
        simp [results, Tryz.results88, go_sem, u0, u1]
    · have F := Lib.hid (RetOriZ.zero (m := m) (k := k) HBW.out)
      obtain ⟨u0, u1⟩ := sys_cells (set_two hz (.string ⟨#[]⟩) (.string ⟨#[]⟩))
      clear hsd hbx hz HBB
      go_wp2_with fail
      refine bodyPost_ret (v := .tuple #[.agg #[.string ⟨#[]⟩, .string ⟨#[]⟩], .bool false]) ?_ rfl F.out
      simp [results, Tryz.results88, go_sem, u0, u1]
end Go.Proofs.YtoddpmdjjgnpgaaGreatDoor
namespace Go.Proofs.YtoddpmdjjgnpgaaGreatDoor
open Go.RowKit
set_option linter.unusedVariables false
end Go.Proofs.YtoddpmdjjgnpgaaGreatDoor
namespace Go.Proofs.YtoddpmdjjgnpgaaGreatDoor
open Go.RowKit
set_option linter.unusedVariables false
end Go.Proofs.YtoddpmdjjgnpgaaGreatDoor
