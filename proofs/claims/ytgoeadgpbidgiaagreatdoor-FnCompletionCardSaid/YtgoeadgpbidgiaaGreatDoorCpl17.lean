/-
  The reference's ParseSystem, coarsely.
-/
import Derived.Test.YtgoeadgpbidgiaaGreatDoorCpl07
import Derived.Test.YtgoeadgpbidgiaaGreatDoorCpl16
import Derived.Test.YtgoeadgpbidgiaaGreatDoorCpl15
namespace Go.Proofs.YtgoeadgpbidgiaaGreatDoor
open Go.RowKit
set_option linter.unusedVariables false
set_option maxHeartbeats 1000000 in
theorem specIsDigits_x (s : ByteArray) (w : World) (hs : s.size ≤ maxLen) (h0 : 0 < s.size) (hd : digP s) :
    Calls Tryz.prog 161 #[.string s] w fun e w' => e = .returned (.bool true) ∧ w = w' := by
  unfold maxLen at hs
  have HD := Lib.hid hd
  clear hd
  go_enter Tryz.func161, Tryz.ntmps161
  go_wp2_with fail
  go_loop [3] (fun i => ∃ j : Nat, j ≤ s.size ∧ i = .int .i64 j) (fun i => s.size - (intOf i).toNat)
  case atStart => exact ⟨0, Nat.zero_le _, rfl⟩
  case round =>
    obtain ⟨j, hj, rfl⟩ := hrel
    by_cases hlt : j < s.size
    · have hb := byte_lt s[j]
      have h1 : ¬ ((s[j]'hlt).toNat : Int) < 48 := by have := (HD.out j hlt).1; omega
      have h2 : ¬ (57 : Int) < ((s[j]'hlt).toNat : Int) := by have := (HD.out j hlt).2; omega
      go_wp2
      go_round
      case rel => exact ⟨j + 1, by omega, by go_num⟩
      case measure => simp [intOf]; omega
    · obtain rfl : j = s.size := by omega
      have hpos : (0 : Int) < (s.size : Int) := by omega
      go_wp2
      go_ret
      exact ⟨rfl, rfl⟩
/-- the text of one digit -/
def dgB (d : Nat) : ByteArray := ⟨#[UInt8.ofNat (48 + d)]⟩
theorem dgB_at {d : Nat} (h : d < 10) : ((dgB d)[0]'(Nat.zero_lt_one)).toNat = 48 + d := by
  show (UInt8.ofNat (48 + d)).toNat = 48 + d
  simp; omega
theorem numB_dg {d : Nat} (h : d < 10) : numB (d : Int) = dgB d := by
  unfold numB dgB Lib.itoa
  rw [if_neg (by omega), Int.toNat_natCast, Lib.decDigits, dif_pos h]
set_option maxRecDepth 20000 in
set_option maxHeartbeats 4000000 in
theorem specParseInt_x (d : Nat) (w : World) (hd : d < 10) :
    Calls Tryz.prog 124 #[.string (dgB d)] w fun e w' => e = .returned (.tuple #[.int .i64 (d : Nat), .bool true]) ∧ Below w.heap.size w w' := by
  have hz : (dgB d).size = 1 := rfl
  obtain ⟨h0, hb0⟩ : ∃ h0 : 0 < (dgB d).size, ((dgB d)[0]'h0).toNat = 48 + d := ⟨by rw [hz]; omega, dgB_at hd⟩
  have HD := Lib.hid (fun W => specIsDigits_x (dgB d) W (by rw [hz]; unfold maxLen; omega) (by rw [hz]; omega) (fun j hj => by
    obtain rfl : j = 0 := by rw [hz] at hj; omega
    have h : ((dgB d)[0]'hj).toNat = 48 + d := hb0
    rw [h]; omega))
  have HF := Lib.hid (fun W => specFormatInt_any ((d : Nat) : Int) W (by omega) (by omega))
  have HNB : Hid ((⟨(Lib.itoa (d : Int)).toArray⟩ : ByteArray) = dgB d) := Lib.hid (numB_dg hd)
  rw [HNB.out] at HF
  have hq : ((dgB d).toList == (dgB d).toList) = true := by simp
  generalize dgB d = s at *
  have hne : (((s[0]'h0).toNat : Int) == 45) = false := by rw [beq_eq_false_iff_ne]; omega
  have hdv : decide ((0 : Int) < (-9223372036854775808 + (((s[0]'h0).toNat : Int) - 48)).tdiv 10) = false := by
    rw [decide_eq_false_iff_not, show -9223372036854775808 + (((s[0]'h0).toNat : Int) - 48) = -(9223372036854775808 - (d : Int)) by omega, Int.neg_tdiv, Int.tdiv_eq_ediv_of_nonneg (by omega)]
    omega
  have hlo : 48 ≤ ((s[0]'h0).toNat : Int) := by omega
  have hhi : ((s[0]'h0).toNat : Int) ≤ 57 := by omega
  have HB0 := Lib.hid hb0
  have HDV := Lib.hid hdv
  clear hb0 hdv
  go_enter Tryz.func124, Tryz.ntmps124
  go_wp2_with fail
  refine (HD.out _).mono ?_
  rintro e w2 ⟨rfl, rfl⟩
  go_wp2_with fail
  go_loop [6, 7] (fun n i => ∃ (j : Nat) (m : Int), j ≤ 1 ∧ i = .int .i64 (j : Nat) ∧ n = .int .i64 m ∧ Hid (m = - ((j * d : Nat) : Int)) ∧ -9 ≤ m ∧ m ≤ 0) (fun _ i => 1 - (intOf i).toNat)
  case atStart => exact ⟨0, 0, Nat.zero_le _, rfl, rfl, Lib.hid (by simp), by omega, by omega⟩
  case round =>
    obtain ⟨j, m, hj, rfl, rfl, hm, hm1, hm2⟩ := hrel
    by_cases hlt : j = 0
    · subst hlt
      have hm0 : m = 0 := by have := hm.out; omega
      have hq : ¬ m < (-9223372036854775808 + (((s[0]'h0).toNat : Int) - 48)).tdiv 10 := by rw [hm0]; exact of_decide_eq_false HDV.out
      have hq2 : decide (m < (-9223372036854775808 + (((s[0]'h0).toNat : Int) - 48)).tdiv 10) = false := decide_eq_false hq
      have hr1 : -9223372036854775808 ≤ m * 10 - (((s[0]'h0).toNat : Int) - 48) := by omega
      have hr2 : m * 10 - (((s[0]'h0).toNat : Int) - 48) ≤ 0 := by omega
      have HNX : Hid (m * 10 - (((s[0]'h0).toNat : Int) - 48) = - ((1 * d : Nat) : Int)) := Lib.hid (by have := HB0.out; omega)
      have hr3 : -9 ≤ m * 10 - (((s[0]'h0).toNat : Int) - 48) := by omega
      have hj1 : (0 : Int) < (s.size : Int) := by omega
      clear hm hm0
      go_wp2_with fail
      go_round
      case rel => exact ⟨1, _, by omega, by go_num, rfl, HNX, hr3, hr2⟩
      case measure => simp [intOf]
    · obtain rfl : j = 1 := by omega
      have hm0 := hm.out
      have e : m = - (d : Int) := by rw [hm0]; simp
      subst e
      have hmne : ((- (d : Int)) == -9223372036854775808) = false := by rw [beq_eq_false_iff_ne]; omega
      have hj1 : ¬ (1 : Int) < (s.size : Int) := by omega
      have hneg : - - (d : Int) = (d : Int) := by omega
      clear hm
      go_wp2_with fail
      refine (HF.out _).mono ?_
      rintro e w3 ⟨rfl, hb3⟩
      have HB3 := Lib.hid hb3
      clear hb3
      go_wp2_with fail
      refine bodyPost_ret (v := .tuple #[.int .i64 (d : Nat), .bool true]) ?_ rfl ⟨rfl, HB3.out⟩
      simp [results, Tryz.results124, go_sem]
/-- a side's text, read -/
def undot (s : ByteArray) : ByteArray := if (s.data.toList == [46]) = true then ⟨#[]⟩ else s
theorem undot_yes {s : ByteArray} (h : (s.toList == [46]) = true) : undot s = ⟨#[]⟩ := by
  rw [Lib.toList_data] at h
  exact if_pos h
theorem undot_no {s : ByteArray} (h : (s.toList == [46]) = false) : undot s = s := by
  rw [Lib.toList_data] at h
  exact if_neg (by rw [h]; exact Bool.noConfusion)
theorem undot_size (s : ByteArray) : (undot s).size ≤ s.size := by
  unfold undot
  split
  · exact Nat.zero_le _
  · exact Nat.le_refl _
/-- a rule's text and the rule -/
structure RuleTx (s : ByteArray) (u v : ByteArray) : Prop where
  size : s.size ≤ 2 ^ 20
  small : u.size ≤ s.size ∧ v.size ≤ s.size
  split : splitB s 62 = [u, v]
  w1 : wordOkB 4 (undot u) = true
  w2 : wordOkB 4 (undot v) = true
  text : (ruleT (undot u, undot v)).toList = s.toList
/-- two strings in a row of their own -/
def TwoX (B : Nat) (w wr : World) (v : Value) (x y : ByteArray) : Prop := wr.ownsRow (B + 1) 9 1 v 2 [.string x, .string y] ∧ Below B w wr ∧ wr.heap[B]? = some (.cells #[.string ⟨#[]⟩, .string ⟨#[]⟩] 39 (0, 0))
theorem TwoX.form {B : Nat} {w wr : World} {a : Option Addr} {n cap : Nat} {x y : ByteArray} (h : TwoX B w wr (.slice a n cap) x y) : ∃ g, a = some ⟨g, 0, none⟩ ∧ B + 1 ≤ g ∧ n = 2 := by
  obtain ⟨ho, hb, h0⟩ := h
  rcases ho.2 with ⟨hv, h0⟩ | ⟨g, cap', cur, hv, hb', r⟩
  · cases h0
  · simp only [Value.slice.injEq] at hv
    exact ⟨g, hv.1, hb', hv.2.1⟩
theorem TwoX.blk {B : Nat} {wr : World} {g : Nat} {o : Nat} {z : Value} {O : Option Obj} (h0 : wr.heap[B]? = O) (hg : B + 1 ≤ g) : (wr.setCell ⟨g, o, none⟩ z).heap[B]? = O := by
  rw [← h0]
  unfold World.setCell
  rw [Array.getElem?_modify, if_neg (by show ¬ g = B; omega)]
theorem TwoX.store0 {B : Nat} {w wr : World} {g cap : Nat} {x y : ByteArray} (h : TwoX B w wr (.slice (some ⟨g, 0, none⟩) 2 cap) x y) (hg : B + 1 ≤ g) (z : ByteArray) : TwoX B w (wr.setCell ⟨g, 0, none⟩ (.string z)) (.slice (some ⟨g, 0, none⟩) 2 cap) z y := by
  obtain ⟨ho, hb, h0⟩ := h
  exact ⟨(ho.stored 0 (.string z)).1, hb.setCell (by show B ≤ g; omega) _, TwoX.blk h0 hg⟩
theorem TwoX.store1 {B : Nat} {w wr : World} {g cap : Nat} {x y : ByteArray} (h : TwoX B w wr (.slice (some ⟨g, 0, none⟩) 2 cap) x y) (hg : B + 1 ≤ g) (z : ByteArray) : TwoX B w (wr.setCell ⟨g, 1, none⟩ (.string z)) (.slice (some ⟨g, 0, none⟩) 2 cap) x z := by
  obtain ⟨ho, hb, h0⟩ := h
  exact ⟨(ho.stored 1 (.string z)).1, hb.setCell (by show B ≤ g; omega) _, TwoX.blk h0 hg⟩
def stX (u v : ByteArray) (j : Nat) : ByteArray × ByteArray := if j = 0 then (u, v) else if j = 1 then (undot u, v) else (undot u, undot v)
set_option maxRecDepth 20000 in
set_option maxHeartbeats 4000000 in
theorem specParseRule_x (s u v : ByteArray) (w : World) (hs : RuleTx s u v) :
    Calls Tryz.prog 125 #[.string s] w fun e w' => e = .returned (.tuple #[.agg #[.string (undot u), .string (undot v)], .bool true]) ∧ Below w.heap.size w w' := by
  have HSP := Lib.hid (fun W => specSplitAny_x s 62 W hs.size)
  have HX := Lib.hid hs
  have hzs := hs.size
  have hzu := hs.small.1
  have hzv := hs.small.2
  have hz1 : (⟨#[]⟩ : ByteArray).size = 0 := rfl
  clear hs
  rw [HX.out.split] at HSP
  go_enter Tryz.func125, Tryz.ntmps125
  go_wp2_with fail
  refine (HSP.out _).mono ?_
  rintro e w2 ⟨a, cap, rfl, ho, hb2⟩
  have hb0 := (hb2.block w.heap.size (by simp)).trans (alloc_at w (.cells #[.string ⟨#[]⟩, .string ⟨#[]⟩] 39))
  have HW1 := Lib.hid ((Below.refl w.heap.size w).alloc (Nat.le_refl _) (.cells #[.string ⟨#[]⟩, .string ⟨#[]⟩] 39))
  have HT : Hid (TwoX w.heap.size w w2 (.slice a 2 cap) u v) := Lib.hid ⟨by simpa [strVals] using ho, Below.now HW1.out hb2, hb0⟩
  have HZ0 : Hid (w2.heap[w.heap.size]? = some (.cells #[.string ⟨#[]⟩, .string ⟨#[]⟩] 39 (0, 0))) := Lib.hid hb0
  clear hb2 ho hb0 HSP
  obtain ⟨g, rfl, hg, _⟩ := HT.out.form
  simp only [List.length_cons, List.length_nil, Nat.zero_add, Nat.reduceAdd]
  go_wp2_with fail
  go_loopw [16] (fun i wr => ∃ j : Nat, j ≤ 2 ∧ i = .int .i64 (j : Nat) ∧ Hid (TwoX w.heap.size w wr (.slice (some ⟨g, 0, none⟩) 2 cap) (stX u v j).1 (stX u v j).2)) (fun i _ => 2 - (intOf i).toNat)
  case atStart => exact ⟨0, by omega, rfl, HT⟩
  case round =>
    clear HT HZ0
    obtain ⟨j, hj, rfl, HT⟩ := hrel
    have hj3 : j = 0 ∨ j = 1 ∨ j = 2 := by omega
    rcases hj3 with rfl | rfl | rfl
    · have HT0 : Hid (TwoX w.heap.size w wr (.slice (some ⟨g, 0, none⟩) 2 cap) u v) := HT
      clear HT
      obtain ⟨ho, hb, h0⟩ := HT0.out
      have c0 : wr.cell? ⟨g, 0, none⟩ = some (.string u) := ho.cellAt 0 (by omega)
      have f0 := ho.frozenAt 0
      cases hq : (u.toList == [46])
      · have HN : Hid (TwoX w.heap.size w wr (.slice (some ⟨g, 0, none⟩) 2 cap) (stX u v 1).1 (stX u v 1).2) := Lib.hid (by
          have e := undot_no hq
          show TwoX w.heap.size w wr (.slice (some ⟨g, 0, none⟩) 2 cap) (undot u) v
          rw [e]; exact HT0.out)
        clear ho hb h0
        go_wp2_with fail
        go_roundw
        case rel => exact ⟨1, by omega, by go_num, HN⟩
        case measure => simp [intOf]
      · have HN : Hid (TwoX w.heap.size w (wr.setCell ⟨g, 0, none⟩ (.string ⟨#[]⟩)) (.slice (some ⟨g, 0, none⟩) 2 cap) (stX u v 1).1 (stX u v 1).2) := Lib.hid (by
          have e := undot_yes hq
          show TwoX w.heap.size w _ (.slice (some ⟨g, 0, none⟩) 2 cap) (undot u) v
          rw [e]; exact HT0.out.store0 hg _)
        clear ho hb h0
        go_wp2_with fail
        go_roundw
        case rel => exact ⟨1, by omega, by go_num, HN⟩
        case measure => simp [intOf]
    · have HT0 : Hid (TwoX w.heap.size w wr (.slice (some ⟨g, 0, none⟩) 2 cap) (undot u) v) := HT
      clear HT
      obtain ⟨ho, hb, h0⟩ := HT0.out
      have c1 : wr.cell? ⟨g, 1, none⟩ = some (.string v) := ho.cellAt 1 (by omega)
      have f1 := ho.frozenAt 1
      cases hq : (v.toList == [46])
      · have HN : Hid (TwoX w.heap.size w wr (.slice (some ⟨g, 0, none⟩) 2 cap) (stX u v 2).1 (stX u v 2).2) := Lib.hid (by
          have e := undot_no hq
          show TwoX w.heap.size w wr (.slice (some ⟨g, 0, none⟩) 2 cap) (undot u) (undot v)
          rw [e]; exact HT0.out)
        clear ho hb h0
        go_wp2_with fail
        go_roundw
        case rel => exact ⟨2, by omega, by go_num, HN⟩
        case measure => simp [intOf]
      · have HN : Hid (TwoX w.heap.size w (wr.setCell ⟨g, 1, none⟩ (.string ⟨#[]⟩)) (.slice (some ⟨g, 0, none⟩) 2 cap) (stX u v 2).1 (stX u v 2).2) := Lib.hid (by
          have e := undot_yes hq
          show TwoX w.heap.size w _ (.slice (some ⟨g, 0, none⟩) 2 cap) (undot u) (undot v)
          rw [e]; exact HT0.out.store1 hg _)
        clear ho hb h0
        go_wp2_with fail
        go_roundw
        case rel => exact ⟨2, by omega, by go_num, HN⟩
        case measure => simp [intOf]
    · have HT0 : Hid (TwoX w.heap.size w wr (.slice (some ⟨g, 0, none⟩) 2 cap) (undot u) (undot v)) := HT
      clear HT
      obtain ⟨ho, hb, h0⟩ := HT0.out
      have H0 := Lib.hid h0
      have hx : (undot u).size ≤ s.size := Nat.le_trans (undot_size u) hzu
      have hy : (undot v).size ≤ s.size := Nat.le_trans (undot_size v) hzv
      have h1 := HX.out.w1
      have h2 := HX.out.w2
      have hq : ((ruleT (undot u, undot v)).toList == s.toList) = true := by rw [HX.out.text]; simp
      clear HX HT0
      obtain ⟨x, hxe⟩ : ∃ x, undot u = x := ⟨_, rfl⟩
      obtain ⟨y, hye⟩ : ∃ y, undot v = y := ⟨_, rfl⟩
      rw [hxe] at ho hx h1 hq
      rw [hye] at ho hy h2 hq
      have HXE := Lib.hid hxe
      have HYE := Lib.hid hye
      clear hxe hye
      have c0 : wr.cell? ⟨g, 0, none⟩ = some (.string x) := ho.cellAt 0 (by omega)
      have c1 : wr.cell? ⟨g, 1, none⟩ = some (.string y) := ho.cellAt 1 (by omega)
      have p0 : ∀ o, (wr.alloc o).cell? ⟨g, 0, none⟩ = some (.string x) := fun o => by rw [(alloc_belowS wr o).cell (World.block_lt_of_cell? wr _ c0)]; exact c0
      have p1 : ∀ o, (wr.alloc o).cell? ⟨g, 1, none⟩ = some (.string y) := fun o => by rw [(alloc_belowS wr o).cell (World.block_lt_of_cell? wr _ c1)]; exact c1
      clear ho h0
      have HQ := Lib.hid hq
      have H1 := Lib.hid h1
      have H2 := Lib.hid h2
      clear hq h1 h2
      go_wp2_with fail
      go_upto_region 10 with fail
      go_cut [7] (fun v wx => v = .pointer (some ⟨wr.heap.size, 0, none⟩) ∧ wx.heap[wr.heap.size]? = some (.cells #[.string x, .string y] 39 (0, 0)) ∧ Below wr.heap.size wr wx)
      case first =>
        go_region_law (fail)
        all_goals
          go_wp2_with fail
          go_meet
          exact ⟨rfl, alloc_at wr _, Below.drew (alloc_belowS wr _)⟩
      case rest =>
        obtain ⟨rfl, hbx, hbc⟩ := hcut
        have hz := (hbc.block w.heap.size (Array.getElem?_eq_some_iff.1 H0.out).1).trans H0.out
        have HBW := Lib.hid (Below.now hb hbc)
        obtain ⟨s0, s1⟩ := sys_cells hbx
        clear hbc H0 p0 p1 c0 c1 hb
        have PW := Lib.hid (fun v W (h : v.size ≤ s.size) => specWordOk_any 4 v W (by unfold maxLen; omega))
        have HFR := Lib.hid (fun W => specFormatRule_any x y W (by unfold maxLen; omega))
        have HZ := Lib.hid hz
        have h1 := H1.out
        have h2 := H2.out
        clear hz H1 H2
        go_wp2_with (go_at_call 159; refine (PW.out _ _ (by first | exact hx | exact hy)).mono ?_; rintro e w' ⟨rfl, rfl⟩; (try rw [h1]); (try rw [h2]))
        refine (HFR.out _).mono ?_
        rintro e w3 ⟨rfl, hb3⟩
        have hz := (hb3.block w.heap.size (Array.getElem?_eq_some_iff.1 HZ.out).1).trans HZ.out
        obtain ⟨s0, s1⟩ := sys_cells ((hb3.block wr.heap.size (Array.getElem?_eq_some_iff.1 hbx).1).trans hbx)
        replace HBW := Lib.hid (Below.now HBW.out hb3)
        have hq := HQ.out
        clear hb3 hbx HZ HFR PW HQ
        generalize ruleT (x, y) = rt at *
        have F : Hid (Below w.heap.size w ((w3.setCell ⟨w.heap.size, 0, none⟩ (.string x)).setCell ⟨w.heap.size, 1, none⟩ (.string y))) := Lib.hid ((HBW.out.setCell (Nat.le_refl _) _).setCell (Nat.le_refl _) _)
        obtain ⟨z0, z1⟩ := sys_cells hz
        obtain ⟨u0, u1⟩ := sys_cells (set_two hz (.string x) (.string y))
        have ff0 : w3.frozen? ⟨w.heap.size, 0, none⟩ = false := by simp [World.frozen?, hz]
        have ff1 : w3.frozen? ⟨w.heap.size, 1, none⟩ = false := by simp [World.frozen?, hz]
        clear hz
        go_wp2_with fail
        refine bodyPost_ret (v := .tuple #[.agg #[.string x, .string y], .bool true]) ?_ rfl ⟨by rw [HXE.out, HYE.out], F.out⟩
        simp [results, Tryz.results125, go_sem, u0, u1]
end Go.Proofs.YtgoeadgpbidgiaaGreatDoor
namespace Go.Proofs.YtgoeadgpbidgiaaGreatDoor
open Go.RowKit
set_option linter.unusedVariables false
section
variable {P : Program}
/-- append of one element to a row that lies from H on, at a plain region's list -/
theorem wpList_appH {ops : Array Oper} {rest : List Oper} {o : Oper} {a : Act} {Q : Exit → Act → World → Prop} {T tsl : TypeId} {z : Value} {size bytes : Nat} (hg : o.guard = none) (s x : Operand)
    (ho : o.op = .call { callee := .builtin .append, args := #[s, x], argTypes := #[tsl, tsl] }) (ht : P.underlying tsl = some (.slice T)) (hinfo : (P.info? T).map (fun i => (i.zero, i.size, i.bytes)) = some (some z, size, bytes))
    (hzs : z.cells.size = size) (hpos : 0 < size) {H : Nat} {wr : World} {v : Value} {n : Nat} {xs news : List Value} (hs : a.eval s = v) (hb : wr.ownsRow H T size v n xs) (hH : H ≤ wr.heap.size) (hx : a.eval x = .slice (some ⟨wr.heap.size, 0, none⟩) 1 1)
    (hn : news.length = size) (h1 : ∀ u ∈ news, u.oneCell' = true) (h63 : n + 1 ≤ maxLen) (hbytes : (n + 1) * bytes ≤ 140737488355328)
    (hK : ∀ g cap w', w'.ownsRow H T size (.slice (some ⟨g, 0, none⟩) (n + 1) cap) (n + 1) (xs ++ news) → (wr.alloc (.cells news.toArray T)).grownBy w' v.ownBlock → ((Value.slice (some ⟨g, 0, none⟩) (n + 1) cap).ownBlock = v.ownBlock ∨ (Value.slice (some ⟨g, 0, none⟩) (n + 1) cap).ownBlock = some (wr.alloc (.cells news.toArray T)).heap.size) → wpList P ops Q rest (a.put o.dst (.slice (some ⟨g, 0, none⟩) (n + 1) cap)) w') :
    wpList P ops Q (o :: rest) a (wr.alloc (.cells news.toArray T)) := by
  obtain ⟨i0, hi, hz0, hz1, hz2⟩ := info_parts hinfo
  refine wpList_append_lies (w := wr.alloc (.cells news.toArray T)) hg s x tsl ho H T i0 z size bytes ht hi hz0 hz1 hz2 hzs hpos v n xs hs (hb.alloc _) ⟨wr.heap.size, 0, none⟩ 1 1 news hx (by omega) ?_ h1 (by omega) h63 hbytes ?_ _ rfl ?_
  · intro j u hu
    have hadd : (⟨wr.heap.size, 0, none⟩ : Addr).add j = ⟨wr.heap.size, j, none⟩ := by unfold Addr.add; split <;> simp_all
    rw [hadd, World.cell?_alloc_new]
    simpa using hu
  · simp; omega
  · intro g cap w' hown hgr ho _
    refine hK g cap w' hown hgr ?_
    rcases ho with ho | ho
    · exact .inl ho.symm
    · exact .inr (by rw [ho]; rfl)
end
end Go.Proofs.YtgoeadgpbidgiaaGreatDoor
namespace Go.Proofs.YtgoeadgpbidgiaaGreatDoor
open Go.RowKit
set_option linter.unusedVariables false
/-- rules whose sides have at most m bytes -/
def ShortR (m : Nat) (R : List RulD) : Prop := ∀ r ∈ R, r.1.size ≤ m ∧ r.2.size ≤ m
theorem ShortR.app {m : Nat} {R : List RulD} {r : RulD} (h : ShortR m R) (hr : r.1.size ≤ m ∧ r.2.size ≤ m) : ShortR m (R ++ [r]) := by
  intro x hx
  rcases List.mem_append.1 hx with h1 | h1
  · exact h x h1
  · obtain rfl : x = r := by simpa using h1
    exact hr
theorem ShortR.sz {m : Nat} {R : List RulD} (h : ShortR m R) (hm : m ≤ maxLen) : SzR R := fun j hj => ⟨Nat.le_trans (h _ (nthR_mem hj)).1 hm, Nat.le_trans (h _ (nthR_mem hj)).2 hm⟩
/-- some system in memory -/
def RetPS (m : Nat) (w : World) (e : Ending) (w' : World) : Prop := ∃ (k : Int) (R : List RulD) (a : Option Addr) (cap : Nat) (b : Bool),
  (ShortR m R ∧ R.length ≤ m) ∧ e = .returned (.tuple #[.agg #[.int .i64 k, .slice a R.length cap], .bool b]) ∧ RulesIn w' a R ∧ Below w.heap.size w w'
theorem RetPS.zero {m : Nat} {w wr : World} (h : Below w.heap.size w wr) : RetPS m w (.returned (.tuple #[.agg #[.int .i64 0, .slice none 0 0], .bool false])) ((wr.setCell ⟨w.heap.size, 0, none⟩ (.int .i64 0)).setCell ⟨w.heap.size, 1, none⟩ (.slice none 0 0)) :=
  ⟨0, [], none, 0, false, ⟨fun r hr => by simp at hr, Nat.zero_le _⟩, rfl, .inl rfl, (h.setCell (Nat.le_refl _) _).setCell (Nat.le_refl _) _⟩
set_option maxRecDepth 20000 in
set_option maxHeartbeats 4000000 in
theorem specParseSystem_any (s : ByteArray) (w : World) (hs : s.size ≤ 1000) :
    Calls Tryz.prog 77 #[.string s] w (RetPS (s.size + 1) w) := by
  have HSP := Lib.hid (fun W => specSplitAny_any s 32 W (by omega))
  have HW1 := Lib.hid ((Below.refl w.heap.size w).alloc (Nat.le_refl _) (.cells #[.int .i64 0, .slice none 0 0] 33))
  go_enter Tryz.func77, Tryz.ntmps77
  go_wp2_with fail
  refine (HSP.out _).mono ?_
  rintro e w2 ⟨l, ⟨hl1, hl2, hl3⟩, a, cap, rfl, ho, hb2⟩
  have hb0 := (hb2.block w.heap.size (by simp)).trans (alloc_at w (.cells #[.int .i64 0, .slice none 0 0] 33))
  have hcap := owns_capS ho
  obtain ⟨g, hg, off, rfl, hcells⟩ : ∃ g, g < w2.heap.size ∧ ∃ off, a = some ⟨g, off, none⟩ ∧ ∀ j, j < l.length → w2.cell? ⟨g, off + j, none⟩ = some (.string (nthS l j)) := by
    obtain ⟨b, off, ha, hb, hc⟩ := (owns_strs ho).cell (show 0 < l.length by omega)
    exact ⟨b, hb, off, ha, hc⟩
  have hc0 : w2.cell? ⟨g, off, none⟩ = some (.string (nthS l 0)) := hcells 0 (by omega)
  have hz0 := hl1.at_ (show 0 < l.length by omega)
  have HPI := Lib.hid (fun W => specParseInt_any (nthS l 0) W (by omega))
  have HB2 := Lib.hid (Below.now HW1.out hb2)
  have HC := Lib.hid hcells
  have HO := Lib.hid hb0
  clear hcells hb2 ho hz0 hb0
  generalize nthS l 0 = s0 at *
  go_wp2_with fail
  refine (HPI.out _).mono ?_
  rintro e w3 ⟨n, b, ⟨hn1, hn2⟩, rfl, hb3⟩
  have hb0 := (hb3.block w.heap.size (Array.getElem?_eq_some_iff.1 HO.out).1).trans HO.out
  have HB3 := Lib.hid (Below.now HB2.out hb3)
  have HC3 : Hid (∀ j, j < l.length → w3.cell? ⟨g, off + j, none⟩ = some (.string (nthS l j))) := Lib.hid (fun j hj => by rw [hb3.cell (World.block_lt_of_cell? w2 _ (HC.out j hj))]; exact HC.out j hj)
  clear hb3 HC HO HPI hc0
  cases b
  · have F := Lib.hid (RetPS.zero (m := s.size + 1) HB3.out)
    obtain ⟨z0, z1⟩ := sys_cells hb0
    obtain ⟨u0, u1⟩ := sys_cells (set_two hb0 (.int .i64 0) (.slice none 0 0))
    have ff0 : w3.frozen? ⟨w.heap.size, 0, none⟩ = false := by simp [World.frozen?, hb0]
    have ff1 : w3.frozen? ⟨w.heap.size, 1, none⟩ = false := by simp [World.frozen?, hb0]
    clear hb0
    go_wp2_with fail
    refine bodyPost_ret (v := .tuple #[.agg #[.int .i64 0, .slice none 0 0], .bool false]) ?_ rfl F.out
    simp [results, Tryz.results77, go_sem, u0, u1]
  · have HR := Lib.hid (Rec2.start 33 39 2 (w := w3) (w1 := w3) (Below.refl _ _) (.int .i64 n))
    obtain ⟨m, hm⟩ : ∃ m, l.length = m + 1 := ⟨l.length - 1, by omega⟩
    have HZ := Lib.hid hb0
    clear hb0
    go_upto_region 6 with fail
    generalize hW4 : w3.alloc (.cells #[.int .i64 n, .slice none 0 0] 33) = w4 at *
    go_cut [27, 28, 29] (fun v u i wx => ∃ off2 cap2, v = .slice (some ⟨g, off2, none⟩) m cap2 ∧ u = .int .i64 (m : Nat) ∧ i = .int .i64 0 ∧ (∀ j, j < m → w3.cell? ⟨g, off2 + j, none⟩ = some (.string (nthS l (j + 1)))) ∧ wx = w4)
    case first =>
      by_cases hc1 : cap = 1
      · subst hc1
        obtain rfl : m = 0 := by omega
        go_wp2_with fail
        go_meet
        exact ⟨_, _, rfl, rfl, rfl, fun j hj => by omega, rfl⟩
      · have hc2 : (1 : Int) < (cap : Int) := by omega
        have hc3 : ¬ (cap : Int) = 1 := by omega
        have HCC : Hid (∀ j, j < m → w3.cell? ⟨g, off + 1 + j, none⟩ = some (.string (nthS l (j + 1)))) := Lib.hid (fun j hj => by rw [show off + 1 + j = off + (j + 1) by omega]; exact HC3.out (j + 1) (by omega))
        go_wp2_with fail
        go_meet
        exact ⟨_, _, rfl, rfl, rfl, HCC.out, rfl⟩
    case rest =>
      obtain ⟨off2, cap2, rfl, rfl, rfl, hcs, rfl⟩ := hcut
      have HCS := Lib.hid hcs
      clear hcs HC3 hW4
      go_wp2_with fail
      go_loopw [29] (fun i wr => ∃ (R : List RulD) (v : Value), R.length ≤ m ∧ i = .int .i64 (R.length : Nat) ∧ Hid (ShortR s.size R) ∧ Hid (Rec2 33 39 2 w3 wr w3.heap.size (.int .i64 n) v R.length (ruleCells R))) (fun i _ => m - (intOf i).toNat)
      case atStart => exact ⟨[], .slice none 0 0, Nat.zero_le _, rfl, Lib.hid (fun r hr => by simp at hr), HR⟩
      case round =>
        clear HR
        obtain ⟨R, v, hj, rfl, hsh, HRC⟩ := hrel
        obtain ⟨a3, c3, rfl⟩ := owns_form HRC.out.own
        have HBW := Lib.hid (Below.now HB3.out HRC.out.below)
        have hz := (HRC.out.below.block w.heap.size (Array.getElem?_eq_some_iff.1 HZ.out).1).trans HZ.out
        have hsz := HRC.out.lt
        by_cases hlt : R.length < m
        · have cw : wr.cell? ⟨g, off2 + R.length, none⟩ = some (.string (nthS l (R.length + 1))) := by rw [HRC.out.below.cell (World.block_lt_of_cell? w3 _ (HCS.out R.length hlt))]; exact HCS.out R.length hlt
          have hnz := hl1.at_ (show R.length + 1 < l.length by omega)
          have HPR := Lib.hid (fun W => specParseRule_any (nthS l (R.length + 1)) W (by omega))
          generalize nthS l (R.length + 1) = sj at *
          have HZW := Lib.hid hz
          clear hz
          go_wp2_with fail
          refine (HPR.out _).mono ?_
          rintro e w5 ⟨x, y, b, ⟨hx, hy⟩, rfl, hb5⟩
          have HR5 := Lib.hid (HRC.out.later hb5)
          have HB5 := Lib.hid (Below.now HBW.out hb5)
          have hz5 := (hb5.block w.heap.size (Array.getElem?_eq_some_iff.1 HZW.out).1).trans HZW.out
          have HK6 := Lib.hid (fun o => alloc_belowS w5 o)
          have hz := ((HK6.out (.cells #[.string x, .string y] 39)).block w.heap.size (Array.getElem?_eq_some_iff.1 hz5).1).trans hz5
          have HR6 := Lib.hid (HR5.out.later (HK6.out (.cells #[.string x, .string y] 39)))
          replace HBW := Lib.hid (Below.now HB5.out (HK6.out (.cells #[.string x, .string y] 39)))
          obtain ⟨n0, n1⟩ := sys_cells (alloc_at w5 (.cells #[.string x, .string y] 39))
          clear HRC HZW cw hb5 HR5 HB5 hz5 HK6 HPR
          go_upto_region 10 with fail
          generalize w5.alloc (.cells #[.string x, .string y] 39) = w6 at *
          cases b
          · have F := Lib.hid (RetPS.zero (m := s.size + 1) HBW.out)
            obtain ⟨z0, z1⟩ := sys_cells hz
            obtain ⟨u0, u1⟩ := sys_cells (set_two hz (.int .i64 0) (.slice none 0 0))
            have ff0 : w6.frozen? ⟨w.heap.size, 0, none⟩ = false := by simp [World.frozen?, hz]
            have ff1 : w6.frozen? ⟨w.heap.size, 1, none⟩ = false := by simp [World.frozen?, hz]
            clear hz
            go_wp2_with fail
            refine bodyPost_ret (v := .tuple #[.agg #[.int .i64 0, .slice none 0 0], .bool false]) ?_ rfl F.out
            simp [results, Tryz.results77, go_sem, u0, u1]
          · have HN1 : Hid ([Value.string x, .string y].length = 1 * 2) := Lib.hid rfl
            have HN2 : Hid (∀ v ∈ [Value.string x, .string y], v.oneCell' = true) := Lib.hid (fun v hv => by simp at hv; rcases hv with rfl | rfl <;> rfl)
            obtain ⟨_, y1, _, y3⟩ := HR6.out.facts
            clear hz
            go_wp2_with (at_builtin; refine wpList_appH (n := R.length) (wr := w6) (news := [Value.string x, .string y]) rfl (.tmp 42) (.tmp 44) rfl Tryz.underlying25 Tryz.infoRule rfl (by decide) rfl HR6.out.own HR6.out.lt rfl HN1.out HN2.out (by unfold maxLen; omega) (by omega) ?_; intro g4 c4 w4 ho4 hg4 hr4; obtain ⟨_, x1, _, x3⟩ := rec_cells (HR6.out.grown (Below.refl _ _) hg4))
            have HR4 : Hid (Rec2 33 39 2 w3 (w4.setCell ⟨w3.heap.size, 1, none⟩ (.slice (some ⟨g4, 0, none⟩) (R.length + 1) c4)) w3.heap.size (.int .i64 n) (.slice (some ⟨g4, 0, none⟩) (R.length + 1) c4) (R ++ [(x, y)]).length (ruleCells (R ++ [(x, y)]))) := Lib.hid (by
              rw [List.length_append, ruleCells_app, show ruleCells [(x, y)] = [Value.string x, .string y] from rfl]; exact HR6.out.put (Below.refl _ _) hg4 ho4)
            have HSH := Lib.hid (hsh.out.app (r := (x, y)) ⟨by show x.size ≤ s.size; omega, by show y.size ≤ s.size; omega⟩)
            clear ho4 hg4 hr4 y1 y3 n0 n1 x1 x3
            go_wp2_with fail
            go_roundw
            case rel => exact ⟨R ++ [(x, y)], _, by simp; omega, by simp, HSH, HR4⟩
            case measure => simp [intOf]; omega
        · obtain rfl : m = R.length := by omega
          have HRO := Lib.hid (fun W h => specRulesOk_any n R a3 c3 W h (by omega) (hsh.out.sz (by unfold maxLen; omega)))
          have HFS := Lib.hid (fun W h => specFormatSystem_any n R a3 c3 W h (by omega) (hsh.out.sz (by unfold maxLen; omega)))
          have HRI := Lib.hid (owns_rules HRC.out.own)
          obtain ⟨y0, y1, _, _⟩ := HRC.out.facts
          have HZW := Lib.hid hz
          clear hz
          go_wp2_with fail
          refine (HRO.out _ HRI.out).mono ?_
          rintro e w5 ⟨bb, hbb, rfl, hb5⟩
          have HR5 := Lib.hid (HRC.out.later hb5)
          replace HBW := Lib.hid (Below.now HBW.out hb5)
          have hz := (hb5.block w.heap.size (Array.getElem?_eq_some_iff.1 HZW.out).1).trans HZW.out
          clear HRC HZW hb5 HRO hbb y0 y1 HRI
          cases bb
          · have F := Lib.hid (RetPS.zero (m := s.size + 1) HBW.out)
            obtain ⟨z0, z1⟩ := sys_cells hz
            obtain ⟨u0, u1⟩ := sys_cells (set_two hz (.int .i64 0) (.slice none 0 0))
            have ff0 : w5.frozen? ⟨w.heap.size, 0, none⟩ = false := by simp [World.frozen?, hz]
            have ff1 : w5.frozen? ⟨w.heap.size, 1, none⟩ = false := by simp [World.frozen?, hz]
            clear hz
            go_wp2_with fail
            refine bodyPost_ret (v := .tuple #[.agg #[.int .i64 0, .slice none 0 0], .bool false]) ?_ rfl F.out
            simp [results, Tryz.results77, go_sem, u0, u1]
          · have HRI := Lib.hid (owns_rules HR5.out.own)
            obtain ⟨y0, y1, _, _⟩ := HR5.out.facts
            have HZW := Lib.hid hz
            clear hz
            go_wp2_with fail
            refine (HFS.out _ HRI.out).mono ?_
            rintro e w6 ⟨rfl, hb6⟩
            have HR6 := Lib.hid (HR5.out.later hb6)
            replace HBW := Lib.hid (Below.now HBW.out hb6)
            have hz := (hb6.block w.heap.size (Array.getElem?_eq_some_iff.1 HZW.out).1).trans HZW.out
            clear HR5 HZW hb6 HFS y0 y1 HRI
            generalize sysT0 n R = st at *
            cases hq : (st.toList == s.toList)
            · have F := Lib.hid (RetPS.zero (m := s.size + 1) HBW.out)
              obtain ⟨z0, z1⟩ := sys_cells hz
              obtain ⟨u0, u1⟩ := sys_cells (set_two hz (.int .i64 0) (.slice none 0 0))
              have ff0 : w6.frozen? ⟨w.heap.size, 0, none⟩ = false := by simp [World.frozen?, hz]
              have ff1 : w6.frozen? ⟨w.heap.size, 1, none⟩ = false := by simp [World.frozen?, hz]
              clear hz
              go_wp2_with fail
              refine bodyPost_ret (v := .tuple #[.agg #[.int .i64 0, .slice none 0 0], .bool false]) ?_ rfl F.out
              simp [results, Tryz.results77, go_sem, u0, u1]
            · have F : Hid (RetPS (s.size + 1) w (.returned (.tuple #[.agg #[.int .i64 n, .slice a3 R.length c3], .bool true])) ((w6.setCell ⟨w.heap.size, 0, none⟩ (.int .i64 n)).setCell ⟨w.heap.size, 1, none⟩ (.slice a3 R.length c3))) := Lib.hid ⟨n, R, a3, c3, true, ⟨fun r hr => ⟨Nat.le_trans (hsh.out r hr).1 (by omega), Nat.le_trans (hsh.out r hr).2 (by omega)⟩, by omega⟩, rfl,
                owns_rules (ownsRow_setCell_below (ownsRow_setCell_below HR6.out.own (by show w.heap.size < w3.heap.size + 1; have := HB3.out.size; omega) _) (by show w.heap.size < w3.heap.size + 1; have := HB3.out.size; omega) _), (HBW.out.setCell (Nat.le_refl _) _).setCell (Nat.le_refl _) _⟩
              obtain ⟨y0, y1, _, _⟩ := HR6.out.facts
              obtain ⟨z0, z1⟩ := sys_cells hz
              obtain ⟨u0, u1⟩ := sys_cells (set_two hz (.int .i64 n) (.slice a3 R.length c3))
              have ff0 : w6.frozen? ⟨w.heap.size, 0, none⟩ = false := by simp [World.frozen?, hz]
              have ff1 : w6.frozen? ⟨w.heap.size, 1, none⟩ = false := by simp [World.frozen?, hz]
              clear hz
              go_wp2_with fail
              refine bodyPost_ret (v := .tuple #[.agg #[.int .i64 n, .slice a3 R.length c3], .bool true]) ?_ rfl F.out
              simp [results, Tryz.results77, go_sem, u0, u1]
end Go.Proofs.YtgoeadgpbidgiaaGreatDoor
