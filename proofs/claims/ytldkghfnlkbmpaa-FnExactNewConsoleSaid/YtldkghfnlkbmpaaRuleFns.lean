/-
  A list of one rule: compared, marked, held.
-/
import Derived.Test.YtldkghfnlkbmpaaLetters
import Derived.Test.YtldkghfnlkbmpaaMem
namespace Go.Proofs.Ytldkghfnlkbmpaa
open Go.RowKit
set_option linter.unusedVariables false
/-- a block that holds a rule -/
def RuleAt (W : World) (g : Nat) (x y : ByteArray) : Prop := ∃ cur, W.heap[g]? = some (.cells cur 82 (0, 0)) ∧ cur[0]? = some (.string x) ∧ cur[1]? = some (.string y)
theorem RuleAt.cells {W : World} {g : Nat} {x y : ByteArray} (h : RuleAt W g x y) : W.cell? ⟨g, 0, none⟩ = some (.string x) ∧ W.cell? ⟨g, 1, none⟩ = some (.string y) ∧ W.frozen? ⟨g, 0, none⟩ = false ∧ W.frozen? ⟨g, 1, none⟩ = false := by
  obtain ⟨cur, h1, h2, h3⟩ := h
  refine ⟨by simp [World.cell?, h1, h2], by simp [World.cell?, h1, h3], by simp [World.frozen?, h1], by simp [World.frozen?, h1]⟩
theorem RuleAt.lt {W : World} {g : Nat} {x y : ByteArray} (h : RuleAt W g x y) : g < W.heap.size := by
  obtain ⟨cur, h1, _⟩ := h
  exact (Array.getElem?_eq_some_iff.1 h1).1
theorem RuleAt.later {W W' : World} {g : Nat} {x y : ByteArray} {n : Nat} (h : RuleAt W g x y) (hb : Below n W W') (hn : g < n) : RuleAt W' g x y := by
  obtain ⟨cur, h1, h2, h3⟩ := h
  exact ⟨cur, by rw [hb.block g hn]; exact h1, h2, h3⟩
theorem RuleAt.now {W W' : World} {g : Nat} {x y : ByteArray} (h : RuleAt W g x y) (hb : Below W.heap.size W W') : RuleAt W' g x y := h.later hb h.lt
theorem RuleAt.set0 {W : World} {g : Nat} {x y : ByteArray} (h : RuleAt W g x y) (a : ByteArray) : RuleAt (W.setCell ⟨g, 0, none⟩ (.string a)) g a y := by
  obtain ⟨cur, h1, h2, h3⟩ := h
  have h0 := (Array.getElem?_eq_some_iff.1 h2).1
  refine ⟨cur.setIfInBounds 0 (.string a), ?_, by simp [h0], by simp [h3]⟩
  unfold World.setCell
  rw [Array.getElem?_modify, if_pos rfl, h1]
  simp
theorem RuleAt.set1 {W : World} {g : Nat} {x y : ByteArray} (h : RuleAt W g x y) (a : ByteArray) : RuleAt (W.setCell ⟨g, 1, none⟩ (.string a)) g x a := by
  obtain ⟨cur, h1, h2, h3⟩ := h
  have h0 := (Array.getElem?_eq_some_iff.1 h3).1
  refine ⟨cur.setIfInBounds 1 (.string a), ?_, by simp [h2], by simp [h0]⟩
  unfold World.setCell
  rw [Array.getElem?_modify, if_pos rfl, h1]
  simp
theorem setg (w : World) (b o : Nat) (v : Value) : w.grownBy (w.setCell ⟨b, o, none⟩ v) (some b) := by
  have hszc : (w.setCell ⟨b, o, none⟩ v).heap.size = w.heap.size := by simp
  exact ⟨rfl, rfl, rfl, by rw [hszc]; exact Nat.le_refl _, fun k hk hne => by
    unfold World.setCell
    rw [Array.getElem?_modify, if_neg (fun e : b = k => hne (by rw [e]))]⟩
/-- the rule is marked -/
def MarkedR (w : World) (g : Nat) (a b : ByteArray) (wr : World) : Prop := w.grownBy wr (some g) ∧ RuleAt wr g a b
theorem markedR_end {w w2 w4 : World} {g : Nat} {x y a b : ByteArray} (h : RuleAt w g x y) (h2 : Below w.heap.size w w2) (h4 : Below (w2.setCell ⟨g, 0, none⟩ (.string a)).heap.size (w2.setCell ⟨g, 0, none⟩ (.string a)) w4) :
    MarkedR w g a b (w4.setCell ⟨g, 1, none⟩ (.string b)) := by
  have r2 := (h.now h2).set0 a
  have g2 := setg w2 g 0 (.string a)
  have g4 := setg w4 g 1 (.string b)
  have z : (w2.setCell ⟨g, 0, none⟩ (.string a)).heap.size = w2.heap.size := by simp
  refine ⟨⟨g4.os.trans (h4.os.trans (g2.os.trans h2.os)), g4.tape.trans (h4.tape.trans (g2.tape.trans h2.tape)), g4.output.trans (h4.output.trans (g2.output.trans h2.output)), Nat.le_trans h2.size (Nat.le_trans g2.size (Nat.le_trans h4.size g4.size)), fun k hk hne => ?_⟩, (r2.now h4).set1 b⟩
  have k2 : k < w2.heap.size := Nat.lt_of_lt_of_le hk h2.size
  rw [g4.block k (Nat.lt_of_lt_of_le (by omega) h4.size) hne, h4.block k (by omega), g2.block k k2 hne, h2.block k hk]
def digW (K : Nat) : ByteArray := oneC (48 + (K : Int) % 10) ++ ⟨#[]⟩
def markW (K : Nat) : ByteArray := ⟨#[109]⟩ ++ digW K
theorem oneC_size1 (x : Int) : (oneC x).size = 1 := rfl
theorem digW_size (K : Nat) : (digW K).size = 1 := by unfold digW; rw [ByteArray.size_append, oneC_size1]; rfl
theorem markW_size (K : Nat) : (markW K).size = 2 := by unfold markW; rw [ByteArray.size_append, digW_size]; rfl
set_option maxRecDepth 20000 in
set_option maxHeartbeats 1000000 in
theorem markText_any (K : Nat) (h1 : 1 ≤ K) (h9 : K ≤ 9) (w : World) :
    Calls Try.prog 69 #[.int .i64 (K : Nat)] w fun e w' => e = .returned (.string (markW K)) ∧ Below w.heap.size w w' := by
  have kc := convC
  have hos := oneC_size1
  have hds := digW_size K
  go_enter Try.func69, Try.ntmps69
  go_wp2_with fail
  go_loopw [0, 3] (fun v s wr => (v = .int .i64 (K : Nat) ∧ s = .string ⟨#[]⟩ ∧ Below w.heap.size w wr) ∨ (v = .int .i64 0 ∧ s = .string (digW K) ∧ Below w.heap.size w wr)) (fun v _ _ => (intOf v).toNat)
  case atStart => exact .inl ⟨rfl, rfl, Below.refl _ _⟩
  case round =>
    rcases hrel with ⟨rfl, rfl, hbw⟩ | ⟨rfl, rfl, hbw⟩
    · go_wp2_with fail
      go_roundw
      case rel => exact .inr ⟨by simp; try omega, rfl, hbw.alloc hbw.size _⟩
      case measure => simp [intOf]; omega
    · go_wp2_with fail
      go_ret
      exact ⟨rfl, hbw⟩
theorem eqRule_same (x y : ByteArray) (w : World) :
    Calls Try.prog 76 #[.agg #[.string x, .string y], .agg #[.string x, .string y]] w fun e w' => e = .returned (.bool true) ∧ Below w.heap.size w w' := by
  go_enter Try.func76, Try.ntmps76
  go_wp2_with fail
  go_ret
  exact ⟨rfl, by repeat (first | exact Below.refl _ _ | refine Below.alloc ?_ (by simp; try omega) _)⟩
set_option maxRecDepth 20000 in
set_option maxHeartbeats 1000000 in
theorem eqRuleS_one (x y : ByteArray) (g1 g2 c1 c2 : Nat) (w : World) (h1 : RuleAt w g1 x y) (h2 : RuleAt w g2 x y) :
    Calls Try.prog 40 #[.slice (some ⟨g1, 0, none⟩) 1 c1, .slice (some ⟨g2, 0, none⟩) 1 c2] w fun e w' => e = .returned (.bool true) ∧ Below w.heap.size w w' := by
  have H1 := Lib.hid h1
  have H2 := Lib.hid h2
  clear h1 h2
  go_enter Try.func40, Try.ntmps40
  go_wp2
  go_loopw [5] (fun i wr => (i = .int .i64 0 ∧ Below w.heap.size w wr) ∨ (i = .int .i64 1 ∧ Below w.heap.size w wr)) (fun i _ => 1 - (intOf i).toNat)
  case atStart => exact .inl ⟨rfl, Below.refl _ _⟩
  case round =>
    rcases hrel with ⟨rfl, hbel⟩ | ⟨rfl, hbel⟩
    · have c1 := (H1.out.now hbel).cells
      have c2 := (H2.out.now hbel).cells
      have q1 : ∀ x', (wide wr x').cell? ⟨g1, 0, none⟩ = some (.string x) := wide_cell c1.1
      have q2 : ∀ x', (wide wr x').cell? ⟨g1, 1, none⟩ = some (.string y) := wide_cell c1.2.1
      have q3 : ∀ x', (wide wr x').cell? ⟨g2, 0, none⟩ = some (.string x) := wide_cell c2.1
      have q4 : ∀ x', (wide wr x').cell? ⟨g2, 1, none⟩ = some (.string y) := wide_cell c2.2.1
      clear c1 c2
      go_wp2_with fail
      refine region_wide (by kernel_rfl) (by kernel_rfl) ?_
      repeat (quiet_step ((go_at_call 76; refine (eqRule_same _ _ _).mono ?_; rintro e w2 ⟨rfl, hb2⟩; exact ⟨rfl, wide_next hb2⟩)))
      refine wpQuiet_nil ?_
      rintro w4 ⟨x4, rfl⟩
      have hbel2 := Below.now hbel (below_wide wr x4)
      clear hbel q1 q2 q3 q4
      go_wp2_with fail
      go_roundw
      case rel => exact .inr ⟨by go_num, hbel2⟩
      case measure => simp [intOf]
    · go_wp2_with fail
      go_ret
      exact ⟨rfl, hbel⟩
set_option maxRecDepth 20000 in
set_option maxHeartbeats 1000000 in
theorem heldRuleS_one (g c : Nat) (w : World) (h1 : RuleAt w g (markW 1) (markW 2)) :
    Calls Try.prog 42 #[.slice (some ⟨g, 0, none⟩) 1 c, .int .i64 1] w fun e w' => e = .returned (.int .i64 3) ∧ Below w.heap.size w w' := by
  have H1 := Lib.hid h1
  have M1 : Hid (∀ W, Calls Try.prog 69 #[.int .i64 1] W fun e w' => e = .returned (.string (markW 1)) ∧ Below W.heap.size W w') := Lib.hid (fun W => markText_any 1 (by omega) (by omega) W)
  have M2 : Hid (∀ W, Calls Try.prog 69 #[.int .i64 2] W fun e w' => e = .returned (.string (markW 2)) ∧ Below W.heap.size W w') := Lib.hid (fun W => markText_any 2 (by omega) (by omega) W)
  clear h1
  generalize markW 1 = m1 at *
  generalize markW 2 = m2 at *
  go_enter Try.func42, Try.ntmps42
  go_wp2_with fail
  go_loopw [1, 5] (fun k i wr => (k = .int .i64 1 ∧ i = .int .i64 0 ∧ Below w.heap.size w wr) ∨ (k = .int .i64 3 ∧ i = .int .i64 1 ∧ Below w.heap.size w wr)) (fun _ i _ => 1 - (intOf i).toNat)
  case atStart => exact .inl ⟨rfl, rfl, Below.refl _ _⟩
  case round =>
    rcases hrel with ⟨rfl, rfl, hbel⟩ | ⟨rfl, rfl, hbel⟩
    · have c1 := (H1.out.now hbel).cells
      have q1 : ∀ x', (wide wr x').cell? ⟨g, 0, none⟩ = some (.string m1) := wide_cell c1.1
      clear c1
      go_wp2_with fail
      refine region_wide (by kernel_rfl) (by kernel_rfl) ?_
      repeat (quiet_step ((go_at_call 69; refine (M1.out _).mono ?_; rintro e w2 ⟨rfl, hb2⟩; exact ⟨rfl, wide_next hb2⟩)))
      refine wpQuiet_nil ?_
      rintro w4 ⟨x4, rfl⟩
      have hbel2 := Below.now hbel (below_wide wr x4)
      clear hbel q1
      generalize wide wr x4 = wr2 at *
      have c1 := (H1.out.now hbel2).cells
      have q1 : ∀ x', (wide wr2 x').cell? ⟨g, 1, none⟩ = some (.string m2) := wide_cell c1.2.1
      clear c1
      go_wp2_with fail
      refine region_wide (by kernel_rfl) (by kernel_rfl) ?_
      repeat (quiet_step ((go_at_call 69; refine (M2.out _).mono ?_; rintro e w2 ⟨rfl, hb2⟩; exact ⟨rfl, wide_next hb2⟩)))
      refine wpQuiet_nil ?_
      rintro w5 ⟨x5, rfl⟩
      have hbel3 := Below.now hbel2 (below_wide wr2 x5)
      clear hbel2 q1
      go_wp2_with fail
      go_roundw
      case rel => exact .inr ⟨by go_num, by go_num, hbel3⟩
      case measure => simp [intOf]
    · go_wp2_with fail
      go_ret
      exact ⟨rfl, hbel⟩
set_option maxRecDepth 20000 in
set_option maxHeartbeats 1000000 in
theorem markRuleS_one (g c : Nat) (x y : ByteArray) (w : World) (h1 : RuleAt w g x y) :
    Calls Try.prog 41 #[.slice (some ⟨g, 0, none⟩) 1 c, .int .i64 1] w fun e w' => e = .returned (.int .i64 3) ∧ MarkedR w g (markW 1) (markW 2) w' := by
  have H1 := Lib.hid h1
  have M1 : Hid (∀ W, Calls Try.prog 69 #[.int .i64 1] W fun e w' => e = .returned (.string (markW 1)) ∧ Below W.heap.size W w') := Lib.hid (fun W => markText_any 1 (by omega) (by omega) W)
  have M2 : Hid (∀ W, Calls Try.prog 69 #[.int .i64 2] W fun e w' => e = .returned (.string (markW 2)) ∧ Below W.heap.size W w') := Lib.hid (fun W => markText_any 2 (by omega) (by omega) W)
  clear h1
  generalize markW 1 = m1 at *
  generalize markW 2 = m2 at *
  go_enter Try.func41, Try.ntmps41
  go_wp2_with fail
  go_loopw [1, 5] (fun k i wr => (k = .int .i64 1 ∧ i = .int .i64 0 ∧ wr = w) ∨ (k = .int .i64 3 ∧ i = .int .i64 1 ∧ MarkedR w g m1 m2 wr)) (fun _ i _ => 1 - (intOf i).toNat)
  case atStart => exact .inl ⟨rfl, rfl, rfl⟩
  case round =>
    rcases hrel with ⟨rfl, rfl, hw⟩ | ⟨rfl, rfl, hm⟩
    · replace hw := hw.symm
      subst hw
      go_wp2_with (first
        | (go_at_call 69; (with_reducible refine (M1.out _).mono ?_); rintro e w2 ⟨rfl, hb2⟩; have B2 := Lib.hid hb2; clear hb2; have s0 := (H1.out.now B2.out).cells.1; have s1 := (H1.out.now B2.out).cells.2.2.1)
        | (go_at_call 69; (with_reducible refine (M2.out _).mono ?_); rintro e w4 ⟨rfl, hb4⟩; have B4 := Lib.hid hb4; clear hb4; have s3 := (((H1.out.now B2.out).set0 m1).now B4.out).cells.2.1; have s4 := (((H1.out.now B2.out).set0 m1).now B4.out).cells.2.2.2))
      have P4 := Lib.hid (markedR_end (b := m2) H1.out B2.out B4.out)
      clear s0 s1 s3 s4
      go_roundw
      case rel => exact .inr ⟨by go_num, by go_num, P4.out⟩
      case measure => simp [intOf]
    · go_wp2_with fail
      go_ret
      exact ⟨rfl, hm⟩
end Go.Proofs.Ytldkghfnlkbmpaa
