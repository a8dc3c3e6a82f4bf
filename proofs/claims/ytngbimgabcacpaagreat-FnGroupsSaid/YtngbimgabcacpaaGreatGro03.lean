/-
  FormatWords, of the program and of the reference.
-/
import Derived.Test.YtngbimgabcacpaaGreatGro01
import Derived.Test.YtngbimgabcacpaaGreatGro02
import Derived.Lib.SlicesCompact
import Derived.Sort.Statements
import Derived.Sort.Walk0
namespace Go.Proofs.YtngbimgabcacpaaGreat
open Go.RowKit
set_option linter.unusedVariables false
/-- WordOk as a function of plain data -/
def wordOkB (k : Int) (s : ByteArray) : Bool := inB k 1 4 && (decide (s.size ≤ 16) && allB (letB k) s)
theorem letB_low {k : Int} {c : UInt8} (h : (c.toNat : Int) < 97) : letB k c = false := by
  simp [letB, inB]; omega
theorem letB_high {k : Int} {c : UInt8} (h : 97 ≤ (c.toNat : Int)) (h2 : k ≤ (c.toNat : Int) - 97) : letB k c = false := by
  simp [letB, inB]; omega
theorem letB_true {k : Int} {c : UInt8} (h : letB k c = true) : 97 ≤ (c.toNat : Int) ∧ (c.toNat : Int) - 97 < k := by
  simp [letB, inB] at h; omega
theorem wordOk_notk {k : Int} {s : ByteArray} (h : inB k 1 4 = false) : wordOkB k s = false := by simp [wordOkB, h]
theorem wordOk_long {k : Int} {s : ByteArray} (h : 16 < s.size) : wordOkB k s = false := by
  simp [wordOkB, show ¬ s.size ≤ 16 by omega]
theorem wordOk_all {k : Int} {s : ByteArray} (h : inB k 1 4 = true) (h2 : s.size ≤ 16) : wordOkB k s = allB (letB k) s := by simp [wordOkB, h, h2]
set_option maxHeartbeats 400000 in
theorem specWordOk_any (k : Int) (s : ByteArray) (w : World) (hs : s.size ≤ maxLen) :
    Calls Tryz.prog 118 #[.int .i64 k, .string s] w fun e w' => e = .returned (.bool (wordOkB k s)) ∧ w = w' := by
  unfold maxLen at hs
  cases hk : inB k 1 4
  · have F := Lib.hid (wordOk_notk (s := s) hk)
    go_enter Tryz.func118, Tryz.ntmps118
    go_wp2_with (go_at_call 97; refine (l01In_any _ _ _ _).mono ?_; rintro e w' ⟨rfl, rfl⟩)
    go_ret
    exact ⟨ret_bool F.out.symm, rfl⟩
  by_cases hl : 16 < s.size
  · have F := Lib.hid (wordOk_long (k := k) hl)
    go_enter Tryz.func118, Tryz.ntmps118
    go_wp2_with (go_at_call 97; refine (l01In_any _ _ _ _).mono ?_; rintro e w' ⟨rfl, rfl⟩)
    go_ret
    exact ⟨ret_bool F.out.symm, rfl⟩
  have hl' : s.size ≤ 16 := by omega
  have G := Lib.hid (wordOk_all (s := s) hk hl')
  have ⟨hk1, hk2⟩ := inB_bounds hk
  go_enter Tryz.func118, Tryz.ntmps118
  go_wp2_with (go_at_call 97; refine (l01In_any _ _ _ _).mono ?_; rintro e w' ⟨rfl, rfl⟩)
  go_loop [5] (fun i => ∃ j : Nat, j ≤ s.size ∧ i = .int .i64 j ∧ allTo (letB k) s j = true) (fun i => s.size - (intOf i).toNat)
  case atStart => exact ⟨0, Nat.zero_le _, rfl, allTo_zero _ _⟩
  case round =>
    obtain ⟨j, hj, rfl, hall⟩ := hrel
    have H := Lib.hid hall
    clear hall
    by_cases hlt : j < s.size
    · have hb := byte_lt s[j]
      by_cases h1 : (s[j].toNat : Int) < 97
      · have F := Lib.hid (allB_at s (letB k) j hlt (letB_low h1))
        go_wp2
        go_ret
        exact ⟨ret_bool (by rw [G.out, F.out]), rfl⟩
      · by_cases h2 : k ≤ (s[j].toNat : Int) - 97
        · have F := Lib.hid (allB_at s (letB k) j hlt (letB_high (by omega) h2))
          go_wp2
          go_ret
          exact ⟨ret_bool (by rw [G.out, F.out]), rfl⟩
        · have F := Lib.hid (allTo_succ s (letB k) j hlt H.out (by simp [letB, inB]; omega))
          go_wp2
          go_round
          case rel => exact ⟨j + 1, by omega, by go_num, F.out⟩
          case measure => simp [intOf]; omega
    · have F := Lib.hid (allTo_full s (letB k) j hlt H.out)
      go_wp2
      go_ret
      exact ⟨ret_bool (by rw [G.out, F.out]), rfl⟩
/-- a byte of a pattern -/
def patB (c : UInt8) : Bool := isVarB c || letB 4 c
/-- PatternOk as a function of plain data -/
def patternOkB (s : ByteArray) : Bool := allB patB s && decide (s.size ≤ 8)
theorem one_list (s : ByteArray) (j : Nat) (h : j < s.size) : (s.extract j (j + 1)).data.toList = [s[j]] := by
  have : (s.extract j (j + 1)).data = s.data.extract j (j + 1) := by simp
  rw [this, Array.toList_extract, List.extract_eq_take_drop, show j + 1 - j = 1 by omega, List.take_one, List.head?_drop]
  rw [List.getElem?_eq_getElem (by simpa using h)]
  simp [ByteArray.getElem_eq_getElem_data]
theorem one_all (s : ByteArray) (p : UInt8 → Bool) (j : Nat) (h : j < s.size) : allB p (s.extract j (j + 1)) = p s[j] := by
  unfold allB; rw [one_list s j h]; simp
theorem one_size (s : ByteArray) (j : Nat) (h : j < s.size) : (s.extract j (j + 1)).size = 1 := by
  rw [← ByteArray.size_data, ← Array.length_toList, one_list s j h]; rfl
theorem one_wordOk (s : ByteArray) (j : Nat) (h : j < s.size) : wordOkB 4 (s.extract j (j + 1)) = letB 4 s[j] := by
  rw [wordOk_all (by decide) (by rw [one_size s j h]; omega), one_all s _ j h]
theorem patB_var {c : UInt8} (h : isVarB c = true) : patB c = true := by simp [patB, h]
theorem patB_let {c : UInt8} {b : Bool} (h : isVarB c = false) (h2 : letB 4 c = b) : patB c = b := by simp [patB, h, h2]
theorem patOk_all {s : ByteArray} (h : allB patB s = true) : decide ((s.size : Int) ≤ 8) = patternOkB s := by simp [patternOkB, h]; omega
theorem patOk_not {s : ByteArray} (h : allB patB s = false) : patternOkB s = false := by simp [patternOkB, h]
end Go.Proofs.YtngbimgabcacpaaGreat
namespace Go.Proofs.YtngbimgabcacpaaGreat
open Go.RowKit
set_option linter.unusedVariables false
theorem Tryz.infoStr : (Tryz.prog.info? 9).map (fun i => (i.zero, i.size, i.bytes)) = some (some (.string ⟨#[]⟩), 1, 16) := by kernel_rfl
theorem nil_app (x : ByteArray) : (⟨#[]⟩ : ByteArray) ++ x = x := by ext1; simp
def strVals (l : List ByteArray) : List Value := l.map Value.string
theorem strVals_len (l : List ByteArray) : (strVals l).length = l.length := by simp [strVals]
theorem owns_strs {w : World} {base : Nat} {T : TypeId} {size : Nat} {a : Option Addr} {n m cap : Nat} {l : List ByteArray} (h : w.ownsRow base T size (.slice a m cap) n (strVals l)) : StrsIn w a l := owns_cells h
theorem owns_capS {w : World} {base : Nat} {T : TypeId} {size : Nat} {a : Option Addr} {n m cap : Nat} {xs : List Value} (h : w.ownsRow base T size (.slice a n cap) m xs) : n ≤ cap ∧ cap ≤ maxLen := by
  rcases h.2 with ⟨hv, h0⟩ | ⟨g, cap', cur, hv, hb, hg, hn, hc, r⟩
  · simp only [Value.slice.injEq] at hv
    obtain ⟨_, rfl, rfl⟩ := hv
    exact ⟨Nat.le_refl _, Nat.zero_le _⟩
  · simp only [Value.slice.injEq] at hv
    obtain ⟨_, rfl, rfl⟩ := hv
    exact ⟨hn, hc⟩
/-- a full stop for the empty word -/
def dotB (s : ByteArray) : ByteArray := if s.toList.isEmpty = true then ⟨#[46]⟩ else s
theorem dotB_size (s : ByteArray) : (dotB s).size ≤ s.size + 1 := by
  unfold dotB
  split
  · show 1 ≤ _; omega
  · omega
set_option maxHeartbeats 400000 in
theorem l03Side_any (s : ByteArray) (w : World) :
    Calls Tryz.prog 135 #[.string s] w fun e w' => e = .returned (.string (dotB s)) ∧ w = w' := by
  cases h : s.toList.isEmpty
  · have F : Hid (dotB s = s) := Lib.hid (by simp [dotB, h])
    go_enter Tryz.func135, Tryz.ntmps135
    go_wp2_with fail
    go_ret
    exact ⟨ret_str F.out.symm, rfl⟩
  · have F : Hid (dotB s = ⟨#[46]⟩) := Lib.hid (by simp [dotB, h])
    go_enter Tryz.func135, Tryz.ntmps135
    go_wp2_with fail
    go_ret
    exact ⟨ret_str F.out.symm, rfl⟩
end Go.Proofs.YtngbimgabcacpaaGreat
namespace Go.Proofs.YtngbimgabcacpaaGreat
open Go.RowKit
set_option linter.unusedVariables false
theorem grown_alloc {w w1 : World} {r : Option Nat} (h : w.grownBy w1 r) (o : Obj) : w.grownBy (w1.alloc o) r := by
  have e := Below.heap_alloc w1 o
  exact ⟨h.os, h.tape, h.output, Nat.le_trans h.size (by simp), fun k hk hne => (e k (Nat.lt_of_lt_of_le hk h.size)).trans (h.block k hk hne)⟩
theorem CurOk.alloc {w : World} {B : Nat} {a : Option Addr} {l : List UInt8} {cap : Nat} (h : CurOk w B a l cap) (o : Obj) : CurOk (w.alloc o) B a l cap := h.later ((Below.refl _ _).alloc (Nat.le_refl _) _)
theorem CurOk.lt {w : World} {B : Nat} {a : Option Addr} {l : List UInt8} {cap : Nat} (h : CurOk w B a l cap) : B < w.heap.size := h.at_.lt
set_option maxHeartbeats 1000000 in
theorem l01Below_any (B n : Nat) (a : Option Addr) (l : List UInt8) (cap : Nat) (w : World) (h : CurOk w B a l cap) (hn : 1 ≤ n) (hn2 : n ≤ 256) :
    Calls Tryz.prog 89 #[.pointer (some ⟨B, 0, none⟩), .int .i64 (n : Nat)] w fun e w' => ∃ x : Nat, x < n ∧ e = .returned (.int .i64 ((x : Nat) : Int)) ∧ CurOk w' B a l cap ∧ w.grownBy w' (some B) := by
  have HB := Lib.hid (byte_cur h)
  clear h
  have h0 : ¬ (n : Int) ≤ 0 := by omega
  have h2 : (n : Int) ≤ 256 := by omega
  have hnz : ((n : Int) == 0) = false := by rw [beq_eq_false_iff_ne]; omega
  have hnz2 : ¬ (n : Int) = 0 := by omega
  go_enter Tryz.func89, Tryz.ntmps89
  go_wp2_with fail
  refine HB.out.mono ?_
  rintro e w2 ⟨x, hx, rfl, hc2, hg2⟩
  have HC := Lib.hid hc2
  have HG := Lib.hid hg2
  clear hc2 hg2 HB
  go_wp2_with fail
  go_ret
  exact ⟨x % n, Nat.mod_lt _ (by omega), ret_int (by first | rfl | simp), HC.out, HG.out⟩
set_option maxHeartbeats 400000 in
theorem l01Once_any (B n : Nat) (a : Option Addr) (l : List UInt8) (cap : Nat) (w : World) (h : CurOk w B a l cap) (hn : 1 ≤ n) (hn2 : n ≤ 256) :
    Calls Tryz.prog 65 #[.pointer (some ⟨B, 0, none⟩), .int .i64 (n : Nat)] w fun e w' => ∃ b : Bool, e = .returned (.bool b) ∧ CurOk w' B a l cap ∧ w.grownBy w' (some B) := by
  have HB := Lib.hid (l01Below_any B n a l cap w h hn hn2)
  clear h
  go_enter Tryz.func65, Tryz.ntmps65
  go_wp2_with fail
  refine HB.out.mono ?_
  rintro e w2 ⟨x, hx, rfl, hc2, hg2⟩
  have HC := Lib.hid hc2
  have HG := Lib.hid hg2
  clear hc2 hg2 HB
  go_wp2_with fail
  go_ret
  exact ⟨_, rfl, HC.out, HG.out⟩
theorem StrsIn.grownB {w w' : World} {B : Nat} {a : Option Addr} {l : List ByteArray} (h : StrsIn w a l) (hg : w.grownBy w' (some B)) (hne : ∀ x, a = some x → x.block ≠ B) : StrsIn w' a l := by
  rcases h with h | ⟨b, off, ha, hc⟩
  · exact .inl h
  · refine .inr ⟨b, off, ha, fun i hi => ?_⟩
    rw [World.cell?_of_block (w := w) (hg.block b (World.block_lt_of_cell? w _ (hc i hi)) (fun e => hne _ ha (Option.some.inj e)))]
    exact hc i hi
set_option maxHeartbeats 1000000 in
theorem l01Str_any (B : Nat) (a : Option Addr) (l : List UInt8) (cap : Nat) (ls : List ByteArray) (a2 : Option Addr) (cap2 : Nat) (w : World) (h : CurOk w B a l cap) (hl : StrsIn w a2 ls) (hne : ∀ x, a2 = some x → x.block ≠ B) (h1 : 1 ≤ ls.length) (h2 : ls.length ≤ 256) :
    Calls Tryz.prog 68 #[.pointer (some ⟨B, 0, none⟩), .slice a2 ls.length cap2] w fun e w' => ∃ i : Nat, i < ls.length ∧ e = .returned (.string (nthS ls i)) ∧ CurOk w' B a l cap ∧ w.grownBy w' (some B) := by
  have HB := Lib.hid (l01Below_any B ls.length a l cap w h h1 h2)
  have HL := Lib.hid hl
  have HN := Lib.hid hne
  clear h hl hne
  go_enter Tryz.func68, Tryz.ntmps68
  go_wp2_with fail
  refine HB.out.mono ?_
  rintro e w2 ⟨x, hx, rfl, hc2, hg2⟩
  obtain ⟨b, off, rfl, hb, hcell⟩ := (HL.out.grownB hg2 HN.out).cell hx
  have c1 := hcell x hx
  have HC := Lib.hid hc2
  have HG := Lib.hid hg2
  clear hc2 hg2 HB hcell
  go_wp2_with fail
  go_ret
  exact ⟨x, hx, rfl, HC.out, HG.out⟩
theorem StrsIn.lit (w : World) (ls : List ByteArray) : StrsIn (w.alloc (.cells (strVals ls).toArray 9)) (some ⟨w.heap.size, 0, none⟩) ls := by
  refine .inr ⟨_, _, rfl, fun i hi => ?_⟩
  rw [Nat.zero_add, World.cell?_alloc_new]
  have h2 : i < (strVals ls).length := by simpa [strVals] using hi
  show (strVals ls).toArray[i]? = some _
  rw [List.getElem?_toArray, List.getElem?_eq_getElem h2]
  rfl
/-- a literal row of strings is drawn from -/
theorem strLit_any (B : Nat) (a : Option Addr) (l : List UInt8) (cap : Nat) (ls : List ByteArray) (w : World) (h : CurOk w B a l cap) (h1 : 1 ≤ ls.length) (h2 : ls.length ≤ 256) :
    Calls Tryz.prog 68 #[.pointer (some ⟨B, 0, none⟩), .slice (some ⟨w.heap.size, 0, none⟩) ls.length ls.length] (w.alloc (.cells (strVals ls).toArray 9)) fun e w' => ∃ i : Nat, i < ls.length ∧ e = .returned (.string (nthS ls i)) ∧ CurOk w' B a l cap ∧ w.grownBy w' (some B) :=
  (l01Str_any B a l cap ls (some ⟨w.heap.size, 0, none⟩) ls.length _ (h.alloc _) (StrsIn.lit w ls) (fun x hx => by
    obtain rfl := Option.some.inj hx
    have := h.lt
    show w.heap.size ≠ B; omega) h1 h2).mono fun _ _ ⟨i, hi, he, hc, hg⟩ => ⟨i, hi, he, hc, grown_tr (grown_alloc ⟨rfl, rfl, rfl, Nat.le_refl _, fun _ _ _ => rfl⟩ _) hg⟩
theorem allB_app (p : UInt8 → Bool) (u v : ByteArray) : allB p (u ++ v) = (allB p u && allB p v) := by simp [allB]
end Go.Proofs.YtngbimgabcacpaaGreat
namespace Go.Proofs.YtngbimgabcacpaaGreat
open Go.RowKit
set_option linter.unusedVariables false
/-- a rule: its two sides -/
abbrev RulD := ByteArray × ByteArray
/-- the cells of rules -/
def ruleCells : List RulD → List Value
  | [] => []
  | p :: l => .string p.1 :: .string p.2 :: ruleCells l
theorem ruleCells_len : ∀ l : List RulD, (ruleCells l).length = l.length * 2
  | [] => rfl
  | p :: l => by simp only [ruleCells, List.length_cons, ruleCells_len l]; omega
theorem ruleCells_app : ∀ l m : List RulD, ruleCells (l ++ m) = ruleCells l ++ ruleCells m
  | [], m => rfl
  | p :: l, m => by simp only [List.cons_append, ruleCells, ruleCells_app l m]
/-- the rule at a place -/
def nthR (l : List RulD) (j : Nat) : RulD := l.getD j (⟨#[]⟩, ⟨#[]⟩)
theorem nthR_lt {l : List RulD} {j : Nat} (h : j < l.length) : nthR l j = l[j] := by simp [nthR, List.getD_eq_getElem?_getD, h]
theorem nthR_mem {l : List RulD} {j : Nat} (h : j < l.length) : nthR l j ∈ l := by rw [nthR_lt h]; exact List.getElem_mem h
theorem mem_nthR {l : List RulD} {r : RulD} (h : r ∈ l) : ∃ i, i < l.length ∧ nthR l i = r := by
  obtain ⟨i, hi, he⟩ := List.getElem_of_mem h
  exact ⟨i, hi, by rw [nthR_lt hi, he]⟩
theorem ruleCells_at : ∀ (l : List RulD) (j : Nat), j < l.length → (ruleCells l)[j * 2]? = some (.string (nthR l j).1) ∧ (ruleCells l)[j * 2 + 1]? = some (.string (nthR l j).2)
  | [], j, h => by simp at h
  | p :: l, 0, _ => by simp [ruleCells, nthR]
  | p :: l, j + 1, h => by
    have := ruleCells_at l j (by simpa using h)
    rw [show (j + 1) * 2 = j * 2 + 2 by omega, show j * 2 + 2 + 1 = (j * 2 + 1) + 2 by omega]
    have e1 : ∀ n, (ruleCells (p :: l))[n + 2]? = (ruleCells l)[n]? := fun n => rfl
    have e2 : nthR (p :: l) (j + 1) = nthR l j := rfl
    rw [e1, e1, e2]
    exact this
/-- a slice of rules -/
def RulesIn (w : World) (a : Option Addr) (l : List RulD) : Prop := CellsIn w a (ruleCells l)
theorem RulesIn.later {w w' : World} {a : Option Addr} {l : List RulD} (h : RulesIn w a l) (hb : Below w.heap.size w w') : RulesIn w' a l := CellsIn.later h hb
theorem RulesIn.cell {w : World} {a : Option Addr} {l : List RulD} (h : RulesIn w a l) {i : Nat} (hi : i < l.length) :
    ∃ b off, a = some ⟨b, off, none⟩ ∧ b < w.heap.size ∧ ∀ j, j < l.length → w.cell? ⟨b, off + j * 2, none⟩ = some (.string (nthR l j).1) ∧ w.cell? ⟨b, off + j * 2 + 1, none⟩ = some (.string (nthR l j).2) := by
  rcases h with h | ⟨b, off, ha, hc⟩
  · have := ruleCells_len l
    rw [h, List.length_nil] at this
    omega
  · have key : ∀ j, j < l.length → w.cell? ⟨b, off + j * 2, none⟩ = some (.string (nthR l j).1) ∧ w.cell? ⟨b, off + j * 2 + 1, none⟩ = some (.string (nthR l j).2) := fun j hj => by
      obtain ⟨h1, h2⟩ := ruleCells_at l j hj
      have hlen := ruleCells_len l
      have c1 := hc (j * 2) (by omega)
      have c2 := hc (j * 2 + 1) (by omega)
      rw [List.getElem?_eq_getElem (by omega)] at h1 h2
      rw [Option.some.inj h1] at c1
      rw [Option.some.inj h2] at c2
      exact ⟨c1, by rw [← Nat.add_assoc] at c2; exact c2⟩
    exact ⟨b, off, ha, World.block_lt_of_cell? w _ (key i hi).1, key⟩
theorem owns_rules {w : World} {base : Nat} {T : TypeId} {size : Nat} {a : Option Addr} {n m cap : Nat} {l : List RulD} (h : w.ownsRow base T size (.slice a m cap) n (ruleCells l)) : RulesIn w a l := owns_cells h
/-- the sizes of the sides -/
def ruleSum (l : List RulD) : Nat := (l.map fun r => r.1.size + r.2.size).sum
def ruleSumTo (l : List RulD) : Nat → Nat
  | 0 => 0
  | j + 1 => ruleSumTo l j + ((nthR l j).1.size + (nthR l j).2.size)
theorem ruleSumTo_eq (l : List RulD) : ∀ j, j ≤ l.length → ruleSumTo l j = ((l.take j).map fun r => r.1.size + r.2.size).sum
  | 0, _ => by simp [ruleSumTo]
  | j + 1, h => by
    rw [ruleSumTo, ruleSumTo_eq l j (by omega), List.take_succ_eq_append_getElem (by omega), nthR_lt (by omega), List.map_append, List.sum_append]
    simp only [List.map_cons, List.map_nil, List.sum_cons, List.sum_nil, Nat.add_zero]
theorem ruleSumTo_all (l : List RulD) : ruleSumTo l l.length = ruleSum l := by rw [ruleSumTo_eq l _ (Nat.le_refl _), List.take_length]; rfl
theorem ruleSumTo_mono (l : List RulD) {i j : Nat} (h : i ≤ j) : ruleSumTo l i ≤ ruleSumTo l j := by
  induction h with
  | refl => exact Nat.le_refl _
  | step h ih => exact Nat.le_trans ih (by simp [ruleSumTo])
theorem ruleSum_at {l : List RulD} {j : Nat} (h : j < l.length) : (nthR l j).1.size + (nthR l j).2.size ≤ ruleSum l := by
  have h1 := ruleSumTo_mono l (show j + 1 ≤ l.length from h)
  rw [ruleSumTo_all] at h1
  have : ruleSumTo l (j + 1) = ruleSumTo l j + ((nthR l j).1.size + (nthR l j).2.size) := rfl
  omega
end Go.Proofs.YtngbimgabcacpaaGreat
namespace Go.Proofs.YtngbimgabcacpaaGreat
set_option linter.unusedVariables false
section
variable {α : Type} [DecidableEq α]
/-- the number of a set: a bit for each thing -/
def codeN (x : List α) : List α → Nat
  | [] => 0
  | u :: us => (if u ∈ x then 1 else 0) + 2 * codeN x us
theorem codeN_lt (x : List α) : ∀ U : List α, codeN x U < 2 ^ U.length
  | [] => by show 0 < 1; omega
  | u :: us => by
    have ih := codeN_lt x us
    have hp : 2 ^ (u :: us).length = 2 * 2 ^ us.length := by rw [List.length_cons, Nat.pow_succ]; omega
    show (if u ∈ x then 1 else 0) + 2 * codeN x us < _
    rw [hp]
    split <;> omega
theorem codeN_inj {x y : List α} : ∀ {U : List α}, codeN x U = codeN y U → ∀ u ∈ U, (u ∈ x ↔ u ∈ y)
  | [], _, u, hu => by cases hu
  | v :: us, h, u, hu => by
    have h' : (if v ∈ x then 1 else 0) + 2 * codeN x us = (if v ∈ y then 1 else 0) + 2 * codeN y us := h
    have hh : (v ∈ x ↔ v ∈ y) ∧ codeN x us = codeN y us := by
      by_cases a : v ∈ x <;> by_cases b : v ∈ y <;> simp only [a, b, if_true, if_false] at h' ⊢ <;> simp <;> omega
    rcases List.mem_cons.1 hu with rfl | hu
    · exact hh.1
    · exact codeN_inj hh.2 u hu
theorem one_le_filter {n : Nat} : ∀ {L : List Nat}, L.Nodup → L.length ≤ (L.filter (fun x => decide (x ≠ n))).length + 1
  | [], _ => by simp
  | a :: L, h => by
    rw [List.nodup_cons] at h
    rw [List.filter_cons]
    by_cases e : a = n
    · have : L.filter (fun x => decide (x ≠ n)) = L := by
        rw [List.filter_eq_self]
        intro x hx
        have : x ≠ n := fun e2 => h.1 (by rw [e, ← e2]; exact hx)
        simpa using this
      rw [if_neg (by simpa using e), this, List.length_cons]; exact Nat.le_refl _
    · have ih := one_le_filter (n := n) h.2
      rw [if_pos (by simpa using e), List.length_cons, List.length_cons]
      omega
/-- so many different numbers below n are no more than n -/
theorem nodup_bound : ∀ (n : Nat) (L : List Nat), L.Nodup → (∀ x ∈ L, x < n) → L.length ≤ n
  | 0, L, _, h => by
    cases L with
    | nil => exact Nat.le_refl _
    | cons a l => exact absurd (h a List.mem_cons_self) (Nat.not_lt_zero _)
  | n + 1, L, hn, h => by
    have h1 := one_le_filter (n := n) hn
    have h2 := nodup_bound n (L.filter (fun x => decide (x ≠ n))) (hn.filter _) (fun x hx => by
      rw [List.mem_filter] at hx
      have := h x hx.1
      have h3 : x ≠ n := by simpa using hx.2
      omega)
    omega
theorem nodup_map {β : Type} {f : β → Nat} : ∀ {L : List β}, L.Nodup → (∀ x ∈ L, ∀ y ∈ L, f x = f y → x = y) → (L.map f).Nodup
  | [], _, _ => List.nodup_nil
  | a :: L, h, hi => by
    rw [List.nodup_cons] at h
    rw [List.map_cons, List.nodup_cons]
    refine ⟨fun hm => ?_, nodup_map h.2 (fun x hx y hy => hi x (List.mem_cons_of_mem _ hx) y (List.mem_cons_of_mem _ hy))⟩
    obtain ⟨b, hb, he⟩ := List.mem_map.1 hm
    have := hi a List.mem_cons_self b (List.mem_cons_of_mem _ hb) he.symm
    exact h.1 (by rw [this]; exact hb)
/-- so many different sets over U are no more than there are subsets -/
theorem sets_bound {U : List α} {L : List (List α)} (hn : L.Nodup) (hU : ∀ x ∈ L, ∀ u ∈ x, u ∈ U) (hx : ∀ x ∈ L, ∀ y ∈ L, (∀ u, u ∈ x ↔ u ∈ y) → x = y) : L.length ≤ 2 ^ U.length := by
  have h1 : (L.map fun x => codeN x U).Nodup := nodup_map hn (fun x hx1 y hy1 he => hx x hx1 y hy1 (fun u => by
    by_cases hu : u ∈ U
    · exact codeN_inj he u hu
    · exact ⟨fun h => absurd (hU x hx1 u h) hu, fun h => absurd (hU y hy1 u h) hu⟩))
  have h2 := nodup_bound (2 ^ U.length) _ h1 (fun z hz => by
    obtain ⟨x, _, rfl⟩ := List.mem_map.1 hz
    exact codeN_lt x U)
  rwa [List.length_map] at h2
/-- two strictly sorted lists with the same members are one -/
theorem sorted_ext {lt : α → α → Prop} (hirr : ∀ a, ¬ lt a a) (htr : ∀ a b c, lt a b → lt b c → lt a c) : ∀ {x y : List α}, x.Pairwise lt → y.Pairwise lt → (∀ u, u ∈ x ↔ u ∈ y) → x = y
  | [], y, _, _, h => by
    cases y with
    | nil => rfl
    | cons b y => exact absurd ((h b).2 List.mem_cons_self) (by simp)
  | a :: x, [], _, _, h => absurd ((h a).1 List.mem_cons_self) (by simp)
  | a :: x, b :: y, hx, hy, h => by
    rw [List.pairwise_cons] at hx hy
    have hab : a = b := by
      rcases List.mem_cons.1 ((h a).1 List.mem_cons_self) with e | e
      · exact e
      · rcases List.mem_cons.1 ((h b).2 List.mem_cons_self) with e2 | e2
        · exact e2.symm
        · exact absurd (htr _ _ _ (hx.1 b e2) (hy.1 a e)) (hirr a)
    subst hab
    have hxy : x = y := sorted_ext hirr htr hx.2 hy.2 (fun u => by
      have hu := h u
      rw [List.mem_cons, List.mem_cons] at hu
      by_cases e : u = a
      · subst e
        exact ⟨fun m => absurd (hx.1 u m) (hirr u), fun m => absurd (hy.1 u m) (hirr u)⟩
      · constructor
        · intro m; exact (hu.1 (.inr m)).resolve_left e
        · intro m; exact (hu.2 (.inr m)).resolve_left e)
    rw [hxy]
end
theorem sorted_nodup {α : Type} {lt : α → α → Prop} (hirr : ∀ a, ¬ lt a a) : ∀ {x : List α}, x.Pairwise lt → x.Nodup
  | [], _ => List.nodup_nil
  | a :: x, h => by
    rw [List.pairwise_cons] at h
    rw [List.nodup_cons]
    exact ⟨fun m => hirr a (h.1 a m), sorted_nodup hirr h.2⟩
end Go.Proofs.YtngbimgabcacpaaGreat
namespace Go.Proofs.YtngbimgabcacpaaGreat
open Go.RowKit Go.Sort
set_option linter.unusedVariables false
/-- the order of words, at their bytes -/
def ltW (a b : List UInt8) : Bool := decide (a.length < b.length ∨ (a.length = b.length ∧ a < b))
theorem ltW_irrefl (a : List UInt8) : ltW a a = false := by
  have : ¬ a < a := List.lt_irrefl a
  simp [ltW, this]
theorem ltW_trans {a b c : List UInt8} (h : ltW a b = true) (h' : ltW b c = true) : ltW a c = true := by
  simp only [ltW, decide_eq_true_eq] at *
  rcases h with h | ⟨h, h2⟩ <;> rcases h' with h' | ⟨h', h3⟩
  · left; omega
  · left; omega
  · left; omega
  · right; exact ⟨by omega, List.lt_trans h2 h3⟩
theorem ltW_total {a b : List UInt8} (h : ltW a b = false) (h' : ltW b a = false) : a = b := by
  simp only [ltW, decide_eq_false_iff_not, not_or, not_and] at *
  have h1 : a.length = b.length := by omega
  have h2 : ¬ a < b := h.2 h1
  have h3 : ¬ b < a := h'.2 h1.symm
  exact List.le_antisymm (List.not_lt.1 h3) (List.not_lt.1 h2)
theorem ltW_asym {a b : List UInt8} (h : ltW a b = true) : ltW b a = false := by
  cases e : ltW b a
  · rfl
  · have := ltW_trans h e
    rw [ltW_irrefl] at this; cases this
theorem ltW_swo : SWO ltW where
  irrefl := ltW_irrefl
  trans := fun _ _ _ => ltW_trans
  ntrans := fun x y z h h' => by
    cases e : ltW x z
    · rfl
    · cases e1 : ltW y x
      · have := ltW_total h e1
        subst this
        rw [e] at h'; cases h'
      · have := ltW_trans e1 e
        rw [this] at h'; cases h'
/-- strictly sorted -/
def SortedW (l : List (List UInt8)) : Prop := l.Pairwise (fun a b => ltW a b = true)
theorem SortedW.ext {x y : List (List UInt8)} (hx : SortedW x) (hy : SortedW y) (h : ∀ u, u ∈ x ↔ u ∈ y) : x = y :=
  sorted_ext (lt := fun a b => ltW a b = true) (fun a h => by rw [ltW_irrefl] at h; cases h) (fun a b c => ltW_trans) hx hy h
theorem SortedW.nodup {x : List (List UInt8)} (hx : SortedW x) : x.Nodup := sorted_nodup (lt := fun a b => ltW a b = true) (fun a h => by rw [ltW_irrefl] at h; cases h) hx
theorem bang_at {zs : List (List UInt8)} {j : Nat} (h : j < zs.length) : zs.toArray[j]! = zs[j] := by
  rw [getElem!_pos _ _ (by simpa using h)]; simp
/-- weakly sorted: a later one is not less -/
def WeakW (l : List (List UInt8)) : Prop := l.Pairwise (fun a b => ltW b a = false)
theorem WeakW.at {zs : List (List UInt8)} (h : WeakW zs) {i j : Nat} (hij : i ≤ j) (hj : j < zs.length) : ltW zs[j] (zs[i]'(by omega)) = false := by
  rcases Nat.lt_or_ge i j with hlt | hge
  · exact (List.pairwise_iff_getElem.1 h) i j (by omega) hj hlt
  · have : i = j := by omega
    subst this; exact ltW_irrefl _
theorem compact_sorted {zs : List (List UInt8)} (h : WeakW zs) : SortedW (Go.Lib.compact zs) := by
  unfold SortedW Go.Lib.compact Go.Lib.compactUpTo
  rw [List.pairwise_map]
  have h0 : ((List.range zs.length).filter (Go.Lib.keeps zs.toArray)).Pairwise (· < ·) := List.Pairwise.filter _ List.pairwise_lt_range
  refine List.Pairwise.imp_of_mem (fun {i j} hi hj hij => ?_) h0
  have hi' := List.mem_filter.1 hi
  have hj' := List.mem_filter.1 hj
  have hjl := List.mem_range.1 hj'.1
  have hk : zs.toArray[j]! ≠ zs.toArray[j - 1]! := by
    have := hj'.2
    simp only [Go.Lib.keeps, decide_eq_true_eq] at this
    rcases this with e | e
    · omega
    · exact e
  rw [bang_at (by omega), bang_at (by omega)] at hk ⊢
  have h1 := h.at (i := i) (j := j - 1) (by omega) (by omega)
  have h2 := h.at (i := j - 1) (j := j) (by omega) (by omega)
  cases e : ltW zs[i] zs[j]
  · have h3 := ltW_swo.ntrans _ _ _ e (ltW_swo.ntrans _ _ _ h2 h1)
    have e1 := ltW_total e (ltW_swo.ntrans _ _ _ h2 h1)
    have e2 : ltW zs[j - 1] zs[j] = false := by
      cases e3 : ltW zs[j - 1] zs[j]
      · rfl
      · rw [← e1] at e3
        rw [e3] at h1; cases h1
    exact absurd (ltW_total h2 e2) hk
  · rfl
theorem compact_memW (zs : List (List UInt8)) (x : List UInt8) : x ∈ Go.Lib.compact zs ↔ x ∈ zs := by
  unfold Go.Lib.compact Go.Lib.compactUpTo
  constructor
  · intro h
    obtain ⟨i, hi, rfl⟩ := List.mem_map.1 h
    have := List.mem_range.1 (List.mem_filter.1 hi).1
    rw [bang_at this]
    exact List.getElem_mem this
  · intro h
    have key : ∀ i, i < zs.length → zs.toArray[i]! ∈ List.map (zs.toArray[·]!) ((List.range zs.length).filter (Go.Lib.keeps zs.toArray)) := by
      intro i
      induction i with
      | zero => exact fun h => List.mem_map.2 ⟨0, List.mem_filter.2 ⟨List.mem_range.2 h, by simp [Go.Lib.keeps]⟩, rfl⟩
      | succ i ih =>
        intro hi
        by_cases he : zs.toArray[i + 1]! = zs.toArray[i]!
        · rw [he]; exact ih (by omega)
        · exact List.mem_map.2 ⟨i + 1, List.mem_filter.2 ⟨List.mem_range.2 hi, by simp only [Go.Lib.keeps, decide_eq_true_eq]; exact .inr he⟩, rfl⟩
    obtain ⟨i, hi, rfl⟩ := List.getElem_of_mem h
    rw [← bang_at hi]
    exact key i hi
/-- the sorted list of the members of a list -/
def ordW (l : List (List UInt8)) : List (List UInt8) := Go.Lib.compact (l.mergeSort fun x y => !ltW y x)
theorem sort_weak (l : List (List UInt8)) : WeakW (l.mergeSort fun x y => !ltW y x) := by
  have h := List.pairwise_mergeSort (le := fun x y => !ltW y x) (fun a b c h1 h2 => by
    simp only [Bool.not_eq_true'] at *
    exact ltW_swo.ntrans _ _ _ h2 h1) (fun a b => by
    cases e : ltW b a
    · simp
    · simp [ltW_asym e]) l
  exact h.imp (fun h => by simpa using h)
theorem ordW_sorted (l : List (List UInt8)) : SortedW (ordW l) := compact_sorted (sort_weak l)
theorem ordW_mem (l : List (List UInt8)) (x : List UInt8) : x ∈ ordW l ↔ x ∈ l := by
  unfold ordW
  rw [compact_memW, List.mem_mergeSort]
/-- a word comes to its place in a sorted list -/
def insK (w : List UInt8) (l : List (List UInt8)) (k : Nat) : List (List UInt8) := l.take k ++ [w] ++ l.drop k
theorem insK_mem {w : List UInt8} {l : List (List UInt8)} {k : Nat} (x : List UInt8) : x ∈ insK w l k ↔ x ∈ l ∨ x = w := by
  unfold insK
  rw [List.mem_append, List.mem_append, List.mem_singleton]
  conv => rhs; rw [← List.take_append_drop k l, List.mem_append]
  constructor
  · rintro ((h | h) | h)
    · exact .inl (.inl h)
    · exact .inr h
    · exact .inl (.inr h)
  · rintro ((h | h) | h)
    · exact .inl (.inl h)
    · exact .inr h
    · exact .inl (.inr h)
theorem insK_sorted {w : List UInt8} {l : List (List UInt8)} {k : Nat} (hl : SortedW l) (hw : ¬ w ∈ l) (hk : k ≤ l.length) (hlo : ∀ i (h : i < l.length), i < k → ltW l[i] w = true) (hhi : ∀ h : k < l.length, ltW l[k] w = false) : SortedW (insK w l k) := by
  have hlt : ∀ x ∈ l.take k, ltW x w = true := fun x hx => by
    obtain ⟨i, hi, rfl⟩ := List.getElem_of_mem hx
    rw [List.length_take] at hi
    rw [List.getElem_take]
    exact hlo i (by omega) (by omega)
  have hgt : ∀ x ∈ l.drop k, ltW w x = true := fun x hx => by
    obtain ⟨i, hi, rfl⟩ := List.getElem_of_mem hx
    rw [List.length_drop] at hi
    rw [List.getElem_drop]
    have hkl : k < l.length := by omega
    have hne : ∀ y ∈ l, ltW y w = false → ltW w y = true := fun y hy h => by
      cases e : ltW w y
      · have := ltW_total h e
        subst this
        exact absurd hy hw
      · rfl
    have h1 := hne _ (List.getElem_mem hkl) (hhi hkl)
    rcases Nat.eq_zero_or_pos i with h0 | h0
    · subst h0; simpa using h1
    · exact ltW_trans h1 ((List.pairwise_iff_getElem.1 hl) k (k + i) hkl (by omega) (by omega))
  unfold SortedW insK
  rw [List.pairwise_append, List.pairwise_append]
  refine ⟨⟨hl.sublist (List.take_sublist _ _), List.pairwise_singleton _ _, fun a ha b hb => ?_⟩, hl.sublist (List.drop_sublist _ _), fun a ha b hb => ?_⟩
  · rw [List.mem_singleton.1 hb]; exact hlt a ha
  · rcases List.mem_append.1 ha with ha | ha
    · exact ltW_trans (hlt a ha) (hgt b hb)
    · rw [List.mem_singleton.1 ha]; exact hgt b hb
theorem insK_len {w : List UInt8} {l : List (List UInt8)} {k : Nat} (hk : k ≤ l.length) : (insK w l k).length = l.length + 1 := by
  unfold insK
  simp only [List.length_append, List.length_take, List.length_drop, List.length_singleton]
  omega
end Go.Proofs.YtngbimgabcacpaaGreat
namespace Go.Proofs.YtngbimgabcacpaaGreat
set_option linter.unusedVariables false
section
variable {α : Type} (F : List α → Prop) (N : List α → List α → Prop)
/-- behind the sets out (the last one first) the set S comes up -/
def comesB : List (List α) → List α → Prop
  | [], S => F S
  | X :: out, S => comesB out X ∧ N X S
/-- the run is over: the set that would come is empty or was there -/
def endsB (out : List (List α)) (S : List α) : Prop := comesB F N out S ∧ (S = [] ∨ S ∈ out)
/-- every set of the run came up where it was neither empty nor there before -/
def freshB : List (List α) → Prop
  | [] => True
  | X :: out => freshB out ∧ comesB F N out X ∧ X ≠ [] ∧ ¬ X ∈ out
variable {F N}
theorem comes_uniq (hF : ∀ S S', F S → F S' → S = S') (hN : ∀ X S S', N X S → N X S' → S = S') : ∀ {out : List (List α)} {S S' : List α}, comesB F N out S → comesB F N out S' → S = S'
  | [], S, S', h, h' => hF S S' h h'
  | X :: out, S, S', h, h' => hN X S S' h.2 h'.2
/-- of two runs one is the beginning of the other -/
theorem fresh_pre (hF : ∀ S S', F S → F S' → S = S') (hN : ∀ X S S', N X S → N X S' → S = S') : ∀ {out out' : List (List α)}, freshB F N out → freshB F N out' → out.length ≤ out'.length → ∃ t, out' = t ++ out
  | out, [], h, h', hl => by
    have : out = [] := List.eq_nil_of_length_eq_zero (by simpa using hl)
    exact ⟨[], by rw [this]; rfl⟩
  | out, X :: out', h, h', hl => by
    rcases Nat.lt_or_ge out'.length out.length with hlt | hge
    · cases out with
      | nil => simp at hlt
      | cons Y out =>
        have hlen : out.length = out'.length := by simp at hl hlt; omega
        obtain ⟨t, ht⟩ := fresh_pre hF hN h.1 h'.1 (Nat.le_of_eq hlen)
        have ht0 : t = [] := by
          have := congrArg List.length ht
          rw [List.length_append] at this
          exact List.eq_nil_of_length_eq_zero (by omega)
        subst ht0
        rw [List.nil_append] at ht
        subst ht
        have := comes_uniq hF hN h.2.1 h'.2.1
        exact ⟨[], by rw [this]; rfl⟩
    · obtain ⟨t, ht⟩ := fresh_pre hF hN h h'.1 hge
      exact ⟨X :: t, by rw [ht]; rfl⟩
/-- a run that is over is one -/
theorem ends_uniq (hF : ∀ S S', F S → F S' → S = S') (hN : ∀ X S S', N X S → N X S' → S = S') {out out' : List (List α)} {S S' : List α} (h : freshB F N out) (h' : freshB F N out') (he : endsB F N out S) (he' : endsB F N out' S') : out = out' := by
  have key : ∀ {o o' : List (List α)} {R R' : List α}, freshB F N o → freshB F N o' → endsB F N o R → o.length < o'.length → False := by
    intro o o' R R' h1 h2 h3 hl
    obtain ⟨t, ht⟩ := fresh_pre hF hN h1 h2 (Nat.le_of_lt hl)
    have htl : 0 < t.length := by
      have := congrArg List.length ht
      rw [List.length_append] at this; omega
    -- the set that comes behind o stands in o'
    have hsub : ∀ {t : List (List α)}, 0 < t.length → freshB F N (t ++ o) → ∃ X, comesB F N o X ∧ X ≠ [] ∧ ¬ X ∈ o := by
      intro t
      induction t with
      | nil => intro h; simp at h
      | cons Y t ih =>
        intro _ hf
        rcases Nat.eq_zero_or_pos t.length with h0 | h0
        · have : t = [] := List.eq_nil_of_length_eq_zero h0
          subst this
          exact ⟨Y, hf.2.1, hf.2.2.1, hf.2.2.2⟩
        · exact ih h0 hf.1
    obtain ⟨X, hx, hx1, hx2⟩ := hsub htl (by rw [← ht]; exact h2)
    have := comes_uniq hF hN hx h3.1
    subst this
    rcases h3.2 with e | e
    · exact hx1 e
    · exact hx2 e
  rcases Nat.lt_trichotomy out.length out'.length with hl | hl | hl
  · exact (key (R' := S') h h' he hl).elim
  · obtain ⟨t, ht⟩ := fresh_pre hF hN h h' (Nat.le_of_eq hl)
    have : t = [] := by
      have := congrArg List.length ht
      rw [List.length_append] at this
      exact List.eq_nil_of_length_eq_zero (by omega)
    subst this
    exact ht.symm
  · exact (key (R' := S) h' h he' hl).elim
end
end Go.Proofs.YtngbimgabcacpaaGreat
namespace Go.Proofs.YtngbimgabcacpaaGreat
open Go.RowKit
set_option linter.unusedVariables false
/-- an answer that tells whether P -/
def RetP (P : Prop) (w : World) (e : Ending) (w' : World) : Prop := ∃ b : Bool, (b = true ↔ P) ∧ e = .returned (.bool b) ∧ Below w.heap.size w w'
theorem RetP.yes {P : Prop} {w w' : World} (h : P) (hb : Below w.heap.size w w') : RetP P w (.returned (.bool true)) w' := ⟨true, ⟨fun _ => h, fun _ => rfl⟩, rfl, hb⟩
theorem RetP.no {P : Prop} {w w' : World} (h : ¬ P) (hb : Below w.heap.size w w') : RetP P w (.returned (.bool false)) w' := ⟨false, ⟨fun h => (by cases h), fun h2 => absurd h2 h⟩, rfl, hb⟩
theorem bytes_eq {a b : ByteArray} : (a.toList == b.toList) = true ↔ a = b := by
  rw [beq_iff_eq, ByteArray.toList_eq, ByteArray.toList_eq]
  constructor
  · intro h
    obtain ⟨⟨x⟩⟩ := a
    obtain ⟨⟨y⟩⟩ := b
    have : x = y := h
    rw [this]
  · intro h; rw [h]
end Go.Proofs.YtngbimgabcacpaaGreat
namespace Go.Proofs.YtngbimgabcacpaaGreat
open Go.RowKit
set_option linter.unusedVariables false
/-- the sizes of all -/
theorem sumTo_eq (l : List ByteArray) : ∀ j, j ≤ l.length → sumTo l j = ((l.take j).map ByteArray.size).sum
  | 0, _ => by simp [sumTo]
  | j + 1, h => by
    rw [sumTo, sumTo_eq l j (by omega), List.take_succ_eq_append_getElem (by omega), nthS_lt (by omega), List.map_append, List.sum_append]
    simp only [List.map_cons, List.map_nil, List.sum_cons, List.sum_nil, Nat.add_zero]
def strSum (l : List ByteArray) : Nat := (l.map ByteArray.size).sum
theorem joinF_size (l : List ByteArray) (sep : ByteArray) : (joinF l sep).size ≤ strSum l + sep.size * l.length := by
  unfold joinF
  cases h : l.length with
  | zero => exact Nat.zero_le _
  | succ n =>
    rw [joinTo_size, sumTo_eq l _ (by omega), List.take_of_length_le (by omega), Nat.mul_succ]
    unfold strSum
    omega
theorem strSum_dot (l : List ByteArray) : strSum (l.map dotB) ≤ strSum l + l.length := by
  unfold strSum
  induction l with
  | nil => simp
  | cons a l ih =>
    have := dotB_size a
    simp only [List.map_cons, List.sum_cons, List.length_cons] at *
    omega
/-- the first j of them with full stops -/
def dotTo (l : List ByteArray) (j : Nat) : List ByteArray := (l.take j).map dotB
theorem dotTo_len {l : List ByteArray} {j : Nat} (h : j ≤ l.length) : (dotTo l j).length = j := by simp [dotTo]; omega
theorem dotTo_succ {l : List ByteArray} {j : Nat} (h : j < l.length) : dotTo l (j + 1) = dotTo l j ++ [dotB (nthS l j)] := by
  unfold dotTo; rw [List.take_succ_eq_append_getElem h, nthS_lt h, List.map_append]; rfl
theorem dotTo_all (l : List ByteArray) : dotTo l l.length = l.map dotB := by unfold dotTo; rw [List.take_of_length_le (Nat.le_refl _)]
/-- FormatWords as a function of plain data -/
def fmtWords (l : List ByteArray) : ByteArray := if l.length = 0 then ⟨#[45]⟩ else joinF (l.map dotB) ⟨#[44]⟩
theorem fmtWords_zero {l : List ByteArray} (h : l.length = 0) : fmtWords l = ⟨#[45]⟩ := by simp [fmtWords, h]
theorem fmtWords_pos {l : List ByteArray} (h : 0 < l.length) : fmtWords l = joinF (dotTo l l.length) ⟨#[44]⟩ := by rw [dotTo_all]; simp [fmtWords, show ¬ l.length = 0 by omega]
theorem fmtWords_size {l : List ByteArray} (h : l.length ≤ 2 ^ 40) (h2 : strSum l ≤ 2 ^ 40) : (joinF (dotTo l l.length) ⟨#[44]⟩).size ≤ 2 ^ 46 := by
  have h1 := joinF_size (dotTo l l.length) ⟨#[44]⟩
  have h3 := strSum_dot l
  rw [dotTo_len (Nat.le_refl _)] at h1
  rw [dotTo_all] at h1 ⊢
  have : (ByteArray.mk #[44]).size = 1 := rfl
  rw [this] at h1
  omega
end Go.Proofs.YtngbimgabcacpaaGreat
