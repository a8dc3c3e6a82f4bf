/-
  How many different sets there are over some things: plain data (for CodeLine's TailsOf).
-/
import Derived.Test.YtggfhephdcnpcaaGreatGrp01
import Derived.Test.YtggfhephdcnpcaaGreatGrp03
import Derived.Laws.BytesArg
import Derived.Test.YtggfhephdcnpcaaGreatGrp02
namespace Go.Proofs.YtggfhephdcnpcaaGreat
open Go.RowKit
set_option linter.unusedVariables false
/-- a slice of strings -/
def StrsIn (w : World) (a : Option Addr) (l : List ByteArray) : Prop := CellsIn w a (l.map Value.string)
theorem StrsIn.later {w w' : World} {a : Option Addr} {l : List ByteArray} (h : StrsIn w a l) (hb : Below w.heap.size w w') : StrsIn w' a l := CellsIn.later h hb
/-- the string at a place -/
def nthS (l : List ByteArray) (i : Nat) : ByteArray := l.getD i ⟨#[]⟩
theorem nthS_lt {l : List ByteArray} {i : Nat} (h : i < l.length) : nthS l i = l[i] := by simp [nthS, List.getD_eq_getElem?_getD, h]
theorem StrsIn.cell {w : World} {a : Option Addr} {l : List ByteArray} (h : StrsIn w a l) {i : Nat} (hi : i < l.length) :
    ∃ b off, a = some ⟨b, off, none⟩ ∧ b < w.heap.size ∧ ∀ j, j < l.length → w.cell? ⟨b, off + j, none⟩ = some (.string (nthS l j)) := by
  rcases h with h | ⟨b, off, ha, hc⟩
  · simp at h; simp [h] at hi
  · have key : ∀ j, j < l.length → w.cell? ⟨b, off + j, none⟩ = some (.string (nthS l j)) := fun j hj => by
      have := hc j (by simpa using hj)
      rw [nthS_lt hj]
      simpa using this
    exact ⟨b, off, ha, World.block_lt_of_cell? w _ (key i hi), key⟩
/-- the first j strings, joined -/
def joinTo (l : List ByteArray) (sep : ByteArray) : Nat → ByteArray
  | 0 => ⟨#[]⟩
  | j + 1 => if j = 0 then nthS l 0 else joinTo l sep j ++ sep ++ nthS l j
def joinF (l : List ByteArray) (sep : ByteArray) : ByteArray := joinTo l sep l.length
theorem joinTo_one (l : List ByteArray) (sep : ByteArray) : joinTo l sep 1 = nthS l 0 := rfl
theorem joinTo_succ (l : List ByteArray) (sep : ByteArray) {j : Nat} (h : 0 < j) : joinTo l sep (j + 1) = joinTo l sep j ++ sep ++ nthS l j := by
  simp only [joinTo, if_neg (show ¬ j = 0 by omega)]
/-- the sizes of the first j -/
def sumTo (l : List ByteArray) : Nat → Nat
  | 0 => 0
  | j + 1 => sumTo l j + (nthS l j).size
theorem joinTo_size (l : List ByteArray) (sep : ByteArray) : ∀ j, (joinTo l sep (j + 1)).size = sumTo l (j + 1) + sep.size * j
  | 0 => by simp [joinTo, sumTo]
  | j + 1 => by
    rw [joinTo_succ l sep (by omega), ByteArray.size_append, ByteArray.size_append, joinTo_size l sep j, sumTo, Nat.mul_add, sumTo]
    simp only [sumTo]
    omega
theorem joinTo_mono (l : List ByteArray) (sep : ByteArray) {i j : Nat} (h : i ≤ j) : (joinTo l sep i).size ≤ (joinTo l sep j).size := by
  induction h with
  | refl => exact Nat.le_refl _
  | step h ih =>
    rename_i m
    refine Nat.le_trans ih ?_
    cases m with
    | zero => exact Nat.zero_le _
    | succ m => rw [joinTo_succ l sep (j := m + 1) (by omega), ByteArray.size_append, ByteArray.size_append]; omega
theorem sumTo_mono (l : List ByteArray) {i j : Nat} (h : i ≤ j) : sumTo l i ≤ sumTo l j := by
  induction h with
  | refl => exact Nat.le_refl _
  | step h ih => exact Nat.le_trans ih (by simp [sumTo])
theorem ret_str {a b : ByteArray} (h : a = b) : Ending.returned (.string a) = .returned (.string b) := by rw [h]
theorem cells_append (a b : ByteArray) : Lib.byteCells a.data.toList ++ Lib.strCells b = Lib.byteCells (a ++ b).data.toList := by
  rw [Lib.strCells_eq, ← Lib.byteCells_append]; simp
theorem alloc_at (w : World) (o : Obj) : (w.alloc o).heap[w.heap.size]? = some o := by unfold World.alloc; simp
end Go.Proofs.YtggfhephdcnpcaaGreat
namespace Go.Proofs.YtggfhephdcnpcaaGreat
open Go.RowKit
set_option linter.unusedVariables false
/-- a text of one byte -/
def oneC (x : Int) : ByteArray := ⟨#[UInt8.ofNat x.toNat]⟩
theorem convC (w : World) (x : Int) :
    (convert 22 9 (.slice (some ⟨w.heap.size, 0, none⟩) 1 1)).run Tryz.prog (w.alloc (.cells #[.int .u8 x] 5)) = .ok (.string (oneC x)) (w.alloc (.cells #[.int .u8 x] 5)) :=
  run_convert_bytes_arg (P := Tryz.prog) (w.alloc (.cells #[.int .u8 x] 5)) 22 5 Tryz.underlying22 Tryz.underlying5 w.heap.size 0 1 1 [x] rfl (fun i hi => by
    obtain rfl : i = 0 := by omega
    simp) 9 Tryz.underlying9
/-- the letter of a number -/
def letterN (x : Nat) : ByteArray := oneC (97 + (x : Int))
theorem letterN_size (x : Nat) : (letterN x).size = 1 := rfl
end Go.Proofs.YtggfhephdcnpcaaGreat
namespace Go.Proofs.YtggfhephdcnpcaaGreat
open Go.RowKit
set_option linter.unusedVariables false
/-- WordOk as a function of plain data -/
def wordOkB (k : Int) (s : ByteArray) : Bool := inB k 1 4 && (decide (s.size ≤ 16) && allB (letB k) s)
theorem letB_low {k : Int} {c : UInt8} (h : (c.toNat : Int) < 97) : letB k c = false := by
  simp [letB, inB]; omega
theorem letB_high {k : Int} {c : UInt8} (h : 97 ≤ (c.toNat : Int)) (h2 : k ≤ (c.toNat : Int) - 97) : letB k c = false := by
  simp [letB, inB]; omega
theorem letB_true {k : Int} {c : UInt8} (h : letB k c = true) : 97 ≤ (c.toNat : Int) ∧ (c.toNat : Int) - 97 < k := by
  simp [letB, inB] at h; omega
theorem wordOk_notk {k : Int} {s : ByteArray} (h : inB k 1 4 = false) : wordOkB k s = false := by simp [wordOkB, h]
theorem wordOk_long {k : Int} {s : ByteArray} (h : 16 < s.size) : wordOkB k s = false := by
  simp [wordOkB, show ¬ s.size ≤ 16 by omega]
theorem wordOk_all {k : Int} {s : ByteArray} (h : inB k 1 4 = true) (h2 : s.size ≤ 16) : wordOkB k s = allB (letB k) s := by simp [wordOkB, h, h2]
set_option maxHeartbeats 400000 in
theorem specWordOk_any (k : Int) (s : ByteArray) (w : World) (hs : s.size ≤ maxLen) :
    Calls Tryz.prog 125 #[.int .i64 k, .string s] w fun e w' => e = .returned (.bool (wordOkB k s)) ∧ w = w' := by
  unfold maxLen at hs
  cases hk : inB k 1 4
  · have F := Lib.hid (wordOk_notk (s := s) hk)
    go_enter Tryz.func125, Tryz.ntmps125
    go_wp2_with (go_at_call 104; refine (l01In_any _ _ _ _).mono ?_; rintro e w' ⟨rfl, rfl⟩)
    go_ret
    exact ⟨ret_bool F.out.symm, rfl⟩
  by_cases hl : 16 < s.size
  · have F := Lib.hid (wordOk_long (k := k) hl)
    go_enter Tryz.func125, Tryz.ntmps125
    go_wp2_with (go_at_call 104; refine (l01In_any _ _ _ _).mono ?_; rintro e w' ⟨rfl, rfl⟩)
    go_ret
    exact ⟨ret_bool F.out.symm, rfl⟩
  have hl' : s.size ≤ 16 := by omega
  have G := Lib.hid (wordOk_all (s := s) hk hl')
  have ⟨hk1, hk2⟩ := inB_bounds hk
  go_enter Tryz.func125, Tryz.ntmps125
  go_wp2_with (go_at_call 104; refine (l01In_any _ _ _ _).mono ?_; rintro e w' ⟨rfl, rfl⟩)
  go_loop [5] (fun i => ∃ j : Nat, j ≤ s.size ∧ i = .int .i64 j ∧ allTo (letB k) s j = true) (fun i => s.size - (intOf i).toNat)
  case atStart => exact ⟨0, Nat.zero_le _, rfl, allTo_zero _ _⟩
  case round =>
    obtain ⟨j, hj, rfl, hall⟩ := hrel
    have H := Lib.hid hall
    clear hall
    by_cases hlt : j < s.size
    · have hb := byte_lt s[j]
      by_cases h1 : (s[j].toNat : Int) < 97
      · have F := Lib.hid (allB_at s (letB k) j hlt (letB_low h1))
        go_wp2
        go_ret
        exact ⟨ret_bool (by rw [G.out, F.out]), rfl⟩
      · by_cases h2 : k ≤ (s[j].toNat : Int) - 97
        · have F := Lib.hid (allB_at s (letB k) j hlt (letB_high (by omega) h2))
          go_wp2
          go_ret
          exact ⟨ret_bool (by rw [G.out, F.out]), rfl⟩
        · have F := Lib.hid (allTo_succ s (letB k) j hlt H.out (by simp [letB, inB]; omega))
          go_wp2
          go_round
          case rel => exact ⟨j + 1, by omega, by go_num, F.out⟩
          case measure => simp [intOf]; omega
    · have F := Lib.hid (allTo_full s (letB k) j hlt H.out)
      go_wp2
      go_ret
      exact ⟨ret_bool (by rw [G.out, F.out]), rfl⟩
/-- a byte of a pattern -/
def patB (c : UInt8) : Bool := isVarB c || letB 4 c
/-- PatternOk as a function of plain data -/
def patternOkB (s : ByteArray) : Bool := allB patB s && decide (s.size ≤ 8)
theorem one_list (s : ByteArray) (j : Nat) (h : j < s.size) : (s.extract j (j + 1)).data.toList = [s[j]] := by
  have : (s.extract j (j + 1)).data = s.data.extract j (j + 1) := by simp
  rw [this, Array.toList_extract, List.extract_eq_take_drop, show j + 1 - j = 1 by omega, List.take_one, List.head?_drop]
  rw [List.getElem?_eq_getElem (by simpa using h)]
  simp [ByteArray.getElem_eq_getElem_data]
theorem one_all (s : ByteArray) (p : UInt8 → Bool) (j : Nat) (h : j < s.size) : allB p (s.extract j (j + 1)) = p s[j] := by
  unfold allB; rw [one_list s j h]; simp
theorem one_size (s : ByteArray) (j : Nat) (h : j < s.size) : (s.extract j (j + 1)).size = 1 := by
  rw [← ByteArray.size_data, ← Array.length_toList, one_list s j h]; rfl
theorem one_wordOk (s : ByteArray) (j : Nat) (h : j < s.size) : wordOkB 4 (s.extract j (j + 1)) = letB 4 s[j] := by
  rw [wordOk_all (by decide) (by rw [one_size s j h]; omega), one_all s _ j h]
theorem patB_var {c : UInt8} (h : isVarB c = true) : patB c = true := by simp [patB, h]
theorem patB_let {c : UInt8} {b : Bool} (h : isVarB c = false) (h2 : letB 4 c = b) : patB c = b := by simp [patB, h, h2]
theorem patOk_all {s : ByteArray} (h : allB patB s = true) : decide ((s.size : Int) ≤ 8) = patternOkB s := by simp [patternOkB, h]; omega
theorem patOk_not {s : ByteArray} (h : allB patB s = false) : patternOkB s = false := by simp [patternOkB, h]
end Go.Proofs.YtggfhephdcnpcaaGreat
namespace Go.Proofs.YtggfhephdcnpcaaGreat
open Go.RowKit
set_option linter.unusedVariables false
theorem Tryz.infoStr : (Tryz.prog.info? 9).map (fun i => (i.zero, i.size, i.bytes)) = some (some (.string ⟨#[]⟩), 1, 16) := by kernel_rfl
theorem nil_app (x : ByteArray) : (⟨#[]⟩ : ByteArray) ++ x = x := by ext1; simp
def strVals (l : List ByteArray) : List Value := l.map Value.string
theorem strVals_len (l : List ByteArray) : (strVals l).length = l.length := by simp [strVals]
theorem owns_strs {w : World} {base : Nat} {T : TypeId} {size : Nat} {a : Option Addr} {n m cap : Nat} {l : List ByteArray} (h : w.ownsRow base T size (.slice a m cap) n (strVals l)) : StrsIn w a l := owns_cells h
theorem owns_capS {w : World} {base : Nat} {T : TypeId} {size : Nat} {a : Option Addr} {n m cap : Nat} {xs : List Value} (h : w.ownsRow base T size (.slice a n cap) m xs) : n ≤ cap ∧ cap ≤ maxLen := by
  rcases h.2 with ⟨hv, h0⟩ | ⟨g, cap', cur, hv, hb, hg, hn, hc, r⟩
  · simp only [Value.slice.injEq] at hv
    obtain ⟨_, rfl, rfl⟩ := hv
    exact ⟨Nat.le_refl _, Nat.zero_le _⟩
  · simp only [Value.slice.injEq] at hv
    obtain ⟨_, rfl, rfl⟩ := hv
    exact ⟨hn, hc⟩
/-- a full stop for the empty word -/
def dotB (s : ByteArray) : ByteArray := if s.toList.isEmpty = true then ⟨#[46]⟩ else s
theorem dotB_size (s : ByteArray) : (dotB s).size ≤ s.size + 1 := by
  unfold dotB
  split
  · show 1 ≤ _; omega
  · omega
set_option maxHeartbeats 400000 in
theorem l03Side_any (s : ByteArray) (w : World) :
    Calls Tryz.prog 143 #[.string s] w fun e w' => e = .returned (.string (dotB s)) ∧ w = w' := by
  cases h : s.toList.isEmpty
  · have F : Hid (dotB s = s) := Lib.hid (by simp [dotB, h])
    go_enter Tryz.func143, Tryz.ntmps143
    go_wp2_with fail
    go_ret
    exact ⟨ret_str F.out.symm, rfl⟩
  · have F : Hid (dotB s = ⟨#[46]⟩) := Lib.hid (by simp [dotB, h])
    go_enter Tryz.func143, Tryz.ntmps143
    go_wp2_with fail
    go_ret
    exact ⟨ret_str F.out.symm, rfl⟩
end Go.Proofs.YtggfhephdcnpcaaGreat
namespace Go.Proofs.YtggfhephdcnpcaaGreat
open Go.RowKit
set_option linter.unusedVariables false
theorem grown_alloc {w w1 : World} {r : Option Nat} (h : w.grownBy w1 r) (o : Obj) : w.grownBy (w1.alloc o) r := by
  have e := Below.heap_alloc w1 o
  exact ⟨h.os, h.tape, h.output, Nat.le_trans h.size (by simp), fun k hk hne => (e k (Nat.lt_of_lt_of_le hk h.size)).trans (h.block k hk hne)⟩
theorem CurOk.alloc {w : World} {B : Nat} {a : Option Addr} {l : List UInt8} {cap : Nat} (h : CurOk w B a l cap) (o : Obj) : CurOk (w.alloc o) B a l cap := h.later ((Below.refl _ _).alloc (Nat.le_refl _) _)
theorem CurOk.lt {w : World} {B : Nat} {a : Option Addr} {l : List UInt8} {cap : Nat} (h : CurOk w B a l cap) : B < w.heap.size := h.at_.lt
set_option maxHeartbeats 1000000 in
theorem l01Below_any (B n : Nat) (a : Option Addr) (l : List UInt8) (cap : Nat) (w : World) (h : CurOk w B a l cap) (hn : 1 ≤ n) (hn2 : n ≤ 256) :
    Calls Tryz.prog 102 #[.pointer (some ⟨B, 0, none⟩), .int .i64 (n : Nat)] w fun e w' => ∃ x : Nat, x < n ∧ e = .returned (.int .i64 ((x : Nat) : Int)) ∧ CurOk w' B a l cap ∧ w.grownBy w' (some B) := by
  have HB := Lib.hid (byte_cur h)
  clear h
  have h0 : ¬ (n : Int) ≤ 0 := by omega
  have h2 : (n : Int) ≤ 256 := by omega
  have hnz : ((n : Int) == 0) = false := by rw [beq_eq_false_iff_ne]; omega
  have hnz2 : ¬ (n : Int) = 0 := by omega
  go_enter Tryz.func102, Tryz.ntmps102
  go_wp2_with fail
  refine HB.out.mono ?_
  rintro e w2 ⟨x, hx, rfl, hc2, hg2⟩
  have HC := Lib.hid hc2
  have HG := Lib.hid hg2
  clear hc2 hg2 HB
  go_wp2_with fail
  go_ret
  exact ⟨x % n, Nat.mod_lt _ (by omega), ret_int (by first | rfl | simp), HC.out, HG.out⟩
set_option maxHeartbeats 400000 in
theorem l01Once_any (B n : Nat) (a : Option Addr) (l : List UInt8) (cap : Nat) (w : World) (h : CurOk w B a l cap) (hn : 1 ≤ n) (hn2 : n ≤ 256) :
    Calls Tryz.prog 88 #[.pointer (some ⟨B, 0, none⟩), .int .i64 (n : Nat)] w fun e w' => ∃ b : Bool, e = .returned (.bool b) ∧ CurOk w' B a l cap ∧ w.grownBy w' (some B) := by
  have HB := Lib.hid (l01Below_any B n a l cap w h hn hn2)
  clear h
  go_enter Tryz.func88, Tryz.ntmps88
  go_wp2_with fail
  refine HB.out.mono ?_
  rintro e w2 ⟨x, hx, rfl, hc2, hg2⟩
  have HC := Lib.hid hc2
  have HG := Lib.hid hg2
  clear hc2 hg2 HB
  go_wp2_with fail
  go_ret
  exact ⟨_, rfl, HC.out, HG.out⟩
theorem StrsIn.grownB {w w' : World} {B : Nat} {a : Option Addr} {l : List ByteArray} (h : StrsIn w a l) (hg : w.grownBy w' (some B)) (hne : ∀ x, a = some x → x.block ≠ B) : StrsIn w' a l := by
  rcases h with h | ⟨b, off, ha, hc⟩
  · exact .inl h
  · refine .inr ⟨b, off, ha, fun i hi => ?_⟩
    rw [World.cell?_of_block (w := w) (hg.block b (World.block_lt_of_cell? w _ (hc i hi)) (fun e => hne _ ha (Option.some.inj e)))]
    exact hc i hi
set_option maxHeartbeats 1000000 in
theorem l01Str_any (B : Nat) (a : Option Addr) (l : List UInt8) (cap : Nat) (ls : List ByteArray) (a2 : Option Addr) (cap2 : Nat) (w : World) (h : CurOk w B a l cap) (hl : StrsIn w a2 ls) (hne : ∀ x, a2 = some x → x.block ≠ B) (h1 : 1 ≤ ls.length) (h2 : ls.length ≤ 256) :
    Calls Tryz.prog 76 #[.pointer (some ⟨B, 0, none⟩), .slice a2 ls.length cap2] w fun e w' => ∃ i : Nat, i < ls.length ∧ e = .returned (.string (nthS ls i)) ∧ CurOk w' B a l cap ∧ w.grownBy w' (some B) := by
  have HB := Lib.hid (l01Below_any B ls.length a l cap w h h1 h2)
  have HL := Lib.hid hl
  have HN := Lib.hid hne
  clear h hl hne
  go_enter Tryz.func76, Tryz.ntmps76
  go_wp2_with fail
  refine HB.out.mono ?_
  rintro e w2 ⟨x, hx, rfl, hc2, hg2⟩
  obtain ⟨b, off, rfl, hb, hcell⟩ := (HL.out.grownB hg2 HN.out).cell hx
  have c1 := hcell x hx
  have HC := Lib.hid hc2
  have HG := Lib.hid hg2
  clear hc2 hg2 HB hcell
  go_wp2_with fail
  go_ret
  exact ⟨x, hx, rfl, HC.out, HG.out⟩
theorem StrsIn.lit (w : World) (ls : List ByteArray) : StrsIn (w.alloc (.cells (strVals ls).toArray 9)) (some ⟨w.heap.size, 0, none⟩) ls := by
  refine .inr ⟨_, _, rfl, fun i hi => ?_⟩
  rw [Nat.zero_add, World.cell?_alloc_new]
  have h2 : i < (strVals ls).length := by simpa [strVals] using hi
  show (strVals ls).toArray[i]? = some _
  rw [List.getElem?_toArray, List.getElem?_eq_getElem h2]
  rfl
/-- a literal row of strings is drawn from -/
theorem strLit_any (B : Nat) (a : Option Addr) (l : List UInt8) (cap : Nat) (ls : List ByteArray) (w : World) (h : CurOk w B a l cap) (h1 : 1 ≤ ls.length) (h2 : ls.length ≤ 256) :
    Calls Tryz.prog 76 #[.pointer (some ⟨B, 0, none⟩), .slice (some ⟨w.heap.size, 0, none⟩) ls.length ls.length] (w.alloc (.cells (strVals ls).toArray 9)) fun e w' => ∃ i : Nat, i < ls.length ∧ e = .returned (.string (nthS ls i)) ∧ CurOk w' B a l cap ∧ w.grownBy w' (some B) :=
  (l01Str_any B a l cap ls (some ⟨w.heap.size, 0, none⟩) ls.length _ (h.alloc _) (StrsIn.lit w ls) (fun x hx => by
    obtain rfl := Option.some.inj hx
    have := h.lt
    show w.heap.size ≠ B; omega) h1 h2).mono fun _ _ ⟨i, hi, he, hc, hg⟩ => ⟨i, hi, he, hc, grown_tr (grown_alloc ⟨rfl, rfl, rfl, Nat.le_refl _, fun _ _ _ => rfl⟩ _) hg⟩
theorem allB_app (p : UInt8 → Bool) (u v : ByteArray) : allB p (u ++ v) = (allB p u && allB p v) := by simp [allB]
end Go.Proofs.YtggfhephdcnpcaaGreat
namespace Go.Proofs.YtggfhephdcnpcaaGreat
open Go.RowKit
set_option linter.unusedVariables false
/-- a rule: its two sides -/
abbrev RulD := ByteArray × ByteArray
/-- the cells of rules -/
def ruleCells : List RulD → List Value
  | [] => []
  | p :: l => .string p.1 :: .string p.2 :: ruleCells l
theorem ruleCells_len : ∀ l : List RulD, (ruleCells l).length = l.length * 2
  | [] => rfl
  | p :: l => by simp only [ruleCells, List.length_cons, ruleCells_len l]; omega
theorem ruleCells_app : ∀ l m : List RulD, ruleCells (l ++ m) = ruleCells l ++ ruleCells m
  | [], m => rfl
  | p :: l, m => by simp only [List.cons_append, ruleCells, ruleCells_app l m]
/-- the rule at a place -/
def nthR (l : List RulD) (j : Nat) : RulD := l.getD j (⟨#[]⟩, ⟨#[]⟩)
theorem nthR_lt {l : List RulD} {j : Nat} (h : j < l.length) : nthR l j = l[j] := by simp [nthR, List.getD_eq_getElem?_getD, h]
theorem nthR_mem {l : List RulD} {j : Nat} (h : j < l.length) : nthR l j ∈ l := by rw [nthR_lt h]; exact List.getElem_mem h
theorem mem_nthR {l : List RulD} {r : RulD} (h : r ∈ l) : ∃ i, i < l.length ∧ nthR l i = r := by
  obtain ⟨i, hi, he⟩ := List.getElem_of_mem h
  exact ⟨i, hi, by rw [nthR_lt hi, he]⟩
theorem ruleCells_at : ∀ (l : List RulD) (j : Nat), j < l.length → (ruleCells l)[j * 2]? = some (.string (nthR l j).1) ∧ (ruleCells l)[j * 2 + 1]? = some (.string (nthR l j).2)
  | [], j, h => by simp at h
  | p :: l, 0, _ => by simp [ruleCells, nthR]
  | p :: l, j + 1, h => by
    have := ruleCells_at l j (by simpa using h)
    rw [show (j + 1) * 2 = j * 2 + 2 by omega, show j * 2 + 2 + 1 = (j * 2 + 1) + 2 by omega]
    have e1 : ∀ n, (ruleCells (p :: l))[n + 2]? = (ruleCells l)[n]? := fun n => rfl
    have e2 : nthR (p :: l) (j + 1) = nthR l j := rfl
    rw [e1, e1, e2]
    exact this
/-- a slice of rules -/
def RulesIn (w : World) (a : Option Addr) (l : List RulD) : Prop := CellsIn w a (ruleCells l)
theorem RulesIn.later {w w' : World} {a : Option Addr} {l : List RulD} (h : RulesIn w a l) (hb : Below w.heap.size w w') : RulesIn w' a l := CellsIn.later h hb
theorem RulesIn.cell {w : World} {a : Option Addr} {l : List RulD} (h : RulesIn w a l) {i : Nat} (hi : i < l.length) :
    ∃ b off, a = some ⟨b, off, none⟩ ∧ b < w.heap.size ∧ ∀ j, j < l.length → w.cell? ⟨b, off + j * 2, none⟩ = some (.string (nthR l j).1) ∧ w.cell? ⟨b, off + j * 2 + 1, none⟩ = some (.string (nthR l j).2) := by
  rcases h with h | ⟨b, off, ha, hc⟩
  · have := ruleCells_len l
    rw [h, List.length_nil] at this
    omega
  · have key : ∀ j, j < l.length → w.cell? ⟨b, off + j * 2, none⟩ = some (.string (nthR l j).1) ∧ w.cell? ⟨b, off + j * 2 + 1, none⟩ = some (.string (nthR l j).2) := fun j hj => by
      obtain ⟨h1, h2⟩ := ruleCells_at l j hj
      have hlen := ruleCells_len l
      have c1 := hc (j * 2) (by omega)
      have c2 := hc (j * 2 + 1) (by omega)
      rw [List.getElem?_eq_getElem (by omega)] at h1 h2
      rw [Option.some.inj h1] at c1
      rw [Option.some.inj h2] at c2
      exact ⟨c1, by rw [← Nat.add_assoc] at c2; exact c2⟩
    exact ⟨b, off, ha, World.block_lt_of_cell? w _ (key i hi).1, key⟩
theorem owns_rules {w : World} {base : Nat} {T : TypeId} {size : Nat} {a : Option Addr} {n m cap : Nat} {l : List RulD} (h : w.ownsRow base T size (.slice a m cap) n (ruleCells l)) : RulesIn w a l := owns_cells h
/-- the sizes of the sides -/
def ruleSum (l : List RulD) : Nat := (l.map fun r => r.1.size + r.2.size).sum
def ruleSumTo (l : List RulD) : Nat → Nat
  | 0 => 0
  | j + 1 => ruleSumTo l j + ((nthR l j).1.size + (nthR l j).2.size)
theorem ruleSumTo_eq (l : List RulD) : ∀ j, j ≤ l.length → ruleSumTo l j = ((l.take j).map fun r => r.1.size + r.2.size).sum
  | 0, _ => by simp [ruleSumTo]
  | j + 1, h => by
    rw [ruleSumTo, ruleSumTo_eq l j (by omega), List.take_succ_eq_append_getElem (by omega), nthR_lt (by omega), List.map_append, List.sum_append]
    simp only [List.map_cons, List.map_nil, List.sum_cons, List.sum_nil, Nat.add_zero]
theorem ruleSumTo_all (l : List RulD) : ruleSumTo l l.length = ruleSum l := by rw [ruleSumTo_eq l _ (Nat.le_refl _), List.take_length]; rfl
theorem ruleSumTo_mono (l : List RulD) {i j : Nat} (h : i ≤ j) : ruleSumTo l i ≤ ruleSumTo l j := by
  induction h with
  | refl => exact Nat.le_refl _
  | step h ih => exact Nat.le_trans ih (by simp [ruleSumTo])
theorem ruleSum_at {l : List RulD} {j : Nat} (h : j < l.length) : (nthR l j).1.size + (nthR l j).2.size ≤ ruleSum l := by
  have h1 := ruleSumTo_mono l (show j + 1 ≤ l.length from h)
  rw [ruleSumTo_all] at h1
  have : ruleSumTo l (j + 1) = ruleSumTo l j + ((nthR l j).1.size + (nthR l j).2.size) := rfl
  omega
end Go.Proofs.YtggfhephdcnpcaaGreat
namespace Go.Proofs.YtggfhephdcnpcaaGreat
set_option linter.unusedVariables false
section
variable {α : Type} [DecidableEq α]
/-- the number of a set: a bit for each thing -/
def codeN (x : List α) : List α → Nat
  | [] => 0
  | u :: us => (if u ∈ x then 1 else 0) + 2 * codeN x us
theorem codeN_lt (x : List α) : ∀ U : List α, codeN x U < 2 ^ U.length
  | [] => by show 0 < 1; omega
  | u :: us => by
    have ih := codeN_lt x us
    have hp : 2 ^ (u :: us).length = 2 * 2 ^ us.length := by rw [List.length_cons, Nat.pow_succ]; omega
    show (if u ∈ x then 1 else 0) + 2 * codeN x us < _
    rw [hp]
    split <;> omega
theorem codeN_inj {x y : List α} : ∀ {U : List α}, codeN x U = codeN y U → ∀ u ∈ U, (u ∈ x ↔ u ∈ y)
  | [], _, u, hu => by cases hu
  | v :: us, h, u, hu => by
    have h' : (if v ∈ x then 1 else 0) + 2 * codeN x us = (if v ∈ y then 1 else 0) + 2 * codeN y us := h
    have hh : (v ∈ x ↔ v ∈ y) ∧ codeN x us = codeN y us := by
      by_cases a : v ∈ x <;> by_cases b : v ∈ y <;> simp only [a, b, if_true, if_false] at h' ⊢ <;> simp <;> omega
    rcases List.mem_cons.1 hu with rfl | hu
    · exact hh.1
    · exact codeN_inj hh.2 u hu
theorem one_le_filter {n : Nat} : ∀ {L : List Nat}, L.Nodup → L.length ≤ (L.filter (fun x => decide (x ≠ n))).length + 1
  | [], _ => by simp
  | a :: L, h => by
    rw [List.nodup_cons] at h
    rw [List.filter_cons]
    by_cases e : a = n
    · have : L.filter (fun x => decide (x ≠ n)) = L := by
        rw [List.filter_eq_self]
        intro x hx
        have : x ≠ n := fun e2 => h.1 (by rw [e, ← e2]; exact hx)
        simpa using this
      rw [if_neg (by simpa using e), this, List.length_cons]; exact Nat.le_refl _
    · have ih := one_le_filter (n := n) h.2
      rw [if_pos (by simpa using e), List.length_cons, List.length_cons]
      omega
/-- so many different numbers below n are no more than n -/
theorem nodup_bound : ∀ (n : Nat) (L : List Nat), L.Nodup → (∀ x ∈ L, x < n) → L.length ≤ n
  | 0, L, _, h => by
    cases L with
    | nil => exact Nat.le_refl _
    | cons a l => exact absurd (h a List.mem_cons_self) (Nat.not_lt_zero _)
  | n + 1, L, hn, h => by
    have h1 := one_le_filter (n := n) hn
    have h2 := nodup_bound n (L.filter (fun x => decide (x ≠ n))) (hn.filter _) (fun x hx => by
      rw [List.mem_filter] at hx
      have := h x hx.1
      have h3 : x ≠ n := by simpa using hx.2
      omega)
    omega
theorem nodup_map {β : Type} {f : β → Nat} : ∀ {L : List β}, L.Nodup → (∀ x ∈ L, ∀ y ∈ L, f x = f y → x = y) → (L.map f).Nodup
  | [], _, _ => List.nodup_nil
  | a :: L, h, hi => by
    rw [List.nodup_cons] at h
    rw [List.map_cons, List.nodup_cons]
    refine ⟨fun hm => ?_, nodup_map h.2 (fun x hx y hy => hi x (List.mem_cons_of_mem _ hx) y (List.mem_cons_of_mem _ hy))⟩
    obtain ⟨b, hb, he⟩ := List.mem_map.1 hm
    have := hi a List.mem_cons_self b (List.mem_cons_of_mem _ hb) he.symm
    exact h.1 (by rw [this]; exact hb)
/-- so many different sets over U are no more than there are subsets -/
theorem sets_bound {U : List α} {L : List (List α)} (hn : L.Nodup) (hU : ∀ x ∈ L, ∀ u ∈ x, u ∈ U) (hx : ∀ x ∈ L, ∀ y ∈ L, (∀ u, u ∈ x ↔ u ∈ y) → x = y) : L.length ≤ 2 ^ U.length := by
  have h1 : (L.map fun x => codeN x U).Nodup := nodup_map hn (fun x hx1 y hy1 he => hx x hx1 y hy1 (fun u => by
    by_cases hu : u ∈ U
    · exact codeN_inj he u hu
    · exact ⟨fun h => absurd (hU x hx1 u h) hu, fun h => absurd (hU y hy1 u h) hu⟩))
  have h2 := nodup_bound (2 ^ U.length) _ h1 (fun z hz => by
    obtain ⟨x, _, rfl⟩ := List.mem_map.1 hz
    exact codeN_lt x U)
  rwa [List.length_map] at h2
/-- two strictly sorted lists with the same members are one -/
theorem sorted_ext {lt : α → α → Prop} (hirr : ∀ a, ¬ lt a a) (htr : ∀ a b c, lt a b → lt b c → lt a c) : ∀ {x y : List α}, x.Pairwise lt → y.Pairwise lt → (∀ u, u ∈ x ↔ u ∈ y) → x = y
  | [], y, _, _, h => by
    cases y with
    | nil => rfl
    | cons b y => exact absurd ((h b).2 List.mem_cons_self) (by simp)
  | a :: x, [], _, _, h => absurd ((h a).1 List.mem_cons_self) (by simp)
  | a :: x, b :: y, hx, hy, h => by
    rw [List.pairwise_cons] at hx hy
    have hab : a = b := by
      rcases List.mem_cons.1 ((h a).1 List.mem_cons_self) with e | e
      · exact e
      · rcases List.mem_cons.1 ((h b).2 List.mem_cons_self) with e2 | e2
        · exact e2.symm
        · exact absurd (htr _ _ _ (hx.1 b e2) (hy.1 a e)) (hirr a)
    subst hab
    have hxy : x = y := sorted_ext hirr htr hx.2 hy.2 (fun u => by
      have hu := h u
      rw [List.mem_cons, List.mem_cons] at hu
      by_cases e : u = a
      · subst e
        exact ⟨fun m => absurd (hx.1 u m) (hirr u), fun m => absurd (hy.1 u m) (hirr u)⟩
      · constructor
        · intro m; exact (hu.1 (.inr m)).resolve_left e
        · intro m; exact (hu.2 (.inr m)).resolve_left e)
    rw [hxy]
end
theorem sorted_nodup {α : Type} {lt : α → α → Prop} (hirr : ∀ a, ¬ lt a a) : ∀ {x : List α}, x.Pairwise lt → x.Nodup
  | [], _ => List.nodup_nil
  | a :: x, h => by
    rw [List.pairwise_cons] at h
    rw [List.nodup_cons]
    exact ⟨fun m => hirr a (h.1 a m), sorted_nodup hirr h.2⟩
end Go.Proofs.YtggfhephdcnpcaaGreat
