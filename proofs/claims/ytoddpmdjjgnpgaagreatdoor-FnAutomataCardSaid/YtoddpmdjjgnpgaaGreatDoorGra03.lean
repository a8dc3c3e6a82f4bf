/-
  WordOk of the program.
-/
import Derived.Test.YtoddpmdjjgnpgaaGreatDoorGra01
import Derived.Test.YtoddpmdjjgnpgaaGreatDoorGra02
import Derived.Laws.BytesArg
import Derived.Lib.SlicesCompact
import Derived.Sort.Statements
import Derived.Sort.Walk0
import Derived.ProofKit
import Derived.OpenShut
import Derived.Lib.SmallJoins
import Derived.SliceStrings
import Derived.Sort.OwnSorted
namespace Go.Proofs.YtoddpmdjjgnpgaaGreatDoor
open Go.RowKit
set_option linter.unusedVariables false
/-- a slice of strings -/
def StrsIn (w : World) (a : Option Addr) (l : List ByteArray) : Prop := CellsIn w a (l.map Value.string)
theorem StrsIn.later {w w' : World} {a : Option Addr} {l : List ByteArray} (h : StrsIn w a l) (hb : Below w.heap.size w w') : StrsIn w' a l := CellsIn.later h hb
/-- the string at a place -/
def nthS (l : List ByteArray) (i : Nat) : ByteArray := l.getD i ⟨#[]⟩
theorem nthS_lt {l : List ByteArray} {i : Nat} (h : i < l.length) : nthS l i = l[i] := by simp [nthS, List.getD_eq_getElem?_getD, h]
theorem StrsIn.cell {w : World} {a : Option Addr} {l : List ByteArray} (h : StrsIn w a l) {i : Nat} (hi : i < l.length) :
    ∃ b off, a = some ⟨b, off, none⟩ ∧ b < w.heap.size ∧ ∀ j, j < l.length → w.cell? ⟨b, off + j, none⟩ = some (.string (nthS l j)) := by
  rcases h with h | ⟨b, off, ha, hc⟩
  · simp at h; simp [h] at hi
  · have key : ∀ j, j < l.length → w.cell? ⟨b, off + j, none⟩ = some (.string (nthS l j)) := fun j hj => by
      have := hc j (by simpa using hj)
      rw [nthS_lt hj]
      simpa using this
    exact ⟨b, off, ha, World.block_lt_of_cell? w _ (key i hi), key⟩
/-- the first j strings, joined -/
def joinTo (l : List ByteArray) (sep : ByteArray) : Nat → ByteArray
  | 0 => ⟨#[]⟩
  | j + 1 => if j = 0 then nthS l 0 else joinTo l sep j ++ sep ++ nthS l j
def joinF (l : List ByteArray) (sep : ByteArray) : ByteArray := joinTo l sep l.length
theorem joinTo_one (l : List ByteArray) (sep : ByteArray) : joinTo l sep 1 = nthS l 0 := rfl
theorem joinTo_succ (l : List ByteArray) (sep : ByteArray) {j : Nat} (h : 0 < j) : joinTo l sep (j + 1) = joinTo l sep j ++ sep ++ nthS l j := by
  simp only [joinTo, if_neg (show ¬ j = 0 by omega)]
theorem ret_str {a b : ByteArray} (h : a = b) : Ending.returned (.string a) = .returned (.string b) := by rw [h]
theorem alloc_at (w : World) (o : Obj) : (w.alloc o).heap[w.heap.size]? = some o := by unfold World.alloc; simp
end Go.Proofs.YtoddpmdjjgnpgaaGreatDoor
namespace Go.Proofs.YtoddpmdjjgnpgaaGreatDoor
open Go.RowKit
set_option linter.unusedVariables false
/-- a text of one byte -/
def oneC (x : Int) : ByteArray := ⟨#[UInt8.ofNat x.toNat]⟩
theorem convC (w : World) (x : Int) :
    (convert 22 9 (.slice (some ⟨w.heap.size, 0, none⟩) 1 1)).run Tryz.prog (w.alloc (.cells #[.int .u8 x] 5)) = .ok (.string (oneC x)) (w.alloc (.cells #[.int .u8 x] 5)) :=
  run_convert_bytes_arg (P := Tryz.prog) (w.alloc (.cells #[.int .u8 x] 5)) 22 5 Tryz.underlying22 Tryz.underlying5 w.heap.size 0 1 1 [x] rfl (fun i hi => by
    obtain rfl : i = 0 := by omega
    simp) 9 Tryz.underlying9
/-- the letter of a number -/
def letterN (x : Nat) : ByteArray := oneC (97 + (x : Int))
theorem letterN_size (x : Nat) : (letterN x).size = 1 := rfl
theorem letterOf_any (x : Nat) (w : World) (hx : x < 26) : Calls Tryz.prog 57 #[.int .i64 (x : Nat)] w fun e w' => e = .returned (.string (letterN x)) ∧ Below w.heap.size w w' := by
  have kc := convC
  have hu : IntKind.u8.wrap (97 + (x : Int)) = 97 + (x : Int) := by simp [IntKind.wrap, IntKind.signed, IntKind.bits]; omega
  have HL : Hid (oneC (97 + (x : Int)) = letterN x) := Lib.hid rfl
  go_enter Tryz.func57, Tryz.ntmps57
  go_wp2_with fail
  go_ret
  exact ⟨rfl, (Below.refl _ _).alloc (Nat.le_refl _) _⟩
end Go.Proofs.YtoddpmdjjgnpgaaGreatDoor
namespace Go.Proofs.YtoddpmdjjgnpgaaGreatDoor
open Go.RowKit
set_option linter.unusedVariables false
/-- WordOk as a function of plain data -/
def wordOkB (k : Int) (s : ByteArray) : Bool := inB k 1 4 && (decide (s.size ≤ 16) && allB (letB k) s)
theorem letB_low {k : Int} {c : UInt8} (h : (c.toNat : Int) < 97) : letB k c = false := by
  simp [letB, inB]; omega
theorem letB_high {k : Int} {c : UInt8} (h : 97 ≤ (c.toNat : Int)) (h2 : k ≤ (c.toNat : Int) - 97) : letB k c = false := by
  simp [letB, inB]; omega
theorem letB_true {k : Int} {c : UInt8} (h : letB k c = true) : 97 ≤ (c.toNat : Int) ∧ (c.toNat : Int) - 97 < k := by
  simp [letB, inB] at h; omega
theorem wordOk_notk {k : Int} {s : ByteArray} (h : inB k 1 4 = false) : wordOkB k s = false := by simp [wordOkB, h]
theorem wordOk_long {k : Int} {s : ByteArray} (h : 16 < s.size) : wordOkB k s = false := by
  simp [wordOkB, show ¬ s.size ≤ 16 by omega]
theorem wordOk_all {k : Int} {s : ByteArray} (h : inB k 1 4 = true) (h2 : s.size ≤ 16) : wordOkB k s = allB (letB k) s := by simp [wordOkB, h, h2]
set_option maxHeartbeats 400000 in
theorem specWordOk_any (k : Int) (s : ByteArray) (w : World) (hs : s.size ≤ maxLen) :
    Calls Tryz.prog 65 #[.int .i64 k, .string s] w fun e w' => e = .returned (.bool (wordOkB k s)) ∧ w = w' := by
  unfold maxLen at hs
  cases hk : inB k 1 4
  · have F := Lib.hid (wordOk_notk (s := s) hk)
    go_enter Tryz.func65, Tryz.ntmps65
    go_wp2_with (go_at_call 106; refine (l01In_any _ _ _ _).mono ?_; rintro e w' ⟨rfl, rfl⟩)
    go_ret
    exact ⟨ret_bool F.out.symm, rfl⟩
  by_cases hl : 16 < s.size
  · have F := Lib.hid (wordOk_long (k := k) hl)
    go_enter Tryz.func65, Tryz.ntmps65
    go_wp2_with (go_at_call 106; refine (l01In_any _ _ _ _).mono ?_; rintro e w' ⟨rfl, rfl⟩)
    go_ret
    exact ⟨ret_bool F.out.symm, rfl⟩
  have hl' : s.size ≤ 16 := by omega
  have G := Lib.hid (wordOk_all (s := s) hk hl')
  have ⟨hk1, hk2⟩ := inB_bounds hk
  go_enter Tryz.func65, Tryz.ntmps65
  go_wp2_with (go_at_call 106; refine (l01In_any _ _ _ _).mono ?_; rintro e w' ⟨rfl, rfl⟩)
  go_loop [5] (fun i => ∃ j : Nat, j ≤ s.size ∧ i = .int .i64 j ∧ allTo (letB k) s j = true) (fun i => s.size - (intOf i).toNat)
  case atStart => exact ⟨0, Nat.zero_le _, rfl, allTo_zero _ _⟩
  case round =>
    obtain ⟨j, hj, rfl, hall⟩ := hrel
    have H := Lib.hid hall
    clear hall
    by_cases hlt : j < s.size
    · have hb := byte_lt s[j]
      by_cases h1 : (s[j].toNat : Int) < 97
      · have F := Lib.hid (allB_at s (letB k) j hlt (letB_low h1))
        go_wp2
        go_ret
        exact ⟨ret_bool (by rw [G.out, F.out]), rfl⟩
      · by_cases h2 : k ≤ (s[j].toNat : Int) - 97
        · have F := Lib.hid (allB_at s (letB k) j hlt (letB_high (by omega) h2))
          go_wp2
          go_ret
          exact ⟨ret_bool (by rw [G.out, F.out]), rfl⟩
        · have F := Lib.hid (allTo_succ s (letB k) j hlt H.out (by simp [letB, inB]; omega))
          go_wp2
          go_round
          case rel => exact ⟨j + 1, by omega, by go_num, F.out⟩
          case measure => simp [intOf]; omega
    · have F := Lib.hid (allTo_full s (letB k) j hlt H.out)
      go_wp2
      go_ret
      exact ⟨ret_bool (by rw [G.out, F.out]), rfl⟩
end Go.Proofs.YtoddpmdjjgnpgaaGreatDoor
namespace Go.Proofs.YtoddpmdjjgnpgaaGreatDoor
open Go.RowKit
set_option linter.unusedVariables false
theorem Tryz.infoStr : (Tryz.prog.info? 9).map (fun i => (i.zero, i.size, i.bytes)) = some (some (.string ⟨#[]⟩), 1, 16) := by kernel_rfl
def strVals (l : List ByteArray) : List Value := l.map Value.string
theorem owns_strs {w : World} {base : Nat} {T : TypeId} {size : Nat} {a : Option Addr} {n m cap : Nat} {l : List ByteArray} (h : w.ownsRow base T size (.slice a m cap) n (strVals l)) : StrsIn w a l := owns_cells h
theorem owns_capS {w : World} {base : Nat} {T : TypeId} {size : Nat} {a : Option Addr} {n m cap : Nat} {xs : List Value} (h : w.ownsRow base T size (.slice a n cap) m xs) : n ≤ cap ∧ cap ≤ maxLen := by
  rcases h.2 with ⟨hv, h0⟩ | ⟨g, cap', cur, hv, hb, hg, hn, hc, r⟩
  · simp only [Value.slice.injEq] at hv
    obtain ⟨_, rfl, rfl⟩ := hv
    exact ⟨Nat.le_refl _, Nat.zero_le _⟩
  · simp only [Value.slice.injEq] at hv
    obtain ⟨_, rfl, rfl⟩ := hv
    exact ⟨hn, hc⟩
/-- a full stop for the empty word -/
def dotB (s : ByteArray) : ByteArray := if s.toList.isEmpty = true then ⟨#[46]⟩ else s
theorem dotB_size (s : ByteArray) : (dotB s).size ≤ s.size + 1 := by
  unfold dotB
  split
  · show 1 ≤ _; omega
  · omega
set_option maxHeartbeats 400000 in
theorem l03Side_any (s : ByteArray) (w : World) :
    Calls Tryz.prog 177 #[.string s] w fun e w' => e = .returned (.string (dotB s)) ∧ w = w' := by
  cases h : s.toList.isEmpty
  · have F : Hid (dotB s = s) := Lib.hid (by simp [dotB, h])
    go_enter Tryz.func177, Tryz.ntmps177
    go_wp2_with fail
    go_ret
    exact ⟨ret_str F.out.symm, rfl⟩
  · have F : Hid (dotB s = ⟨#[46]⟩) := Lib.hid (by simp [dotB, h])
    go_enter Tryz.func177, Tryz.ntmps177
    go_wp2_with fail
    go_ret
    exact ⟨ret_str F.out.symm, rfl⟩
end Go.Proofs.YtoddpmdjjgnpgaaGreatDoor
namespace Go.Proofs.YtoddpmdjjgnpgaaGreatDoor
open Go.RowKit
set_option linter.unusedVariables false
theorem grown_alloc {w w1 : World} {r : Option Nat} (h : w.grownBy w1 r) (o : Obj) : w.grownBy (w1.alloc o) r := by
  have e := Below.heap_alloc w1 o
  exact ⟨h.os, h.tape, h.output, Nat.le_trans h.size (by simp), fun k hk hne => (e k (Nat.lt_of_lt_of_le hk h.size)).trans (h.block k hk hne)⟩
theorem CurOk.alloc {w : World} {B : Nat} {a : Option Addr} {l : List UInt8} {cap : Nat} (h : CurOk w B a l cap) (o : Obj) : CurOk (w.alloc o) B a l cap := h.later ((Below.refl _ _).alloc (Nat.le_refl _) _)
theorem CurOk.lt {w : World} {B : Nat} {a : Option Addr} {l : List UInt8} {cap : Nat} (h : CurOk w B a l cap) : B < w.heap.size := h.at_.lt
set_option maxHeartbeats 1000000 in
theorem l01Below_any (B n : Nat) (a : Option Addr) (l : List UInt8) (cap : Nat) (w : World) (h : CurOk w B a l cap) (hn : 1 ≤ n) (hn2 : n ≤ 256) :
    Calls Tryz.prog 85 #[.pointer (some ⟨B, 0, none⟩), .int .i64 (n : Nat)] w fun e w' => ∃ x : Nat, x < n ∧ e = .returned (.int .i64 ((x : Nat) : Int)) ∧ CurOk w' B a l cap ∧ w.grownBy w' (some B) := by
  have HB := Lib.hid (byte_cur h)
  clear h
  have h0 : ¬ (n : Int) ≤ 0 := by omega
  have h2 : (n : Int) ≤ 256 := by omega
  have hnz : ((n : Int) == 0) = false := by rw [beq_eq_false_iff_ne]; omega
  have hnz2 : ¬ (n : Int) = 0 := by omega
  go_enter Tryz.func85, Tryz.ntmps85
  go_wp2_with fail
  refine HB.out.mono ?_
  rintro e w2 ⟨x, hx, rfl, hc2, hg2⟩
  have HC := Lib.hid hc2
  have HG := Lib.hid hg2
  clear hc2 hg2 HB
  go_wp2_with fail
  go_ret
  exact ⟨x % n, Nat.mod_lt _ (by omega), ret_int (by first | rfl | simp), HC.out, HG.out⟩
set_option maxHeartbeats 400000 in
theorem l01Once_any (B n : Nat) (a : Option Addr) (l : List UInt8) (cap : Nat) (w : World) (h : CurOk w B a l cap) (hn : 1 ≤ n) (hn2 : n ≤ 256) :
    Calls Tryz.prog 84 #[.pointer (some ⟨B, 0, none⟩), .int .i64 (n : Nat)] w fun e w' => ∃ b : Bool, e = .returned (.bool b) ∧ CurOk w' B a l cap ∧ w.grownBy w' (some B) := by
  have HB := Lib.hid (l01Below_any B n a l cap w h hn hn2)
  clear h
  go_enter Tryz.func84, Tryz.ntmps84
  go_wp2_with fail
  refine HB.out.mono ?_
  rintro e w2 ⟨x, hx, rfl, hc2, hg2⟩
  have HC := Lib.hid hc2
  have HG := Lib.hid hg2
  clear hc2 hg2 HB
  go_wp2_with fail
  go_ret
  exact ⟨_, rfl, HC.out, HG.out⟩
theorem StrsIn.grownB {w w' : World} {B : Nat} {a : Option Addr} {l : List ByteArray} (h : StrsIn w a l) (hg : w.grownBy w' (some B)) (hne : ∀ x, a = some x → x.block ≠ B) : StrsIn w' a l := by
  rcases h with h | ⟨b, off, ha, hc⟩
  · exact .inl h
  · refine .inr ⟨b, off, ha, fun i hi => ?_⟩
    rw [World.cell?_of_block (w := w) (hg.block b (World.block_lt_of_cell? w _ (hc i hi)) (fun e => hne _ ha (Option.some.inj e)))]
    exact hc i hi
set_option maxHeartbeats 1000000 in
theorem l01Str_any (B : Nat) (a : Option Addr) (l : List UInt8) (cap : Nat) (ls : List ByteArray) (a2 : Option Addr) (cap2 : Nat) (w : World) (h : CurOk w B a l cap) (hl : StrsIn w a2 ls) (hne : ∀ x, a2 = some x → x.block ≠ B) (h1 : 1 ≤ ls.length) (h2 : ls.length ≤ 256) :
    Calls Tryz.prog 87 #[.pointer (some ⟨B, 0, none⟩), .slice a2 ls.length cap2] w fun e w' => ∃ i : Nat, i < ls.length ∧ e = .returned (.string (nthS ls i)) ∧ CurOk w' B a l cap ∧ w.grownBy w' (some B) := by
  have HB := Lib.hid (l01Below_any B ls.length a l cap w h h1 h2)
  have HL := Lib.hid hl
  have HN := Lib.hid hne
  clear h hl hne
  go_enter Tryz.func87, Tryz.ntmps87
  go_wp2_with fail
  refine HB.out.mono ?_
  rintro e w2 ⟨x, hx, rfl, hc2, hg2⟩
  obtain ⟨b, off, rfl, hb, hcell⟩ := (HL.out.grownB hg2 HN.out).cell hx
  have c1 := hcell x hx
  have HC := Lib.hid hc2
  have HG := Lib.hid hg2
  clear hc2 hg2 HB hcell
  go_wp2_with fail
  go_ret
  exact ⟨x, hx, rfl, HC.out, HG.out⟩
theorem StrsIn.lit (w : World) (ls : List ByteArray) : StrsIn (w.alloc (.cells (strVals ls).toArray 9)) (some ⟨w.heap.size, 0, none⟩) ls := by
  refine .inr ⟨_, _, rfl, fun i hi => ?_⟩
  rw [Nat.zero_add, World.cell?_alloc_new]
  have h2 : i < (strVals ls).length := by simpa [strVals] using hi
  show (strVals ls).toArray[i]? = some _
  rw [List.getElem?_toArray, List.getElem?_eq_getElem h2]
  rfl
/-- a literal row of strings is drawn from -/
theorem strLit_any (B : Nat) (a : Option Addr) (l : List UInt8) (cap : Nat) (ls : List ByteArray) (w : World) (h : CurOk w B a l cap) (h1 : 1 ≤ ls.length) (h2 : ls.length ≤ 256) :
    Calls Tryz.prog 87 #[.pointer (some ⟨B, 0, none⟩), .slice (some ⟨w.heap.size, 0, none⟩) ls.length ls.length] (w.alloc (.cells (strVals ls).toArray 9)) fun e w' => ∃ i : Nat, i < ls.length ∧ e = .returned (.string (nthS ls i)) ∧ CurOk w' B a l cap ∧ w.grownBy w' (some B) :=
  (l01Str_any B a l cap ls (some ⟨w.heap.size, 0, none⟩) ls.length _ (h.alloc _) (StrsIn.lit w ls) (fun x hx => by
    obtain rfl := Option.some.inj hx
    have := h.lt
    show w.heap.size ≠ B; omega) h1 h2).mono fun _ _ ⟨i, hi, he, hc, hg⟩ => ⟨i, hi, he, hc, grown_tr (grown_alloc ⟨rfl, rfl, rfl, Nat.le_refl _, fun _ _ _ => rfl⟩ _) hg⟩
theorem allB_app (p : UInt8 → Bool) (u v : ByteArray) : allB p (u ++ v) = (allB p u && allB p v) := by simp [allB]
set_option maxRecDepth 20000 in
set_option maxHeartbeats 2000000 in
theorem l02Draw_any (B k most : Nat) (a : Option Addr) (l : List UInt8) (cap : Nat) (w : World) (h : CurOk w B a l cap) (hk1 : 1 ≤ k) (hk : k ≤ 4) (hm : most ≤ 16) :
    Calls Tryz.prog 43 #[.pointer (some ⟨B, 0, none⟩), .int .i64 (k : Nat), .int .i64 (most : Nat)] w fun e w' => ∃ s : ByteArray, (allB (letB k) s = true ∧ s.size ≤ most) ∧ e = .returned (.string s) ∧ CurOk w' B a l cap ∧ w.grownBy w' (some B) := by
  have kc := convC
  have HN : Hid (Calls Tryz.prog 85 #[.pointer (some ⟨B, 0, none⟩), .int .i64 ((most : Int) + 1)] w fun e w' => ∃ x : Nat, x < most + 1 ∧ e = .returned (.int .i64 ((x : Nat) : Int)) ∧ CurOk w' B a l cap ∧ w.grownBy w' (some B)) := Lib.hid (l01Below_any B (most + 1) a l cap w h (by omega) (by omega))
  clear h
  go_enter Tryz.func43, Tryz.ntmps43
  go_wp2_with fail
  refine HN.out.mono ?_
  rintro e w3 ⟨x, hx, rfl, hc3, hg3⟩
  have HC3 := Lib.hid hc3
  have HG3 := Lib.hid hg3
  clear hc3 hg3 HN
  go_wp2_with fail
  go_loopw [7, 8] (fun u v wr => ∃ (j : Nat) (s : ByteArray), v = .int .i64 ((j : Nat) : Int) ∧ u = .string s ∧ Hid (allB (letB k) s = true) ∧ s.size + j ≤ most ∧ CurOk wr B a l cap ∧ w.grownBy wr (some B)) (fun _ v _ => (intOf v).toNat)
  case atStart => exact ⟨x, ⟨#[]⟩, rfl, rfl, Lib.hid rfl, by show 0 + x ≤ most; omega, HC3.out, HG3.out⟩
  case round =>
    clear HC3 HG3
    obtain ⟨j, s, rfl, rfl, hs, hsz, hc, hg⟩ := hrel
    have HC := Lib.hid hc
    have HG := Lib.hid hg
    clear hc hg
    by_cases hj : 0 < j
    · have HS := Lib.hid (l01Below_any B k a l cap wr HC.out hk1 (by omega))
      have hji : (0 : Int) < (j : Int) := by omega
      go_wp2_with fail
      refine HS.out.mono ?_
      rintro e w5 ⟨i, hi, rfl, hc5, hg5⟩
      have hu : IntKind.u8.wrap (97 + (i : Int)) = 97 + (i : Int) := by simp [IntKind.wrap, IntKind.signed, IntKind.bits]; omega
      have HC5 := Lib.hid (hc5.alloc (.cells #[.int .u8 (97 + (i : Int))] 5))
      have HG5 := Lib.hid (grown_alloc (grown_tr HG.out hg5) (.cells #[.int .u8 (97 + (i : Int))] 5))
      have hlb : allB (letB k) (letterN i) = true := by
        unfold allB
        have : (letterN i).data.toList = [UInt8.ofNat (97 + i)] := by
          show [UInt8.ofNat ((97 + (i : Int)).toNat)] = _
          rw [show (97 + (i : Int)).toNat = 97 + i by omega]
        rw [this]
        show ([UInt8.ofNat (97 + i)].all (letB k)) = true
        have hc : (UInt8.ofNat (97 + i)).toNat = 97 + i := by rw [UInt8.toNat_ofNat']; omega
        simp only [List.all_cons, List.all_nil, Bool.and_true, letB, inB, hc]
        simp; omega
      have HA : Hid (allB (letB k) (s ++ oneC (97 + (i : Int))) = true) := Lib.hid (by
        rw [allB_app, hs.out]
        exact hlb)
      have hsum : ¬ 9223372036854775807 < s.size + (oneC (97 + (i : Int))).size := by
        show ¬ 9223372036854775807 < s.size + 1; omega
      have hss : (s ++ oneC (97 + (i : Int))).size + (j - 1) ≤ most := by
        rw [ByteArray.size_append]
        show s.size + 1 + (j - 1) ≤ most; omega
      have HSS := Lib.hid hss
      clear hc5 hg5 HS hss hlb
      go_wp2_with fail
      go_roundw
      case rel => exact ⟨j - 1, _, by congr 1; omega, rfl, HA, HSS.out, HC5.out, HG5.out⟩
      case measure => simp [intOf]; omega
    · have hji : ¬ (0 : Int) < (j : Int) := by omega
      go_wp2_with fail
      go_ret
      exact ⟨s, ⟨hs.out, by omega⟩, rfl, HC.out, HG.out⟩
end Go.Proofs.YtoddpmdjjgnpgaaGreatDoor
namespace Go.Proofs.YtoddpmdjjgnpgaaGreatDoor
open Go.RowKit
set_option linter.unusedVariables false
/-- a rule: its two sides -/
abbrev RulD := ByteArray × ByteArray
/-- the cells of rules -/
def ruleCells : List RulD → List Value
  | [] => []
  | p :: l => .string p.1 :: .string p.2 :: ruleCells l
theorem ruleCells_len : ∀ l : List RulD, (ruleCells l).length = l.length * 2
  | [] => rfl
  | p :: l => by simp only [ruleCells, List.length_cons, ruleCells_len l]; omega
theorem ruleCells_app : ∀ l m : List RulD, ruleCells (l ++ m) = ruleCells l ++ ruleCells m
  | [], m => rfl
  | p :: l, m => by simp only [List.cons_append, ruleCells, ruleCells_app l m]
/-- the rule at a place -/
def nthR (l : List RulD) (j : Nat) : RulD := l.getD j (⟨#[]⟩, ⟨#[]⟩)
theorem nthR_lt {l : List RulD} {j : Nat} (h : j < l.length) : nthR l j = l[j] := by simp [nthR, List.getD_eq_getElem?_getD, h]
theorem nthR_mem {l : List RulD} {j : Nat} (h : j < l.length) : nthR l j ∈ l := by rw [nthR_lt h]; exact List.getElem_mem h
theorem mem_nthR {l : List RulD} {r : RulD} (h : r ∈ l) : ∃ i, i < l.length ∧ nthR l i = r := by
  obtain ⟨i, hi, he⟩ := List.getElem_of_mem h
  exact ⟨i, hi, by rw [nthR_lt hi, he]⟩
theorem ruleCells_at : ∀ (l : List RulD) (j : Nat), j < l.length → (ruleCells l)[j * 2]? = some (.string (nthR l j).1) ∧ (ruleCells l)[j * 2 + 1]? = some (.string (nthR l j).2)
  | [], j, h => by simp at h
  | p :: l, 0, _ => by simp [ruleCells, nthR]
  | p :: l, j + 1, h => by
    have := ruleCells_at l j (by simpa using h)
    rw [show (j + 1) * 2 = j * 2 + 2 by omega, show j * 2 + 2 + 1 = (j * 2 + 1) + 2 by omega]
    have e1 : ∀ n, (ruleCells (p :: l))[n + 2]? = (ruleCells l)[n]? := fun n => rfl
    have e2 : nthR (p :: l) (j + 1) = nthR l j := rfl
    rw [e1, e1, e2]
    exact this
/-- a slice of rules -/
def RulesIn (w : World) (a : Option Addr) (l : List RulD) : Prop := CellsIn w a (ruleCells l)
theorem RulesIn.later {w w' : World} {a : Option Addr} {l : List RulD} (h : RulesIn w a l) (hb : Below w.heap.size w w') : RulesIn w' a l := CellsIn.later h hb
theorem RulesIn.cell {w : World} {a : Option Addr} {l : List RulD} (h : RulesIn w a l) {i : Nat} (hi : i < l.length) :
    ∃ b off, a = some ⟨b, off, none⟩ ∧ b < w.heap.size ∧ ∀ j, j < l.length → w.cell? ⟨b, off + j * 2, none⟩ = some (.string (nthR l j).1) ∧ w.cell? ⟨b, off + j * 2 + 1, none⟩ = some (.string (nthR l j).2) := by
  rcases h with h | ⟨b, off, ha, hc⟩
  · have := ruleCells_len l
    rw [h, List.length_nil] at this
    omega
  · have key : ∀ j, j < l.length → w.cell? ⟨b, off + j * 2, none⟩ = some (.string (nthR l j).1) ∧ w.cell? ⟨b, off + j * 2 + 1, none⟩ = some (.string (nthR l j).2) := fun j hj => by
      obtain ⟨h1, h2⟩ := ruleCells_at l j hj
      have hlen := ruleCells_len l
      have c1 := hc (j * 2) (by omega)
      have c2 := hc (j * 2 + 1) (by omega)
      rw [List.getElem?_eq_getElem (by omega)] at h1 h2
      rw [Option.some.inj h1] at c1
      rw [Option.some.inj h2] at c2
      exact ⟨c1, by rw [← Nat.add_assoc] at c2; exact c2⟩
    exact ⟨b, off, ha, World.block_lt_of_cell? w _ (key i hi).1, key⟩
theorem owns_rules {w : World} {base : Nat} {T : TypeId} {size : Nat} {a : Option Addr} {n m cap : Nat} {l : List RulD} (h : w.ownsRow base T size (.slice a m cap) n (ruleCells l)) : RulesIn w a l := owns_cells h
end Go.Proofs.YtoddpmdjjgnpgaaGreatDoor
namespace Go.Proofs.YtoddpmdjjgnpgaaGreatDoor
set_option linter.unusedVariables false
section
variable {α : Type} [DecidableEq α]
/-- two strictly sorted lists with the same members are one -/
theorem sorted_ext {lt : α → α → Prop} (hirr : ∀ a, ¬ lt a a) (htr : ∀ a b c, lt a b → lt b c → lt a c) : ∀ {x y : List α}, x.Pairwise lt → y.Pairwise lt → (∀ u, u ∈ x ↔ u ∈ y) → x = y
  | [], y, _, _, h => by
    cases y with
    | nil => rfl
    | cons b y => exact absurd ((h b).2 List.mem_cons_self) (by simp)
  | a :: x, [], _, _, h => absurd ((h a).1 List.mem_cons_self) (by simp)
  | a :: x, b :: y, hx, hy, h => by
    rw [List.pairwise_cons] at hx hy
    have hab : a = b := by
      rcases List.mem_cons.1 ((h a).1 List.mem_cons_self) with e | e
      · exact e
      · rcases List.mem_cons.1 ((h b).2 List.mem_cons_self) with e2 | e2
        · exact e2.symm
        · exact absurd (htr _ _ _ (hx.1 b e2) (hy.1 a e)) (hirr a)
    subst hab
    have hxy : x = y := sorted_ext hirr htr hx.2 hy.2 (fun u => by
      have hu := h u
      rw [List.mem_cons, List.mem_cons] at hu
      by_cases e : u = a
      · subst e
        exact ⟨fun m => absurd (hx.1 u m) (hirr u), fun m => absurd (hy.1 u m) (hirr u)⟩
      · constructor
        · intro m; exact (hu.1 (.inr m)).resolve_left e
        · intro m; exact (hu.2 (.inr m)).resolve_left e)
    rw [hxy]
end
theorem sorted_nodup {α : Type} {lt : α → α → Prop} (hirr : ∀ a, ¬ lt a a) : ∀ {x : List α}, x.Pairwise lt → x.Nodup
  | [], _ => List.nodup_nil
  | a :: x, h => by
    rw [List.pairwise_cons] at h
    rw [List.nodup_cons]
    exact ⟨fun m => hirr a (h.1 a m), sorted_nodup hirr h.2⟩
end Go.Proofs.YtoddpmdjjgnpgaaGreatDoor
namespace Go.Proofs.YtoddpmdjjgnpgaaGreatDoor
open Go.RowKit Go.Sort
set_option linter.unusedVariables false
/-- the order of words, at their bytes -/
def ltW (a b : List UInt8) : Bool := decide (a.length < b.length ∨ (a.length = b.length ∧ a < b))
theorem ltW_irrefl (a : List UInt8) : ltW a a = false := by
  have : ¬ a < a := List.lt_irrefl a
  simp [ltW, this]
theorem ltW_trans {a b c : List UInt8} (h : ltW a b = true) (h' : ltW b c = true) : ltW a c = true := by
  simp only [ltW, decide_eq_true_eq] at *
  rcases h with h | ⟨h, h2⟩ <;> rcases h' with h' | ⟨h', h3⟩
  · left; omega
  · left; omega
  · left; omega
  · right; exact ⟨by omega, List.lt_trans h2 h3⟩
theorem ltW_total {a b : List UInt8} (h : ltW a b = false) (h' : ltW b a = false) : a = b := by
  simp only [ltW, decide_eq_false_iff_not, not_or, not_and] at *
  have h1 : a.length = b.length := by omega
  have h2 : ¬ a < b := h.2 h1
  have h3 : ¬ b < a := h'.2 h1.symm
  exact List.le_antisymm (List.not_lt.1 h3) (List.not_lt.1 h2)
/-- strictly sorted -/
def SortedW (l : List (List UInt8)) : Prop := l.Pairwise (fun a b => ltW a b = true)
theorem SortedW.ext {x y : List (List UInt8)} (hx : SortedW x) (hy : SortedW y) (h : ∀ u, u ∈ x ↔ u ∈ y) : x = y :=
  sorted_ext (lt := fun a b => ltW a b = true) (fun a h => by rw [ltW_irrefl] at h; cases h) (fun a b c => ltW_trans) hx hy h
theorem SortedW.nodup {x : List (List UInt8)} (hx : SortedW x) : x.Nodup := sorted_nodup (lt := fun a b => ltW a b = true) (fun a h => by rw [ltW_irrefl] at h; cases h) hx
/-- weakly sorted: a later one is not less -/
def WeakW (l : List (List UInt8)) : Prop := l.Pairwise (fun a b => ltW b a = false)
theorem WeakW.at {zs : List (List UInt8)} (h : WeakW zs) {i j : Nat} (hij : i ≤ j) (hj : j < zs.length) : ltW zs[j] (zs[i]'(by omega)) = false := by
  rcases Nat.lt_or_ge i j with hlt | hge
  · exact (List.pairwise_iff_getElem.1 h) i j (by omega) hj hlt
  · have : i = j := by omega
    subst this; exact ltW_irrefl _
end Go.Proofs.YtoddpmdjjgnpgaaGreatDoor
namespace Go.Proofs.YtoddpmdjjgnpgaaGreatDoor
set_option linter.unusedVariables false
section
variable {α : Type} (F : List α → Prop) (N : List α → List α → Prop)
variable {F N}
end
end Go.Proofs.YtoddpmdjjgnpgaaGreatDoor
namespace Go.Proofs.YtoddpmdjjgnpgaaGreatDoor
open Go.RowKit
set_option linter.unusedVariables false
/-- an answer that tells whether P -/
def RetP (P : Prop) (w : World) (e : Ending) (w' : World) : Prop := ∃ b : Bool, (b = true ↔ P) ∧ e = .returned (.bool b) ∧ Below w.heap.size w w'
theorem RetP.yes {P : Prop} {w w' : World} (h : P) (hb : Below w.heap.size w w') : RetP P w (.returned (.bool true)) w' := ⟨true, ⟨fun _ => h, fun _ => rfl⟩, rfl, hb⟩
theorem RetP.no {P : Prop} {w w' : World} (h : ¬ P) (hb : Below w.heap.size w w') : RetP P w (.returned (.bool false)) w' := ⟨false, ⟨fun h => (by cases h), fun h2 => absurd h2 h⟩, rfl, hb⟩
theorem bytes_eq {a b : ByteArray} : (a.toList == b.toList) = true ↔ a = b := by
  rw [beq_iff_eq, ByteArray.toList_eq, ByteArray.toList_eq]
  constructor
  · intro h
    obtain ⟨⟨x⟩⟩ := a
    obtain ⟨⟨y⟩⟩ := b
    have : x = y := h
    rw [this]
  · intro h; rw [h]
end Go.Proofs.YtoddpmdjjgnpgaaGreatDoor
namespace Go.Proofs.YtoddpmdjjgnpgaaGreatDoor
open Go.RowKit
set_option linter.unusedVariables false
end Go.Proofs.YtoddpmdjjgnpgaaGreatDoor
namespace Go.Proofs.YtoddpmdjjgnpgaaGreatDoor
open Go.ChangeShapes Go.WideShapes Go.ChangeAt Go.RowKit Go.Joins Go.Deep
set_option linter.unusedVariables false
/-- all arguments read as they did, if below the old heap's size nothing has turned -/
theorem trodAll_below {H : Type} {enc : TypeId × Value → H} {P : Program} (hl : laidOutB P = true) {W W' : World} (hb : Below W.heap.size W W') :
    ∀ (ts : List TypeId) (vs : List Value) (ds : List (DataW H)) (ps : List MemPlace), (∀ t ∈ ts, P.readableRec t = true ∧ t < P.types.size) → (∀ x ∈ ps, x.block < W.heap.size) →
      DataW.TrodAll enc P W 0 (fun _ => true) true ts vs ds ps → DataW.TrodAll enc P W' 0 (fun b => decide (b < W.heap.size)) true ts vs ds ps
  | [], vs, ds, ps, _, _, h => by
    cases vs <;> cases ds <;> simp_all [DataW.TrodAll]
  | t :: ts, vs, ds, ps, hr, hp, h => by
    cases vs with
    | nil => cases ds <;> simp [DataW.TrodAll] at h
    | cons v vs =>
      cases ds with
      | nil => simp [DataW.TrodAll] at h
      | cons d ds =>
        obtain ⟨p, p', h1, h2, rfl⟩ := h
        exact ⟨p, p', Below.trod hl (hr t (by simp)).1 (hr t (by simp)).2 h1 hb (fun x hx => hp x (by simp [hx])),
          trodAll_below hl hb ts vs ds p' (fun t' ht' => hr t' (by simp [ht'])) (fun x hx => hp x (by simp [hx])) h2, rfl⟩
/-- what a law's row asks behind the walk -/
theorem law_post {H : Type} {enc : TypeId × Value → H} {P : Program} {f : Func} {s : ChangeSpec} {W W' : World} {args : Array Value} {ds : List (DataW H)} {before : List MemPlace} {tb : TypeId}
    (hl : laidOutB P = true) (hr : ∀ t ∈ f.params.toList, P.readableRec t = true ∧ t < P.types.size) (hv : s.vars = [])
    (hW : DataW.Whole enc P f.params.toList s.vars false W args.toList ds [] before) (hft : f.resultTypes = #[tb]) (htb : P.underlying tb = some .bool)
    (hfn : s.fn H (ds ++ []) = { results := [.lit (.bool true)], args := ds }) (hb : Below W.heap.size W W') :
    s.post enc P f false true false false W args (.bool true) W' := by
  have hW' := hW
  obtain ⟨p, q, hA0, hV, hpq, hfz, hnd⟩ := hW'
  rw [hv] at hV
  obtain ⟨_, rfl⟩ := trodVars_none hV
  simp only [List.append_nil] at hpq
  subst hpq
  have hlt : ∀ x ∈ before, x.block < W.heap.size := fun x hx => hW.lt x hx
  refine ⟨ds, [], before, [], before, [], hW, ?_, ?_, ?_, ?_, fun h => by cases h⟩
  · rw [hfn, hft]
    exact trodAll_cons_mk (shut_bool htb _) trodAll_mk0
  · rw [hfn]
    exact trodAll_below hl hb _ _ _ _ hr hlt hA0
  · rw [hfn, hv]
    rfl
  · exact hb.frame _
end Go.Proofs.YtoddpmdjjgnpgaaGreatDoor
namespace Go.Proofs.YtoddpmdjjgnpgaaGreatDoor
open Go.RowKit Go.ChangeShapes Go.WideShapes Go.ChangeAt
set_option linter.unusedVariables false
end Go.Proofs.YtoddpmdjjgnpgaaGreatDoor
namespace Go.Proofs.YtoddpmdjjgnpgaaGreatDoor
open Go.RowKit
set_option linter.unusedVariables false
/-- the bytes of a word -/
def blW (s : ByteArray) : List UInt8 := s.data.toList
def blsW (l : List ByteArray) : List (List UInt8) := l.map blW
theorem blW_inj {a b : ByteArray} (h : blW a = blW b) : a = b := by
  obtain ⟨⟨x⟩⟩ := a
  obtain ⟨⟨y⟩⟩ := b
  have : x = y := h
  rw [this]
theorem blsW_mem {u : ByteArray} {l : List ByteArray} : blW u ∈ blsW l ↔ u ∈ l := by
  unfold blsW
  rw [List.mem_map]
  constructor
  · rintro ⟨x, hx, he⟩; rw [← blW_inj he]; exact hx
  · intro h; exact ⟨u, h, rfl⟩
/-- the order of words -/
def lessS (a b : ByteArray) : Bool := ltW (blW a) (blW b)
/-- strictly sorted -/
def SortedS (l : List ByteArray) : Prop := SortedW (blsW l)
theorem SortedS.ext {x y : List ByteArray} (hx : SortedS x) (hy : SortedS y) (h : ∀ u, u ∈ x ↔ u ∈ y) : x = y := by
  have key : ∀ {x y : List ByteArray}, (∀ u, u ∈ x ↔ u ∈ y) → ∀ u, u ∈ blsW x → u ∈ blsW y := fun h u hu => by
    obtain ⟨v, hv, rfl⟩ := List.mem_map.1 hu
    exact blsW_mem.2 ((h v).1 hv)
  have h1 := SortedW.ext hx hy (fun u => ⟨key h u, key (fun u => (h u).symm) u⟩)
  exact (List.map_inj_right (fun a b => blW_inj)).1 h1
theorem nodup_bls {x : List ByteArray} (h : (blsW x).Nodup) : x.Nodup := by
  unfold blsW at h
  unfold List.Nodup at *
  rw [List.pairwise_map] at h
  exact h.imp (fun h e => h (by rw [e]))
theorem SortedS.nodup {x : List ByteArray} (hx : SortedS x) : x.Nodup := nodup_bls (SortedW.nodup hx)
theorem SortedS.nil : SortedS [] := List.Pairwise.nil
theorem lessS_same {u v : ByteArray} (h : u.size = v.size) : lessS u v = Op.bytesLess u.toList v.toList := by
  have h1 : (blW u).length = (blW v).length := h
  unfold lessS ltW
  rw [bytesLess_eq, Lib.toList_data, Lib.toList_data]
  unfold blW at *
  simp [h1]
theorem lessS_other {u v : ByteArray} (h : ¬ u.size = v.size) : lessS u v = decide (u.size < v.size) := by
  have h1 : ¬ (blW u).length = (blW v).length := h
  have h2 : (blW u).length = u.size := rfl
  have h3 : (blW v).length = v.size := rfl
  unfold lessS ltW
  simp [h1]
  rw [h2, h3]
set_option maxHeartbeats 400000 in
theorem specIsLess_any (u v : ByteArray) (w : World) (hu : u.size ≤ maxLen) (hv : v.size ≤ maxLen) :
    Calls Tryz.prog 113 #[.string u, .string v] w fun e w' => e = .returned (.bool (lessS u v)) ∧ w = w' := by
  unfold maxLen at hu hv
  by_cases h : u.size = v.size
  · have F := Lib.hid (lessS_same h)
    have h1 : ((u.size : Int) == (v.size : Int)) = true := by simp [h]
    have h2 : ((u.size : Int) != (v.size : Int)) = false := by simp [h]
    clear h
    go_enter Tryz.func113, Tryz.ntmps113
    go_wp2_with fail
    go_ret
    exact ⟨ret_bool F.out.symm, rfl⟩
  · have F := Lib.hid (lessS_other h)
    have h1 : ((u.size : Int) == (v.size : Int)) = false := by rw [beq_eq_false_iff_ne]; omega
    have h2 : ((u.size : Int) != (v.size : Int)) = true := by rw [bne_iff_ne]; omega
    go_enter Tryz.func113, Tryz.ntmps113
    go_wp2_with fail
    go_ret
    exact ⟨ret_bool F.out.symm, rfl⟩
end Go.Proofs.YtoddpmdjjgnpgaaGreatDoor
namespace Go.Proofs.YtoddpmdjjgnpgaaGreatDoor
open Go.RowKit Go.Sort
set_option linter.unusedVariables false
/-- cmp.Compare at strings -/
def cmpS (a b : List UInt8) : Int := if Op.bytesLess a b = true then -1 else if (a == b) = true then 0 else 1
/-- cmp.Or at two integers -/
def orF (x y : Int) : Int := if (x == 0) = true then y else x
/-- compareWords -/
def cfW (a b : ByteArray) : Int := orF (Lib.compareInt (a.size : Int) (b.size : Int)) (cmpS a.toList b.toList)
set_option maxHeartbeats 400000 in
theorem isNaNS_any (a : ByteArray) (w : World) : Calls Tryz.prog 147 #[.string a] w fun e w' => e = .returned (.bool false) ∧ w = w' := by
  go_enter Tryz.func147, Tryz.ntmps147
  go_wp2_with fail
  go_ret
  exact ⟨rfl, rfl⟩
set_option maxHeartbeats 400000 in
theorem compareS_any (a b : ByteArray) (w : World) : Calls Tryz.prog 104 #[.string a, .string b] w fun e w' => e = .returned (.int .i64 (cmpS a.toList b.toList)) ∧ w = w' := by
  cases h1 : Op.bytesLess a.toList b.toList
  · cases h2 : (a.toList == b.toList)
    · have F : Hid (cmpS a.toList b.toList = 1) := Lib.hid (by unfold cmpS; rw [h1, h2]; rfl)
      go_enter Tryz.func104, Tryz.ntmps104
      go_wp2_with (go_at_call 147; refine (isNaNS_any _ _).mono ?_; rintro e w' ⟨rfl, rfl⟩)
      go_ret
      exact ⟨ret_int F.out.symm, rfl⟩
    · have F : Hid (cmpS a.toList b.toList = 0) := Lib.hid (by unfold cmpS; rw [h1, h2]; rfl)
      go_enter Tryz.func104, Tryz.ntmps104
      go_wp2_with (go_at_call 147; refine (isNaNS_any _ _).mono ?_; rintro e w' ⟨rfl, rfl⟩)
      go_ret
      exact ⟨ret_int F.out.symm, rfl⟩
  · have F : Hid (cmpS a.toList b.toList = -1) := Lib.hid (by unfold cmpS; rw [h1]; rfl)
    go_enter Tryz.func104, Tryz.ntmps104
    go_wp2_with (go_at_call 147; refine (isNaNS_any _ _).mono ?_; rintro e w' ⟨rfl, rfl⟩)
    go_ret
    exact ⟨ret_int F.out.symm, rfl⟩
set_option maxHeartbeats 400000 in
theorem orInt_any (x y : Int) (b cap : Nat) (w : World) (h0 : w.cell? ⟨b, 0, none⟩ = some (.int .i64 x)) (h1 : w.cell? ⟨b, 1, none⟩ = some (.int .i64 y)) :
    Calls Tryz.prog 102 #[.slice (some ⟨b, 0, none⟩) 2 cap] w fun e w' => e = .returned (.int .i64 (orF x y)) ∧ w = w' := by
  go_enter Tryz.func102, Tryz.ntmps102
  go_wp2_with fail
  go_loop [8] (fun i => ∃ j : Nat, j ≤ 2 ∧ i = .int .i64 (j : Nat) ∧ Hid (0 < j → x = 0) ∧ Hid (1 < j → y = 0)) (fun i => 2 - (intOf i).toNat)
  case atStart => exact ⟨0, Nat.zero_le _, rfl, Lib.hid (by omega), Lib.hid (by omega)⟩
  case round =>
    obtain ⟨j, hj, rfl, hx, hy⟩ := hrel
    rcases (show j = 0 ∨ j = 1 ∨ j = 2 by omega) with h | h | h
    · subst h
      cases hq : (x == 0)
      · have hn : (x != 0) = true := by rw [bne, hq]; rfl
        have F : Hid (orF x y = x) := Lib.hid (by unfold orF; rw [hq]; rfl)
        go_wp2_with fail
        go_ret
        exact ⟨ret_int F.out.symm, rfl⟩
      · have hn : (x != 0) = false := by rw [bne, hq]; rfl
        have hx2 : Hid (x = 0) := Lib.hid (by simpa using hq)
        go_wp2_with fail
        go_round
        case rel => exact ⟨1, by omega, by go_num, Lib.hid (fun _ => hx2.out), Lib.hid (by omega)⟩
        case measure => simp [intOf]
    · subst h
      have hx2 : Hid (orF x y = y) := Lib.hid (by unfold orF; rw [hx.out (by omega)]; rfl)
      cases hq : (y == 0)
      · have hn : (y != 0) = true := by rw [bne, hq]; rfl
        go_wp2_with fail
        go_ret
        exact ⟨ret_int hx2.out.symm, rfl⟩
      · have hn : (y != 0) = false := by rw [bne, hq]; rfl
        have hy2 : Hid (y = 0) := Lib.hid (by simpa using hq)
        go_wp2_with fail
        go_round
        case rel => exact ⟨2, by omega, by go_num, Lib.hid (fun _ => hx.out (by omega)), Lib.hid (fun _ => hy2.out)⟩
        case measure => simp [intOf]
    · subst h
      have F : Hid ((orF x y) = 0) := Lib.hid (by unfold orF; rw [hx.out (by omega), hy.out (by omega)]; rfl)
      go_wp2_with fail
      go_ret
      exact ⟨ret_int F.out.symm, rfl⟩
set_option maxHeartbeats 400000 in
theorem compareWords_any (a b : ByteArray) (w : World) : Calls Tryz.prog 58 #[.string a, .string b] w fun e w' => e = .returned (.int .i64 (cfW a b)) ∧ ∃ o, w' = w.alloc o := by
  have H1 := Lib.hid (fun W => Tryz.cmp_Compare_int (a.size : Int) (b.size : Int) W)
  have H2 := Lib.hid (fun W => compareS_any a b W)
  have F : Hid (cfW a b = orF (Lib.compareInt (a.size : Int) (b.size : Int)) (cmpS a.toList b.toList)) := Lib.hid rfl
  generalize Lib.compareInt (a.size : Int) (b.size : Int) = x at *
  generalize cmpS a.toList b.toList = y at *
  have H3 : Hid (∀ W : World, Calls Tryz.prog 102 #[.slice (some ⟨W.heap.size, 0, none⟩) 2 2] (W.alloc (.cells #[.int .i64 x, .int .i64 y] 3)) fun e w' => e = .returned (.int .i64 (orF x y)) ∧ W.alloc (.cells #[.int .i64 x, .int .i64 y] 3) = w') := Lib.hid (fun W => orInt_any x y _ _ _ (by simp [World.cell?_alloc_new]) (by simp [World.cell?_alloc_new]))
  go_enter Tryz.func58, Tryz.ntmps58
  go_wp2_with (first | (go_at_call 103; refine (H1.out _).mono ?_; rintro e w' ⟨rfl, rfl⟩) | (go_at_call 104; refine (H2.out _).mono ?_; rintro e w' ⟨rfl, rfl⟩) | (go_at_call 102; refine (H3.out _).mono ?_; rintro e w' ⟨rfl, rfl⟩))
  go_ret
  exact ⟨ret_int F.out.symm, _, rfl⟩
end Go.Proofs.YtoddpmdjjgnpgaaGreatDoor
namespace Go.Proofs.YtoddpmdjjgnpgaaGreatDoor
open Go.RowKit
set_option linter.unusedVariables false
set_option maxHeartbeats 400000 in
theorem implWordOk_any (k : Int) (s : ByteArray) (w : World) (hs : s.size ≤ maxLen) :
    Calls Tryz.prog 46 #[.int .i64 k, .string s] w fun e w' => e = .returned (.bool (wordOkB k s)) ∧ w = w' := by
  cases hk : inB k 1 4
  · have F := Lib.hid (wordOk_notk (s := s) hk)
    unfold maxLen at hs
    go_enter Tryz.func46, Tryz.ntmps46
    go_wp2_with (go_at_call 50; refine (within_any _ _ _ _).mono ?_; rintro e w' ⟨h2, rfl⟩; rw [hk] at h2; subst h2)
    go_ret
    exact ⟨ret_bool F.out.symm, rfl⟩
  have ⟨hk1, hk2⟩ := inB_bounds hk
  by_cases hl : 16 < s.size
  · have F := Lib.hid (wordOk_long (k := k) hl)
    unfold maxLen at hs
    go_enter Tryz.func46, Tryz.ntmps46
    go_wp2_with (go_at_call 50; refine (within_any _ _ _ _).mono ?_; rintro e w' ⟨h2, rfl⟩; rw [hk] at h2; subst h2)
    go_ret
    exact ⟨ret_bool F.out.symm, rfl⟩
  · have G := Lib.hid (wordOk_all (s := s) hk (by omega))
    have HS := Lib.hid hs
    unfold maxLen at hs
    go_enter Tryz.func46, Tryz.ntmps46
    go_wp2_with (first | (go_at_call 50; refine (within_any _ _ _ _).mono ?_; rintro e w' ⟨h2, rfl⟩; rw [hk] at h2; subst h2) | (go_at_call 96; refine (hasLetters_any _ _ _ HS.out (by omega) (by omega)).mono ?_; rintro e w' ⟨rfl, rfl⟩))
    go_ret
    exact ⟨ret_bool G.out.symm, rfl⟩
end Go.Proofs.YtoddpmdjjgnpgaaGreatDoor
