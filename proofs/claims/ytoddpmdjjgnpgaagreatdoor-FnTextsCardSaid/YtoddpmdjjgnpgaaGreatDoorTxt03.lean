/-
  Is a word in a list? (the reference's l04Has)
-/
import Derived.Test.YtoddpmdjjgnpgaaGreatDoorTxt01
import Derived.Test.YtoddpmdjjgnpgaaGreatDoorTxt02
import Derived.Laws.BytesArg
import Derived.Lib.SlicesCompact
import Derived.Sort.Statements
import Derived.Sort.Walk0
namespace Go.Proofs.YtoddpmdjjgnpgaaGreatDoor
open Go.RowKit
set_option linter.unusedVariables false
/-- a slice of strings -/
def StrsIn (w : World) (a : Option Addr) (l : List ByteArray) : Prop := CellsIn w a (l.map Value.string)
theorem StrsIn.later {w w' : World} {a : Option Addr} {l : List ByteArray} (h : StrsIn w a l) (hb : Below w.heap.size w w') : StrsIn w' a l := CellsIn.later h hb
/-- the string at a place -/
def nthS (l : List ByteArray) (i : Nat) : ByteArray := l.getD i ⟨#[]⟩
theorem nthS_lt {l : List ByteArray} {i : Nat} (h : i < l.length) : nthS l i = l[i] := by simp [nthS, List.getD_eq_getElem?_getD, h]
theorem StrsIn.cell {w : World} {a : Option Addr} {l : List ByteArray} (h : StrsIn w a l) {i : Nat} (hi : i < l.length) :
    ∃ b off, a = some ⟨b, off, none⟩ ∧ b < w.heap.size ∧ ∀ j, j < l.length → w.cell? ⟨b, off + j, none⟩ = some (.string (nthS l j)) := by
  rcases h with h | ⟨b, off, ha, hc⟩
  · simp at h; simp [h] at hi
  · have key : ∀ j, j < l.length → w.cell? ⟨b, off + j, none⟩ = some (.string (nthS l j)) := fun j hj => by
      have := hc j (by simpa using hj)
      rw [nthS_lt hj]
      simpa using this
    exact ⟨b, off, ha, World.block_lt_of_cell? w _ (key i hi), key⟩
/-- the first j strings, joined -/
def joinTo (l : List ByteArray) (sep : ByteArray) : Nat → ByteArray
  | 0 => ⟨#[]⟩
  | j + 1 => if j = 0 then nthS l 0 else joinTo l sep j ++ sep ++ nthS l j
def joinF (l : List ByteArray) (sep : ByteArray) : ByteArray := joinTo l sep l.length
theorem joinTo_one (l : List ByteArray) (sep : ByteArray) : joinTo l sep 1 = nthS l 0 := rfl
theorem joinTo_succ (l : List ByteArray) (sep : ByteArray) {j : Nat} (h : 0 < j) : joinTo l sep (j + 1) = joinTo l sep j ++ sep ++ nthS l j := by
  simp only [joinTo, if_neg (show ¬ j = 0 by omega)]
/-- the sizes of the first j -/
def sumTo (l : List ByteArray) : Nat → Nat
  | 0 => 0
  | j + 1 => sumTo l j + (nthS l j).size
theorem joinTo_size (l : List ByteArray) (sep : ByteArray) : ∀ j, (joinTo l sep (j + 1)).size = sumTo l (j + 1) + sep.size * j
  | 0 => by simp [joinTo, sumTo]
  | j + 1 => by
    rw [joinTo_succ l sep (by omega), ByteArray.size_append, ByteArray.size_append, joinTo_size l sep j, sumTo, Nat.mul_add, sumTo]
    simp only [sumTo]
    omega
theorem joinTo_mono (l : List ByteArray) (sep : ByteArray) {i j : Nat} (h : i ≤ j) : (joinTo l sep i).size ≤ (joinTo l sep j).size := by
  induction h with
  | refl => exact Nat.le_refl _
  | step h ih =>
    rename_i m
    refine Nat.le_trans ih ?_
    cases m with
    | zero => exact Nat.zero_le _
    | succ m => rw [joinTo_succ l sep (j := m + 1) (by omega), ByteArray.size_append, ByteArray.size_append]; omega
theorem sumTo_mono (l : List ByteArray) {i j : Nat} (h : i ≤ j) : sumTo l i ≤ sumTo l j := by
  induction h with
  | refl => exact Nat.le_refl _
  | step h ih => exact Nat.le_trans ih (by simp [sumTo])
theorem ret_str {a b : ByteArray} (h : a = b) : Ending.returned (.string a) = .returned (.string b) := by rw [h]
theorem cells_append (a b : ByteArray) : Lib.byteCells a.data.toList ++ Lib.strCells b = Lib.byteCells (a ++ b).data.toList := by
  rw [Lib.strCells_eq, ← Lib.byteCells_append]; simp
theorem alloc_at (w : World) (o : Obj) : (w.alloc o).heap[w.heap.size]? = some o := by unfold World.alloc; simp
set_option maxHeartbeats 1000000 in
theorem join_any (l : List ByteArray) (sep : ByteArray) (a : Option Addr) (cap : Nat) (w : World) (hl : StrsIn w a l) (hs0 : 0 < sep.size) (hs1 : sep.size ≤ 1000) (hlen : l.length ≤ 2 ^ 40) (hcap : l.length ≤ cap ∧ cap ≤ maxLen)
    (hsz : (joinF l sep).size ≤ 2 ^ 46) :
    Calls Tryz.prog 120 #[.slice a l.length cap, .string sep] w fun e w' => e = .returned (.string (joinF l sep)) ∧ Below w.heap.size w w' := by
  rcases Nat.lt_or_ge l.length 2 with h2 | h2
  · rcases Nat.lt_or_ge l.length 1 with h1 | h1
    · have h0 : l.length = 0 := by omega
      have F : Hid (joinF l sep = ⟨#[]⟩) := by unfold joinF; rw [h0]; exact Lib.hid rfl
      rw [h0]
      clear hl
      go_enter Tryz.func120, Tryz.ntmps120
      go_wp2_with fail
      go_ret
      exact ⟨ret_str F.out.symm, Below.refl _ _⟩
    · have h0 : l.length = 1 := by omega
      have F : Hid (joinF l sep = nthS l 0) := by unfold joinF; rw [h0]; exact Lib.hid rfl
      obtain ⟨b, off, rfl, hb, hc⟩ := hl.cell (i := 0) (by omega)
      have hc0 := hc 0 (by omega)
      rw [Nat.add_zero] at hc0
      clear hc hl
      rw [h0]
      go_enter Tryz.func120, Tryz.ntmps120
      go_wp2_with fail
      go_ret
      exact ⟨ret_str F.out.symm, Below.refl _ _⟩
  · obtain ⟨b, off, rfl, hb, hc⟩ := hl.cell (i := 0) (by omega)
    have HC := Lib.hid hc
    have hc0 := hc 0 (by omega)
    rw [Nat.add_zero] at hc0
    have HSZ := Lib.hid hsz
    obtain ⟨n, hn⟩ : ∃ n, l.length = n + 2 := ⟨l.length - 2, by omega⟩
    have HN := Lib.hid hn
    have hq : (sep.size : Int) < 9223372036854775807 / ((n : Int) + 2 - 1) := by
      have : (1001 : Int) ≤ 9223372036854775807 / ((n : Int) + 2 - 1) := Int.le_ediv_of_mul_le (by omega) (by omega)
      omega
    have HS1 := joinTo_size l sep (n + 1)
    have hJ : (joinTo l sep (n + 2)).size ≤ 2 ^ 46 := by rw [← hn]; exact hsz
    obtain ⟨q, hqq⟩ : ∃ q, q = sep.size * (n + 1) := ⟨_, rfl⟩
    have e1 : (sep.size : Int) * ((n : Int) + 2 - 1) = (q : Int) := by rw [hqq, Int.natCast_mul]; congr 1; omega
    rw [← hqq, show n + 1 + 1 = n + 2 from rfl] at HS1
    have hS : sumTo l (n + 2) + q ≤ 2 ^ 46 := by omega
    have HJ := Lib.hid hJ
    clear hc hl hsz hqq HS1 hJ
    go_enter Tryz.func120, Tryz.ntmps120
    go_wp2_with fail
    go_loopw [5, 41] (fun s i wr => ∃ j t : Nat, j ≤ n + 2 ∧ i = .int .i64 j ∧ s = .int .i64 t ∧ t = q + sumTo l j ∧ wr = w) (fun _ i _ => n + 2 - (intOf i).toNat)
    case atStart => exact ⟨0, q, Nat.zero_le _, rfl, rfl, rfl, rfl⟩
    case round =>
      obtain ⟨j, t, hj, rfl, rfl, ht, rfl⟩ := hrel
      have hm := sumTo_mono l hj
      by_cases hlt : j < n + 2
      · have hc1 := HC.out j (by omega)
        have hm2 := sumTo_mono l (show j + 1 ≤ n + 2 from hlt)
        have hs : sumTo l (j + 1) = sumTo l j + (nthS l j).size := rfl
        go_wp2_with fail
        go_roundw
        case rel => exact ⟨j + 1, t + (nthS l j).size, by omega, by go_num, by go_num, by omega, trivial⟩
        case measure => simp [intOf]; omega
      · have hle : t ≤ 2 ^ 46 := by omega
        clear ht hm
        go_wp2_with fail
        obtain ⟨B, hB⟩ : ∃ B, B = wr.heap.size := ⟨_, rfl⟩
        have hG := Tryz.Builder_Grow_fresh B B t (wr.alloc (.cells #[.pointer none, .slice none 0 0] 187)) (Nat.le_refl _) (by rw [hB]; exact alloc_at _ _) (by rw [hB]; simp) (by omega)
        rw [← hB]
        refine hG.mono ?_
        rintro e w2 ⟨rfl, hbt, hb2⟩
        have hbel : Below B wr w2 := ((Below.refl _ _).alloc (by omega) _).trans hb2
        have c0 : w2.cell? ⟨b, off, none⟩ = some (.string (nthS l 0)) := by rw [hbel.cell (by show b < B; omega)]; exact hc0
        have HC2 : Hid (∀ W, Below B wr W → ∀ j, j < l.length → W.cell? ⟨b, off + j, none⟩ = some (.string (nthS l j))) := Lib.hid fun W hW j hj => by rw [hW.cell (by show b < B; omega)]; exact HC.out j hj
        have HBT := Lib.hid hbt
        have HB := Lib.hid hB
        have hsB : B ≤ w2.heap.size := by rw [hB]; exact hbel.size
        clear hbt hb2 hc0 hG hB HC hb
        have hj0 := joinTo_mono l sep (show 1 ≤ n + 2 by omega)
        have hj46 := HJ.out
        rw [joinTo_one] at hj0
        go_wp2_with fail
        refine (Tryz.Builder_WriteString B B [] (nthS l 0) w2 (.inr HBT.out) (by simp; omega) hsB).mono ?_
        rintro e w3 ⟨rfl, hbt3, hb3⟩
        replace hbel := hbel.trans hb3
        rw [List.nil_append, Lib.strCells_eq, ← joinTo_one l sep] at hbt3
        replace HBT := Lib.hid hbt3
        clear hbt3 hb3 c0 hj0 hj46 hsB
        clear hj hlt hle
        go_wp2_with fail
        go_loopw [65] (fun i w4 => ∃ j : Nat, j ≤ n + 1 ∧ i = .int .i64 j ∧ Lib.BuilderAt 187 5 B B (.pointer (some ⟨B, 0, none⟩)) (Lib.byteCells (joinTo l sep (j + 1)).data.toList) w4 ∧ Below B wr w4) (fun i _ => n + 1 - (intOf i).toNat)
        case atStart => exact ⟨0, Nat.zero_le _, rfl, HBT.out, hbel⟩
        case round =>
          clear HBT hbel
          obtain ⟨j, hj, rfl, hbt, hbel⟩ := hrel
          have HBT := Lib.hid hbt
          clear hbt
          have hsB : B ≤ wr.heap.size := by have := hbel.size; rw [HB.out]; exact this
          by_cases hlt : j < n + 1
          · have c1 := HC2.out _ hbel (j + 1) (by omega)
            rw [show off + (j + 1) = off + 1 + j by omega] at c1
            have hsz1 := joinTo_succ l sep (j := j + 1) (by omega)
            have hsz2 := joinTo_mono l sep (show j + 1 + 1 ≤ n + 2 by omega)
            have hj46 := HJ.out
            have hsz3 : (joinTo l sep (j + 1 + 1)).size = (joinTo l sep (j + 1)).size + sep.size + (nthS l (j + 1)).size := by rw [hsz1, ByteArray.size_append, ByteArray.size_append]
            have HE := Lib.hid hsz1
            have hbc := Lib.byteCells_length (joinTo l sep (j + 1)).data.toList
            have hbc2 := Lib.byteCells_length (joinTo l sep (j + 1) ++ sep).data.toList
            simp only [Array.length_toList, ByteArray.size_data, ByteArray.size_append] at hbc hbc2
            have hl1 : (Lib.byteCells (joinTo l sep (j + 1)).data.toList).length + sep.size ≤ 140737488355328 := by omega
            have hl2 : (Lib.byteCells (joinTo l sep (j + 1) ++ sep).data.toList).length + (nthS l (j + 1)).size ≤ 140737488355328 := by omega
            have HL1 := Lib.hid hl1
            have HL2 := Lib.hid hl2
            clear hsz1 hsz2 hj46 hsz3 hbc hbc2 hl1 hl2
            go_wp2_with fail
            refine (Tryz.Builder_WriteString B B _ sep _ (.inr HBT.out) HL1.out hsB).mono ?_
            rintro e w5 ⟨rfl, hbt5, hb5⟩
            replace hbel := hbel.trans hb5
            replace hsB : B ≤ w5.heap.size := by have := hbel.size; rw [HB.out]; exact this
            replace c1 : w5.cell? ⟨b, off + 1 + j, none⟩ = some (.string (nthS l (j + 1))) := by rw [show off + 1 + j = off + (j + 1) by omega]; exact HC2.out _ hbel (j + 1) (by omega)
            rw [cells_append] at hbt5
            replace HBT := Lib.hid hbt5
            clear hbt5 hb5
            go_wp2_with fail
            refine (Tryz.Builder_WriteString B B _ (nthS l (j + 1)) _ (.inr HBT.out) HL2.out hsB).mono ?_
            rintro e w6 ⟨rfl, hbt6, hb6⟩
            replace hbel := hbel.trans hb6
            rw [cells_append] at hbt6
            replace HBT := Lib.hid hbt6
            clear hbt6 hb6 c1 hsB
            go_wp2_with fail
            go_roundw
            case rel => exact ⟨j + 1, by omega, by go_num, by rw [HE.out]; exact HBT.out, hbel⟩
            case measure => simp [intOf]; omega
          · obtain rfl : j = n + 1 := by omega
            have F : Hid (joinF l sep = joinTo l sep (n + 1 + 1)) := by unfold joinF; rw [HN.out]; exact Lib.hid rfl
            go_wp2_with fail
            refine (Tryz.Builder_String_any B B _ _ (.inr HBT.out) hsB).mono ?_
            rintro e w5 ⟨rfl, hb5⟩
            replace hbel := hbel.trans hb5
            clear hb5
            go_wp2_with fail
            go_ret
            exact ⟨ret_str (by rw [F.out]), by rw [← HB.out]; exact hbel⟩
end Go.Proofs.YtoddpmdjjgnpgaaGreatDoor
namespace Go.Proofs.YtoddpmdjjgnpgaaGreatDoor
open Go.RowKit
set_option linter.unusedVariables false
/-- a text of one byte -/
def oneC (x : Int) : ByteArray := ⟨#[UInt8.ofNat x.toNat]⟩
theorem convC (w : World) (x : Int) :
    (convert 22 9 (.slice (some ⟨w.heap.size, 0, none⟩) 1 1)).run Tryz.prog (w.alloc (.cells #[.int .u8 x] 5)) = .ok (.string (oneC x)) (w.alloc (.cells #[.int .u8 x] 5)) :=
  run_convert_bytes_arg (P := Tryz.prog) (w.alloc (.cells #[.int .u8 x] 5)) 22 5 Tryz.underlying22 Tryz.underlying5 w.heap.size 0 1 1 [x] rfl (fun i hi => by
    obtain rfl : i = 0 := by omega
    simp) 9 Tryz.underlying9
/-- the letter of a number -/
def letterN (x : Nat) : ByteArray := oneC (97 + (x : Int))
end Go.Proofs.YtoddpmdjjgnpgaaGreatDoor
namespace Go.Proofs.YtoddpmdjjgnpgaaGreatDoor
open Go.RowKit
set_option linter.unusedVariables false
/-- WordOk as a function of plain data -/
def wordOkB (k : Int) (s : ByteArray) : Bool := inB k 1 4 && (decide (s.size ≤ 16) && allB (letB k) s)
theorem letB_low {k : Int} {c : UInt8} (h : (c.toNat : Int) < 97) : letB k c = false := by
  simp [letB, inB]; omega
theorem letB_high {k : Int} {c : UInt8} (h : 97 ≤ (c.toNat : Int)) (h2 : k ≤ (c.toNat : Int) - 97) : letB k c = false := by
  simp [letB, inB]; omega
theorem letB_true {k : Int} {c : UInt8} (h : letB k c = true) : 97 ≤ (c.toNat : Int) ∧ (c.toNat : Int) - 97 < k := by
  simp [letB, inB] at h; omega
theorem wordOk_notk {k : Int} {s : ByteArray} (h : inB k 1 4 = false) : wordOkB k s = false := by simp [wordOkB, h]
theorem wordOk_long {k : Int} {s : ByteArray} (h : 16 < s.size) : wordOkB k s = false := by
  simp [wordOkB, show ¬ s.size ≤ 16 by omega]
theorem wordOk_all {k : Int} {s : ByteArray} (h : inB k 1 4 = true) (h2 : s.size ≤ 16) : wordOkB k s = allB (letB k) s := by simp [wordOkB, h, h2]
set_option maxHeartbeats 400000 in
theorem specWordOk_any (k : Int) (s : ByteArray) (w : World) (hs : s.size ≤ maxLen) :
    Calls Tryz.prog 65 #[.int .i64 k, .string s] w fun e w' => e = .returned (.bool (wordOkB k s)) ∧ w = w' := by
  unfold maxLen at hs
  cases hk : inB k 1 4
  · have F := Lib.hid (wordOk_notk (s := s) hk)
    go_enter Tryz.func65, Tryz.ntmps65
    go_wp2_with (go_at_call 106; refine (l01In_any _ _ _ _).mono ?_; rintro e w' ⟨rfl, rfl⟩)
    go_ret
    exact ⟨ret_bool F.out.symm, rfl⟩
  by_cases hl : 16 < s.size
  · have F := Lib.hid (wordOk_long (k := k) hl)
    go_enter Tryz.func65, Tryz.ntmps65
    go_wp2_with (go_at_call 106; refine (l01In_any _ _ _ _).mono ?_; rintro e w' ⟨rfl, rfl⟩)
    go_ret
    exact ⟨ret_bool F.out.symm, rfl⟩
  have hl' : s.size ≤ 16 := by omega
  have G := Lib.hid (wordOk_all (s := s) hk hl')
  have ⟨hk1, hk2⟩ := inB_bounds hk
  go_enter Tryz.func65, Tryz.ntmps65
  go_wp2_with (go_at_call 106; refine (l01In_any _ _ _ _).mono ?_; rintro e w' ⟨rfl, rfl⟩)
  go_loop [5] (fun i => ∃ j : Nat, j ≤ s.size ∧ i = .int .i64 j ∧ allTo (letB k) s j = true) (fun i => s.size - (intOf i).toNat)
  case atStart => exact ⟨0, Nat.zero_le _, rfl, allTo_zero _ _⟩
  case round =>
    obtain ⟨j, hj, rfl, hall⟩ := hrel
    have H := Lib.hid hall
    clear hall
    by_cases hlt : j < s.size
    · have hb := byte_lt s[j]
      by_cases h1 : (s[j].toNat : Int) < 97
      · have F := Lib.hid (allB_at s (letB k) j hlt (letB_low h1))
        go_wp2
        go_ret
        exact ⟨ret_bool (by rw [G.out, F.out]), rfl⟩
      · by_cases h2 : k ≤ (s[j].toNat : Int) - 97
        · have F := Lib.hid (allB_at s (letB k) j hlt (letB_high (by omega) h2))
          go_wp2
          go_ret
          exact ⟨ret_bool (by rw [G.out, F.out]), rfl⟩
        · have F := Lib.hid (allTo_succ s (letB k) j hlt H.out (by simp [letB, inB]; omega))
          go_wp2
          go_round
          case rel => exact ⟨j + 1, by omega, by go_num, F.out⟩
          case measure => simp [intOf]; omega
    · have F := Lib.hid (allTo_full s (letB k) j hlt H.out)
      go_wp2
      go_ret
      exact ⟨ret_bool (by rw [G.out, F.out]), rfl⟩
end Go.Proofs.YtoddpmdjjgnpgaaGreatDoor
namespace Go.Proofs.YtoddpmdjjgnpgaaGreatDoor
open Go.RowKit
set_option linter.unusedVariables false
theorem Tryz.infoStr : (Tryz.prog.info? 9).map (fun i => (i.zero, i.size, i.bytes)) = some (some (.string ⟨#[]⟩), 1, 16) := by kernel_rfl
theorem nil_app (x : ByteArray) : (⟨#[]⟩ : ByteArray) ++ x = x := by ext1; simp
def strVals (l : List ByteArray) : List Value := l.map Value.string
theorem owns_strs {w : World} {base : Nat} {T : TypeId} {size : Nat} {a : Option Addr} {n m cap : Nat} {l : List ByteArray} (h : w.ownsRow base T size (.slice a m cap) n (strVals l)) : StrsIn w a l := owns_cells h
theorem owns_capS {w : World} {base : Nat} {T : TypeId} {size : Nat} {a : Option Addr} {n m cap : Nat} {xs : List Value} (h : w.ownsRow base T size (.slice a n cap) m xs) : n ≤ cap ∧ cap ≤ maxLen := by
  rcases h.2 with ⟨hv, h0⟩ | ⟨g, cap', cur, hv, hb, hg, hn, hc, r⟩
  · simp only [Value.slice.injEq] at hv
    obtain ⟨_, rfl, rfl⟩ := hv
    exact ⟨Nat.le_refl _, Nat.zero_le _⟩
  · simp only [Value.slice.injEq] at hv
    obtain ⟨_, rfl, rfl⟩ := hv
    exact ⟨hn, hc⟩
set_option maxHeartbeats 400000 in
theorem implJoin_any (l : List ByteArray) (sep : ByteArray) (a : Option Addr) (cap : Nat) (w : World) (hl : StrsIn w a l) (hs0 : 0 < sep.size) (hs1 : sep.size ≤ 1000) (hlen : l.length ≤ 2 ^ 40) (hcap : l.length ≤ cap ∧ cap ≤ maxLen)
    (hsz : (joinF l sep).size ≤ 2 ^ 46) :
    Calls Tryz.prog 74 #[.slice a l.length cap, .string sep] w fun e w' => e = .returned (.string (joinF l sep)) ∧ Below w.heap.size w w' := by
  have HJ := Lib.hid (join_any l sep a cap w hl hs0 hs1 hlen hcap hsz)
  clear hl hsz
  go_enter Tryz.func74, Tryz.ntmps74
  go_wp2_with fail
  refine HJ.out.mono ?_
  rintro e w2 ⟨rfl, hb2⟩
  go_wp2_with fail
  go_ret
  exact ⟨rfl, hb2⟩
set_option maxHeartbeats 1000000 in
theorem specJoin_any (l : List ByteArray) (sep : ByteArray) (a : Option Addr) (cap : Nat) (w : World) (hl : StrsIn w a l) (hs1 : sep.size ≤ 1000) (hlen : l.length ≤ 2 ^ 40) (hsz : (joinF l sep).size ≤ 2 ^ 46) :
    Calls Tryz.prog 178 #[.slice a l.length cap, .string sep] w fun e w' => e = .returned (.string (joinF l sep)) ∧ Below w.heap.size w w' := by
  have HL := Lib.hid hl
  have HZ := Lib.hid hsz
  clear hl hsz
  go_enter Tryz.func178, Tryz.ntmps178
  go_wp2_with fail
  go_loopw [5, 10] (fun s i wr => ∃ j : Nat, j ≤ l.length ∧ i = .int .i64 j ∧ s = .string (joinTo l sep j) ∧ wr = w) (fun _ i _ => l.length - (intOf i).toNat)
  case atStart => exact ⟨0, Nat.zero_le _, rfl, rfl, rfl⟩
  case round =>
    obtain ⟨j, hj, rfl, rfl, rfl⟩ := hrel
    by_cases hlt : j < l.length
    · obtain ⟨b, off, rfl, hb, hc⟩ := HL.out.cell hlt
      have c1 := hc j hlt
      have hm1 : (joinTo l sep (j + 1)).size ≤ 2 ^ 46 := Nat.le_trans (joinTo_mono l sep hlt) HZ.out
      clear hc
      rcases Nat.eq_zero_or_pos j with rfl | h0
      · have F := Lib.hid (joinTo_one l sep)
        have F0 : Hid (joinTo l sep 0 = ⟨#[]⟩) := Lib.hid rfl
        rw [Nat.zero_add, F.out] at hm1
        rw [F0.out]
        rw [Nat.add_zero] at c1
        go_wp2_with fail
        go_roundw
        case rel => exact ⟨1, by omega, by go_num, by rw [F.out, nil_app], trivial⟩
        case measure => simp [intOf]; omega
      · have F := Lib.hid (joinTo_succ l sep h0)
        rw [F.out, ByteArray.size_append, ByteArray.size_append] at hm1
        generalize joinTo l sep j = out at *
        go_wp2_with fail
        go_roundw
        case rel => exact ⟨j + 1, by omega, by go_num, by rw [F.out], trivial⟩
        case measure => simp [intOf]; omega
    · obtain rfl : j = l.length := by omega
      have F : Hid (joinF l sep = joinTo l sep l.length) := Lib.hid rfl
      go_wp2_with fail
      go_ret
      exact ⟨ret_str F.out.symm, Below.refl _ _⟩
/-- a full stop for the empty word -/
def dotB (s : ByteArray) : ByteArray := if s.toList.isEmpty = true then ⟨#[46]⟩ else s
theorem dotB_size (s : ByteArray) : (dotB s).size ≤ s.size + 1 := by
  unfold dotB
  split
  · show 1 ≤ _; omega
  · omega
set_option maxHeartbeats 400000 in
theorem l03Side_any (s : ByteArray) (w : World) :
    Calls Tryz.prog 177 #[.string s] w fun e w' => e = .returned (.string (dotB s)) ∧ w = w' := by
  cases h : s.toList.isEmpty
  · have F : Hid (dotB s = s) := Lib.hid (by simp [dotB, h])
    go_enter Tryz.func177, Tryz.ntmps177
    go_wp2_with fail
    go_ret
    exact ⟨ret_str F.out.symm, rfl⟩
  · have F : Hid (dotB s = ⟨#[46]⟩) := Lib.hid (by simp [dotB, h])
    go_enter Tryz.func177, Tryz.ntmps177
    go_wp2_with fail
    go_ret
    exact ⟨ret_str F.out.symm, rfl⟩
set_option maxHeartbeats 400000 in
theorem dotted_any (s : ByteArray) (w : World) :
    Calls Tryz.prog 77 #[.string s] w fun e w' => e = .returned (.string (dotB s)) ∧ w = w' := by
  cases h : s.toList.isEmpty
  · have F : Hid (dotB s = s) := Lib.hid (by simp [dotB, h])
    go_enter Tryz.func77, Tryz.ntmps77
    go_wp2_with fail
    go_ret
    exact ⟨ret_str F.out.symm, rfl⟩
  · have F : Hid (dotB s = ⟨#[46]⟩) := Lib.hid (by simp [dotB, h])
    go_enter Tryz.func77, Tryz.ntmps77
    go_wp2_with fail
    go_ret
    exact ⟨ret_str F.out.symm, rfl⟩
end Go.Proofs.YtoddpmdjjgnpgaaGreatDoor
namespace Go.Proofs.YtoddpmdjjgnpgaaGreatDoor
open Go.RowKit
set_option linter.unusedVariables false
theorem grown_alloc {w w1 : World} {r : Option Nat} (h : w.grownBy w1 r) (o : Obj) : w.grownBy (w1.alloc o) r := by
  have e := Below.heap_alloc w1 o
  exact ⟨h.os, h.tape, h.output, Nat.le_trans h.size (by simp), fun k hk hne => (e k (Nat.lt_of_lt_of_le hk h.size)).trans (h.block k hk hne)⟩
theorem CurOk.alloc {w : World} {B : Nat} {a : Option Addr} {l : List UInt8} {cap : Nat} (h : CurOk w B a l cap) (o : Obj) : CurOk (w.alloc o) B a l cap := h.later ((Below.refl _ _).alloc (Nat.le_refl _) _)
theorem CurOk.lt {w : World} {B : Nat} {a : Option Addr} {l : List UInt8} {cap : Nat} (h : CurOk w B a l cap) : B < w.heap.size := h.at_.lt
set_option maxHeartbeats 1000000 in
theorem l01Below_any (B n : Nat) (a : Option Addr) (l : List UInt8) (cap : Nat) (w : World) (h : CurOk w B a l cap) (hn : 1 ≤ n) (hn2 : n ≤ 256) :
    Calls Tryz.prog 85 #[.pointer (some ⟨B, 0, none⟩), .int .i64 (n : Nat)] w fun e w' => ∃ x : Nat, x < n ∧ e = .returned (.int .i64 ((x : Nat) : Int)) ∧ CurOk w' B a l cap ∧ w.grownBy w' (some B) := by
  have HB := Lib.hid (byte_cur h)
  clear h
  have h0 : ¬ (n : Int) ≤ 0 := by omega
  have h2 : (n : Int) ≤ 256 := by omega
  have hnz : ((n : Int) == 0) = false := by rw [beq_eq_false_iff_ne]; omega
  have hnz2 : ¬ (n : Int) = 0 := by omega
  go_enter Tryz.func85, Tryz.ntmps85
  go_wp2_with fail
  refine HB.out.mono ?_
  rintro e w2 ⟨x, hx, rfl, hc2, hg2⟩
  have HC := Lib.hid hc2
  have HG := Lib.hid hg2
  clear hc2 hg2 HB
  go_wp2_with fail
  go_ret
  exact ⟨x % n, Nat.mod_lt _ (by omega), ret_int (by first | rfl | simp), HC.out, HG.out⟩
set_option maxHeartbeats 400000 in
theorem l01Once_any (B n : Nat) (a : Option Addr) (l : List UInt8) (cap : Nat) (w : World) (h : CurOk w B a l cap) (hn : 1 ≤ n) (hn2 : n ≤ 256) :
    Calls Tryz.prog 84 #[.pointer (some ⟨B, 0, none⟩), .int .i64 (n : Nat)] w fun e w' => ∃ b : Bool, e = .returned (.bool b) ∧ CurOk w' B a l cap ∧ w.grownBy w' (some B) := by
  have HB := Lib.hid (l01Below_any B n a l cap w h hn hn2)
  clear h
  go_enter Tryz.func84, Tryz.ntmps84
  go_wp2_with fail
  refine HB.out.mono ?_
  rintro e w2 ⟨x, hx, rfl, hc2, hg2⟩
  have HC := Lib.hid hc2
  have HG := Lib.hid hg2
  clear hc2 hg2 HB
  go_wp2_with fail
  go_ret
  exact ⟨_, rfl, HC.out, HG.out⟩
theorem StrsIn.grownB {w w' : World} {B : Nat} {a : Option Addr} {l : List ByteArray} (h : StrsIn w a l) (hg : w.grownBy w' (some B)) (hne : ∀ x, a = some x → x.block ≠ B) : StrsIn w' a l := by
  rcases h with h | ⟨b, off, ha, hc⟩
  · exact .inl h
  · refine .inr ⟨b, off, ha, fun i hi => ?_⟩
    rw [World.cell?_of_block (w := w) (hg.block b (World.block_lt_of_cell? w _ (hc i hi)) (fun e => hne _ ha (Option.some.inj e)))]
    exact hc i hi
set_option maxHeartbeats 1000000 in
theorem l01Str_any (B : Nat) (a : Option Addr) (l : List UInt8) (cap : Nat) (ls : List ByteArray) (a2 : Option Addr) (cap2 : Nat) (w : World) (h : CurOk w B a l cap) (hl : StrsIn w a2 ls) (hne : ∀ x, a2 = some x → x.block ≠ B) (h1 : 1 ≤ ls.length) (h2 : ls.length ≤ 256) :
    Calls Tryz.prog 87 #[.pointer (some ⟨B, 0, none⟩), .slice a2 ls.length cap2] w fun e w' => ∃ i : Nat, i < ls.length ∧ e = .returned (.string (nthS ls i)) ∧ CurOk w' B a l cap ∧ w.grownBy w' (some B) := by
  have HB := Lib.hid (l01Below_any B ls.length a l cap w h h1 h2)
  have HL := Lib.hid hl
  have HN := Lib.hid hne
  clear h hl hne
  go_enter Tryz.func87, Tryz.ntmps87
  go_wp2_with fail
  refine HB.out.mono ?_
  rintro e w2 ⟨x, hx, rfl, hc2, hg2⟩
  obtain ⟨b, off, rfl, hb, hcell⟩ := (HL.out.grownB hg2 HN.out).cell hx
  have c1 := hcell x hx
  have HC := Lib.hid hc2
  have HG := Lib.hid hg2
  clear hc2 hg2 HB hcell
  go_wp2_with fail
  go_ret
  exact ⟨x, hx, rfl, HC.out, HG.out⟩
theorem StrsIn.lit (w : World) (ls : List ByteArray) : StrsIn (w.alloc (.cells (strVals ls).toArray 9)) (some ⟨w.heap.size, 0, none⟩) ls := by
  refine .inr ⟨_, _, rfl, fun i hi => ?_⟩
  rw [Nat.zero_add, World.cell?_alloc_new]
  have h2 : i < (strVals ls).length := by simpa [strVals] using hi
  show (strVals ls).toArray[i]? = some _
  rw [List.getElem?_toArray, List.getElem?_eq_getElem h2]
  rfl
/-- a literal row of strings is drawn from -/
theorem strLit_any (B : Nat) (a : Option Addr) (l : List UInt8) (cap : Nat) (ls : List ByteArray) (w : World) (h : CurOk w B a l cap) (h1 : 1 ≤ ls.length) (h2 : ls.length ≤ 256) :
    Calls Tryz.prog 87 #[.pointer (some ⟨B, 0, none⟩), .slice (some ⟨w.heap.size, 0, none⟩) ls.length ls.length] (w.alloc (.cells (strVals ls).toArray 9)) fun e w' => ∃ i : Nat, i < ls.length ∧ e = .returned (.string (nthS ls i)) ∧ CurOk w' B a l cap ∧ w.grownBy w' (some B) :=
  (l01Str_any B a l cap ls (some ⟨w.heap.size, 0, none⟩) ls.length _ (h.alloc _) (StrsIn.lit w ls) (fun x hx => by
    obtain rfl := Option.some.inj hx
    have := h.lt
    show w.heap.size ≠ B; omega) h1 h2).mono fun _ _ ⟨i, hi, he, hc, hg⟩ => ⟨i, hi, he, hc, grown_tr (grown_alloc ⟨rfl, rfl, rfl, Nat.le_refl _, fun _ _ _ => rfl⟩ _) hg⟩
theorem allB_app (p : UInt8 → Bool) (u v : ByteArray) : allB p (u ++ v) = (allB p u && allB p v) := by simp [allB]
set_option maxRecDepth 20000 in
set_option maxHeartbeats 2000000 in
theorem l02Draw_any (B k most : Nat) (a : Option Addr) (l : List UInt8) (cap : Nat) (w : World) (h : CurOk w B a l cap) (hk1 : 1 ≤ k) (hk : k ≤ 4) (hm : most ≤ 16) :
    Calls Tryz.prog 43 #[.pointer (some ⟨B, 0, none⟩), .int .i64 (k : Nat), .int .i64 (most : Nat)] w fun e w' => ∃ s : ByteArray, (allB (letB k) s = true ∧ s.size ≤ most) ∧ e = .returned (.string s) ∧ CurOk w' B a l cap ∧ w.grownBy w' (some B) := by
  have kc := convC
  have HN : Hid (Calls Tryz.prog 85 #[.pointer (some ⟨B, 0, none⟩), .int .i64 ((most : Int) + 1)] w fun e w' => ∃ x : Nat, x < most + 1 ∧ e = .returned (.int .i64 ((x : Nat) : Int)) ∧ CurOk w' B a l cap ∧ w.grownBy w' (some B)) := Lib.hid (l01Below_any B (most + 1) a l cap w h (by omega) (by omega))
  clear h
  go_enter Tryz.func43, Tryz.ntmps43
  go_wp2_with fail
  refine HN.out.mono ?_
  rintro e w3 ⟨x, hx, rfl, hc3, hg3⟩
  have HC3 := Lib.hid hc3
  have HG3 := Lib.hid hg3
  clear hc3 hg3 HN
  go_wp2_with fail
  go_loopw [7, 8] (fun u v wr => ∃ (j : Nat) (s : ByteArray), v = .int .i64 ((j : Nat) : Int) ∧ u = .string s ∧ Hid (allB (letB k) s = true) ∧ s.size + j ≤ most ∧ CurOk wr B a l cap ∧ w.grownBy wr (some B)) (fun _ v _ => (intOf v).toNat)
  case atStart => exact ⟨x, ⟨#[]⟩, rfl, rfl, Lib.hid rfl, by show 0 + x ≤ most; omega, HC3.out, HG3.out⟩
  case round =>
    clear HC3 HG3
    obtain ⟨j, s, rfl, rfl, hs, hsz, hc, hg⟩ := hrel
    have HC := Lib.hid hc
    have HG := Lib.hid hg
    clear hc hg
    by_cases hj : 0 < j
    · have HS := Lib.hid (l01Below_any B k a l cap wr HC.out hk1 (by omega))
      have hji : (0 : Int) < (j : Int) := by omega
      go_wp2_with fail
      refine HS.out.mono ?_
      rintro e w5 ⟨i, hi, rfl, hc5, hg5⟩
      have hu : IntKind.u8.wrap (97 + (i : Int)) = 97 + (i : Int) := by simp [IntKind.wrap, IntKind.signed, IntKind.bits]; omega
      have HC5 := Lib.hid (hc5.alloc (.cells #[.int .u8 (97 + (i : Int))] 5))
      have HG5 := Lib.hid (grown_alloc (grown_tr HG.out hg5) (.cells #[.int .u8 (97 + (i : Int))] 5))
      have hlb : allB (letB k) (letterN i) = true := by
        unfold allB
        have : (letterN i).data.toList = [UInt8.ofNat (97 + i)] := by
          show [UInt8.ofNat ((97 + (i : Int)).toNat)] = _
          rw [show (97 + (i : Int)).toNat = 97 + i by omega]
        rw [this]
        show ([UInt8.ofNat (97 + i)].all (letB k)) = true
        have hc : (UInt8.ofNat (97 + i)).toNat = 97 + i := by rw [UInt8.toNat_ofNat']; omega
        simp only [List.all_cons, List.all_nil, Bool.and_true, letB, inB, hc]
        simp; omega
      have HA : Hid (allB (letB k) (s ++ oneC (97 + (i : Int))) = true) := Lib.hid (by
        rw [allB_app, hs.out]
        exact hlb)
      have hsum : ¬ 9223372036854775807 < s.size + (oneC (97 + (i : Int))).size := by
        show ¬ 9223372036854775807 < s.size + 1; omega
      have hss : (s ++ oneC (97 + (i : Int))).size + (j - 1) ≤ most := by
        rw [ByteArray.size_append]
        show s.size + 1 + (j - 1) ≤ most; omega
      have HSS := Lib.hid hss
      clear hc5 hg5 HS hss hlb
      go_wp2_with fail
      go_roundw
      case rel => exact ⟨j - 1, _, by congr 1; omega, rfl, HA, HSS.out, HC5.out, HG5.out⟩
      case measure => simp [intOf]; omega
    · have hji : ¬ (0 : Int) < (j : Int) := by omega
      go_wp2_with fail
      go_ret
      exact ⟨s, ⟨hs.out, by omega⟩, rfl, HC.out, HG.out⟩
end Go.Proofs.YtoddpmdjjgnpgaaGreatDoor
namespace Go.Proofs.YtoddpmdjjgnpgaaGreatDoor
open Go.RowKit
set_option linter.unusedVariables false
/-- a rule: its two sides -/
abbrev RulD := ByteArray × ByteArray
/-- the cells of rules -/
def ruleCells : List RulD → List Value
  | [] => []
  | p :: l => .string p.1 :: .string p.2 :: ruleCells l
theorem ruleCells_len : ∀ l : List RulD, (ruleCells l).length = l.length * 2
  | [] => rfl
  | p :: l => by simp only [ruleCells, List.length_cons, ruleCells_len l]; omega
theorem ruleCells_app : ∀ l m : List RulD, ruleCells (l ++ m) = ruleCells l ++ ruleCells m
  | [], m => rfl
  | p :: l, m => by simp only [List.cons_append, ruleCells, ruleCells_app l m]
/-- the rule at a place -/
def nthR (l : List RulD) (j : Nat) : RulD := l.getD j (⟨#[]⟩, ⟨#[]⟩)
theorem nthR_lt {l : List RulD} {j : Nat} (h : j < l.length) : nthR l j = l[j] := by simp [nthR, List.getD_eq_getElem?_getD, h]
theorem nthR_mem {l : List RulD} {j : Nat} (h : j < l.length) : nthR l j ∈ l := by rw [nthR_lt h]; exact List.getElem_mem h
theorem mem_nthR {l : List RulD} {r : RulD} (h : r ∈ l) : ∃ i, i < l.length ∧ nthR l i = r := by
  obtain ⟨i, hi, he⟩ := List.getElem_of_mem h
  exact ⟨i, hi, by rw [nthR_lt hi, he]⟩
theorem ruleCells_at : ∀ (l : List RulD) (j : Nat), j < l.length → (ruleCells l)[j * 2]? = some (.string (nthR l j).1) ∧ (ruleCells l)[j * 2 + 1]? = some (.string (nthR l j).2)
  | [], j, h => by simp at h
  | p :: l, 0, _ => by simp [ruleCells, nthR]
  | p :: l, j + 1, h => by
    have := ruleCells_at l j (by simpa using h)
    rw [show (j + 1) * 2 = j * 2 + 2 by omega, show j * 2 + 2 + 1 = (j * 2 + 1) + 2 by omega]
    have e1 : ∀ n, (ruleCells (p :: l))[n + 2]? = (ruleCells l)[n]? := fun n => rfl
    have e2 : nthR (p :: l) (j + 1) = nthR l j := rfl
    rw [e1, e1, e2]
    exact this
/-- a slice of rules -/
def RulesIn (w : World) (a : Option Addr) (l : List RulD) : Prop := CellsIn w a (ruleCells l)
theorem RulesIn.later {w w' : World} {a : Option Addr} {l : List RulD} (h : RulesIn w a l) (hb : Below w.heap.size w w') : RulesIn w' a l := CellsIn.later h hb
theorem RulesIn.cell {w : World} {a : Option Addr} {l : List RulD} (h : RulesIn w a l) {i : Nat} (hi : i < l.length) :
    ∃ b off, a = some ⟨b, off, none⟩ ∧ b < w.heap.size ∧ ∀ j, j < l.length → w.cell? ⟨b, off + j * 2, none⟩ = some (.string (nthR l j).1) ∧ w.cell? ⟨b, off + j * 2 + 1, none⟩ = some (.string (nthR l j).2) := by
  rcases h with h | ⟨b, off, ha, hc⟩
  · have := ruleCells_len l
    rw [h, List.length_nil] at this
    omega
  · have key : ∀ j, j < l.length → w.cell? ⟨b, off + j * 2, none⟩ = some (.string (nthR l j).1) ∧ w.cell? ⟨b, off + j * 2 + 1, none⟩ = some (.string (nthR l j).2) := fun j hj => by
      obtain ⟨h1, h2⟩ := ruleCells_at l j hj
      have hlen := ruleCells_len l
      have c1 := hc (j * 2) (by omega)
      have c2 := hc (j * 2 + 1) (by omega)
      rw [List.getElem?_eq_getElem (by omega)] at h1 h2
      rw [Option.some.inj h1] at c1
      rw [Option.some.inj h2] at c2
      exact ⟨c1, by rw [← Nat.add_assoc] at c2; exact c2⟩
    exact ⟨b, off, ha, World.block_lt_of_cell? w _ (key i hi).1, key⟩
theorem owns_rules {w : World} {base : Nat} {T : TypeId} {size : Nat} {a : Option Addr} {n m cap : Nat} {l : List RulD} (h : w.ownsRow base T size (.slice a m cap) n (ruleCells l)) : RulesIn w a l := owns_cells h
end Go.Proofs.YtoddpmdjjgnpgaaGreatDoor
namespace Go.Proofs.YtoddpmdjjgnpgaaGreatDoor
set_option linter.unusedVariables false
section
variable {α : Type} [DecidableEq α]
/-- two strictly sorted lists with the same members are one -/
theorem sorted_ext {lt : α → α → Prop} (hirr : ∀ a, ¬ lt a a) (htr : ∀ a b c, lt a b → lt b c → lt a c) : ∀ {x y : List α}, x.Pairwise lt → y.Pairwise lt → (∀ u, u ∈ x ↔ u ∈ y) → x = y
  | [], y, _, _, h => by
    cases y with
    | nil => rfl
    | cons b y => exact absurd ((h b).2 List.mem_cons_self) (by simp)
  | a :: x, [], _, _, h => absurd ((h a).1 List.mem_cons_self) (by simp)
  | a :: x, b :: y, hx, hy, h => by
    rw [List.pairwise_cons] at hx hy
    have hab : a = b := by
      rcases List.mem_cons.1 ((h a).1 List.mem_cons_self) with e | e
      · exact e
      · rcases List.mem_cons.1 ((h b).2 List.mem_cons_self) with e2 | e2
        · exact e2.symm
        · exact absurd (htr _ _ _ (hx.1 b e2) (hy.1 a e)) (hirr a)
    subst hab
    have hxy : x = y := sorted_ext hirr htr hx.2 hy.2 (fun u => by
      have hu := h u
      rw [List.mem_cons, List.mem_cons] at hu
      by_cases e : u = a
      · subst e
        exact ⟨fun m => absurd (hx.1 u m) (hirr u), fun m => absurd (hy.1 u m) (hirr u)⟩
      · constructor
        · intro m; exact (hu.1 (.inr m)).resolve_left e
        · intro m; exact (hu.2 (.inr m)).resolve_left e)
    rw [hxy]
end
theorem sorted_nodup {α : Type} {lt : α → α → Prop} (hirr : ∀ a, ¬ lt a a) : ∀ {x : List α}, x.Pairwise lt → x.Nodup
  | [], _ => List.nodup_nil
  | a :: x, h => by
    rw [List.pairwise_cons] at h
    rw [List.nodup_cons]
    exact ⟨fun m => hirr a (h.1 a m), sorted_nodup hirr h.2⟩
end Go.Proofs.YtoddpmdjjgnpgaaGreatDoor
namespace Go.Proofs.YtoddpmdjjgnpgaaGreatDoor
open Go.RowKit Go.Sort
set_option linter.unusedVariables false
/-- the order of words, at their bytes -/
def ltW (a b : List UInt8) : Bool := decide (a.length < b.length ∨ (a.length = b.length ∧ a < b))
theorem ltW_irrefl (a : List UInt8) : ltW a a = false := by
  have : ¬ a < a := List.lt_irrefl a
  simp [ltW, this]
theorem ltW_trans {a b c : List UInt8} (h : ltW a b = true) (h' : ltW b c = true) : ltW a c = true := by
  simp only [ltW, decide_eq_true_eq] at *
  rcases h with h | ⟨h, h2⟩ <;> rcases h' with h' | ⟨h', h3⟩
  · left; omega
  · left; omega
  · left; omega
  · right; exact ⟨by omega, List.lt_trans h2 h3⟩
theorem ltW_total {a b : List UInt8} (h : ltW a b = false) (h' : ltW b a = false) : a = b := by
  simp only [ltW, decide_eq_false_iff_not, not_or, not_and] at *
  have h1 : a.length = b.length := by omega
  have h2 : ¬ a < b := h.2 h1
  have h3 : ¬ b < a := h'.2 h1.symm
  exact List.le_antisymm (List.not_lt.1 h3) (List.not_lt.1 h2)
/-- strictly sorted -/
def SortedW (l : List (List UInt8)) : Prop := l.Pairwise (fun a b => ltW a b = true)
theorem SortedW.ext {x y : List (List UInt8)} (hx : SortedW x) (hy : SortedW y) (h : ∀ u, u ∈ x ↔ u ∈ y) : x = y :=
  sorted_ext (lt := fun a b => ltW a b = true) (fun a h => by rw [ltW_irrefl] at h; cases h) (fun a b c => ltW_trans) hx hy h
theorem SortedW.nodup {x : List (List UInt8)} (hx : SortedW x) : x.Nodup := sorted_nodup (lt := fun a b => ltW a b = true) (fun a h => by rw [ltW_irrefl] at h; cases h) hx
/-- weakly sorted: a later one is not less -/
def WeakW (l : List (List UInt8)) : Prop := l.Pairwise (fun a b => ltW b a = false)
theorem WeakW.at {zs : List (List UInt8)} (h : WeakW zs) {i j : Nat} (hij : i ≤ j) (hj : j < zs.length) : ltW zs[j] (zs[i]'(by omega)) = false := by
  rcases Nat.lt_or_ge i j with hlt | hge
  · exact (List.pairwise_iff_getElem.1 h) i j (by omega) hj hlt
  · have : i = j := by omega
    subst this; exact ltW_irrefl _
end Go.Proofs.YtoddpmdjjgnpgaaGreatDoor
namespace Go.Proofs.YtoddpmdjjgnpgaaGreatDoor
set_option linter.unusedVariables false
section
variable {α : Type} (F : List α → Prop) (N : List α → List α → Prop)
variable {F N}
end
end Go.Proofs.YtoddpmdjjgnpgaaGreatDoor
namespace Go.Proofs.YtoddpmdjjgnpgaaGreatDoor
open Go.RowKit
set_option linter.unusedVariables false
/-- an answer that tells whether P -/
def RetP (P : Prop) (w : World) (e : Ending) (w' : World) : Prop := ∃ b : Bool, (b = true ↔ P) ∧ e = .returned (.bool b) ∧ Below w.heap.size w w'
theorem RetP.yes {P : Prop} {w w' : World} (h : P) (hb : Below w.heap.size w w') : RetP P w (.returned (.bool true)) w' := ⟨true, ⟨fun _ => h, fun _ => rfl⟩, rfl, hb⟩
theorem RetP.no {P : Prop} {w w' : World} (h : ¬ P) (hb : Below w.heap.size w w') : RetP P w (.returned (.bool false)) w' := ⟨false, ⟨fun h => (by cases h), fun h2 => absurd h2 h⟩, rfl, hb⟩
end Go.Proofs.YtoddpmdjjgnpgaaGreatDoor
