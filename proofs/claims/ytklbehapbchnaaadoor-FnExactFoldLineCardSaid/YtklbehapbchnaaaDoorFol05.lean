/-
  Words without neighbors that are inverse, of the program.
-/
import Derived.Test.YtklbehapbchnaaaDoorFol01
import Derived.Test.YtklbehapbchnaaaDoorFol02
import Derived.Test.YtklbehapbchnaaaDoorFol04
import Derived.Lib.ConvBytes
import Derived.Laws.BytesArg
import Derived.Test.YtklbehapbchnaaaDoorFol03
namespace Go.Proofs.YtklbehapbchnaaaDoor
open Go.RowKit
set_option linter.unusedVariables false
/-- a slice of strings -/
def StrsIn (w : World) (a : Option Addr) (l : List ByteArray) : Prop := CellsIn w a (l.map Value.string)
theorem StrsIn.later {w w' : World} {a : Option Addr} {l : List ByteArray} (h : StrsIn w a l) (hb : Below w.heap.size w w') : StrsIn w' a l := CellsIn.later h hb
/-- the string at a place -/
def nthS (l : List ByteArray) (i : Nat) : ByteArray := l.getD i ⟨#[]⟩
theorem nthS_lt {l : List ByteArray} {i : Nat} (h : i < l.length) : nthS l i = l[i] := by simp [nthS, List.getD_eq_getElem?_getD, h]
theorem StrsIn.cell {w : World} {a : Option Addr} {l : List ByteArray} (h : StrsIn w a l) {i : Nat} (hi : i < l.length) :
    ∃ b off, a = some ⟨b, off, none⟩ ∧ b < w.heap.size ∧ ∀ j, j < l.length → w.cell? ⟨b, off + j, none⟩ = some (.string (nthS l j)) := by
  rcases h with h | ⟨b, off, ha, hc⟩
  · simp at h; simp [h] at hi
  · have key : ∀ j, j < l.length → w.cell? ⟨b, off + j, none⟩ = some (.string (nthS l j)) := fun j hj => by
      have := hc j (by simpa using hj)
      rw [nthS_lt hj]
      simpa using this
    exact ⟨b, off, ha, World.block_lt_of_cell? w _ (key i hi), key⟩
/-- the first j strings, joined -/
def joinTo (l : List ByteArray) (sep : ByteArray) : Nat → ByteArray
  | 0 => ⟨#[]⟩
  | j + 1 => if j = 0 then nthS l 0 else joinTo l sep j ++ sep ++ nthS l j
def joinF (l : List ByteArray) (sep : ByteArray) : ByteArray := joinTo l sep l.length
theorem joinTo_one (l : List ByteArray) (sep : ByteArray) : joinTo l sep 1 = nthS l 0 := rfl
theorem joinTo_succ (l : List ByteArray) (sep : ByteArray) {j : Nat} (h : 0 < j) : joinTo l sep (j + 1) = joinTo l sep j ++ sep ++ nthS l j := by
  simp only [joinTo, if_neg (show ¬ j = 0 by omega)]
/-- the sizes of the first j -/
def sumTo (l : List ByteArray) : Nat → Nat
  | 0 => 0
  | j + 1 => sumTo l j + (nthS l j).size
theorem joinTo_size (l : List ByteArray) (sep : ByteArray) : ∀ j, (joinTo l sep (j + 1)).size = sumTo l (j + 1) + sep.size * j
  | 0 => by simp [joinTo, sumTo]
  | j + 1 => by
    rw [joinTo_succ l sep (by omega), ByteArray.size_append, ByteArray.size_append, joinTo_size l sep j, sumTo, Nat.mul_add, sumTo]
    simp only [sumTo]
    omega
theorem joinTo_mono (l : List ByteArray) (sep : ByteArray) {i j : Nat} (h : i ≤ j) : (joinTo l sep i).size ≤ (joinTo l sep j).size := by
  induction h with
  | refl => exact Nat.le_refl _
  | step h ih =>
    rename_i m
    refine Nat.le_trans ih ?_
    cases m with
    | zero => exact Nat.zero_le _
    | succ m => rw [joinTo_succ l sep (j := m + 1) (by omega), ByteArray.size_append, ByteArray.size_append]; omega
theorem sumTo_mono (l : List ByteArray) {i j : Nat} (h : i ≤ j) : sumTo l i ≤ sumTo l j := by
  induction h with
  | refl => exact Nat.le_refl _
  | step h ih => exact Nat.le_trans ih (by simp [sumTo])
theorem ret_str {a b : ByteArray} (h : a = b) : Ending.returned (.string a) = .returned (.string b) := by rw [h]
theorem cells_append (a b : ByteArray) : Lib.byteCells a.data.toList ++ Lib.strCells b = Lib.byteCells (a ++ b).data.toList := by
  rw [Lib.strCells_eq, ← Lib.byteCells_append]; simp
theorem alloc_at (w : World) (o : Obj) : (w.alloc o).heap[w.heap.size]? = some o := by unfold World.alloc; simp
set_option maxHeartbeats 1000000 in
theorem join_any (l : List ByteArray) (sep : ByteArray) (a : Option Addr) (cap : Nat) (w : World) (hl : StrsIn w a l) (hs0 : 0 < sep.size) (hs1 : sep.size ≤ 1000) (hlen : l.length ≤ 2 ^ 40) (hcap : l.length ≤ cap ∧ cap ≤ maxLen)
    (hsz : (joinF l sep).size ≤ 2 ^ 46) :
    Calls Tryd.prog 52 #[.slice a l.length cap, .string sep] w fun e w' => e = .returned (.string (joinF l sep)) ∧ Below w.heap.size w w' := by
  rcases Nat.lt_or_ge l.length 2 with h2 | h2
  · rcases Nat.lt_or_ge l.length 1 with h1 | h1
    · have h0 : l.length = 0 := by omega
      have F : Hid (joinF l sep = ⟨#[]⟩) := by unfold joinF; rw [h0]; exact Lib.hid rfl
      rw [h0]
      clear hl
      go_enter Tryd.func52, Tryd.ntmps52
      go_wp2_with fail
      go_ret
      exact ⟨ret_str F.out.symm, Below.refl _ _⟩
    · have h0 : l.length = 1 := by omega
      have F : Hid (joinF l sep = nthS l 0) := by unfold joinF; rw [h0]; exact Lib.hid rfl
      obtain ⟨b, off, rfl, hb, hc⟩ := hl.cell (i := 0) (by omega)
      have hc0 := hc 0 (by omega)
      rw [Nat.add_zero] at hc0
      clear hc hl
      rw [h0]
      go_enter Tryd.func52, Tryd.ntmps52
      go_wp2_with fail
      go_ret
      exact ⟨ret_str F.out.symm, Below.refl _ _⟩
  · obtain ⟨b, off, rfl, hb, hc⟩ := hl.cell (i := 0) (by omega)
    have HC := Lib.hid hc
    have hc0 := hc 0 (by omega)
    rw [Nat.add_zero] at hc0
    have HSZ := Lib.hid hsz
    obtain ⟨n, hn⟩ : ∃ n, l.length = n + 2 := ⟨l.length - 2, by omega⟩
    have HN := Lib.hid hn
    have hq : (sep.size : Int) < 9223372036854775807 / ((n : Int) + 2 - 1) := by
      have : (1001 : Int) ≤ 9223372036854775807 / ((n : Int) + 2 - 1) := Int.le_ediv_of_mul_le (by omega) (by omega)
      omega
    have HS1 := joinTo_size l sep (n + 1)
    have hJ : (joinTo l sep (n + 2)).size ≤ 2 ^ 46 := by rw [← hn]; exact hsz
    obtain ⟨q, hqq⟩ : ∃ q, q = sep.size * (n + 1) := ⟨_, rfl⟩
    have e1 : (sep.size : Int) * ((n : Int) + 2 - 1) = (q : Int) := by rw [hqq, Int.natCast_mul]; congr 1; omega
    rw [← hqq, show n + 1 + 1 = n + 2 from rfl] at HS1
    have hS : sumTo l (n + 2) + q ≤ 2 ^ 46 := by omega
    have HJ := Lib.hid hJ
    clear hc hl hsz hqq HS1 hJ
    go_enter Tryd.func52, Tryd.ntmps52
    go_wp2_with fail
    go_loopw [5, 41] (fun s i wr => ∃ j t : Nat, j ≤ n + 2 ∧ i = .int .i64 j ∧ s = .int .i64 t ∧ t = q + sumTo l j ∧ wr = w) (fun _ i _ => n + 2 - (intOf i).toNat)
    case atStart => exact ⟨0, q, Nat.zero_le _, rfl, rfl, rfl, rfl⟩
    case round =>
      obtain ⟨j, t, hj, rfl, rfl, ht, rfl⟩ := hrel
      have hm := sumTo_mono l hj
      by_cases hlt : j < n + 2
      · have hc1 := HC.out j (by omega)
        have hm2 := sumTo_mono l (show j + 1 ≤ n + 2 from hlt)
        have hs : sumTo l (j + 1) = sumTo l j + (nthS l j).size := rfl
        go_wp2_with fail
        go_roundw
        case rel => exact ⟨j + 1, t + (nthS l j).size, by omega, by go_num, by go_num, by omega, trivial⟩
        case measure => simp [intOf]; omega
      · have hle : t ≤ 2 ^ 46 := by omega
        clear ht hm
        go_wp2_with fail
        obtain ⟨B, hB⟩ : ∃ B, B = wr.heap.size := ⟨_, rfl⟩
        have hG := Tryd.Builder_Grow_fresh B B t (wr.alloc (.cells #[.pointer none, .slice none 0 0] 97)) (Nat.le_refl _) (by rw [hB]; exact alloc_at _ _) (by rw [hB]; simp) (by omega)
        rw [← hB]
        refine hG.mono ?_
        rintro e w2 ⟨rfl, hbt, hb2⟩
        have hbel : Below B wr w2 := ((Below.refl _ _).alloc (by omega) _).trans hb2
        have c0 : w2.cell? ⟨b, off, none⟩ = some (.string (nthS l 0)) := by rw [hbel.cell (by show b < B; omega)]; exact hc0
        have HC2 : Hid (∀ W, Below B wr W → ∀ j, j < l.length → W.cell? ⟨b, off + j, none⟩ = some (.string (nthS l j))) := Lib.hid fun W hW j hj => by rw [hW.cell (by show b < B; omega)]; exact HC.out j hj
        have HBT := Lib.hid hbt
        have HB := Lib.hid hB
        have hsB : B ≤ w2.heap.size := by rw [hB]; exact hbel.size
        clear hbt hb2 hc0 hG hB HC hb
        have hj0 := joinTo_mono l sep (show 1 ≤ n + 2 by omega)
        have hj46 := HJ.out
        rw [joinTo_one] at hj0
        go_wp2_with fail
        refine (Tryd.Builder_WriteString B B [] (nthS l 0) w2 (.inr HBT.out) (by simp; omega) hsB).mono ?_
        rintro e w3 ⟨rfl, hbt3, hb3⟩
        replace hbel := hbel.trans hb3
        rw [List.nil_append, Lib.strCells_eq, ← joinTo_one l sep] at hbt3
        replace HBT := Lib.hid hbt3
        clear hbt3 hb3 c0 hj0 hj46 hsB
        clear hj hlt hle
        go_wp2_with fail
        go_loopw [65] (fun i w4 => ∃ j : Nat, j ≤ n + 1 ∧ i = .int .i64 j ∧ Lib.BuilderAt 97 5 B B (.pointer (some ⟨B, 0, none⟩)) (Lib.byteCells (joinTo l sep (j + 1)).data.toList) w4 ∧ Below B wr w4) (fun i _ => n + 1 - (intOf i).toNat)
        case atStart => exact ⟨0, Nat.zero_le _, rfl, HBT.out, hbel⟩
        case round =>
          clear HBT hbel
          obtain ⟨j, hj, rfl, hbt, hbel⟩ := hrel
          have HBT := Lib.hid hbt
          clear hbt
          have hsB : B ≤ wr.heap.size := by have := hbel.size; rw [HB.out]; exact this
          by_cases hlt : j < n + 1
          · have c1 := HC2.out _ hbel (j + 1) (by omega)
            rw [show off + (j + 1) = off + 1 + j by omega] at c1
            have hsz1 := joinTo_succ l sep (j := j + 1) (by omega)
            have hsz2 := joinTo_mono l sep (show j + 1 + 1 ≤ n + 2 by omega)
            have hj46 := HJ.out
            have hsz3 : (joinTo l sep (j + 1 + 1)).size = (joinTo l sep (j + 1)).size + sep.size + (nthS l (j + 1)).size := by rw [hsz1, ByteArray.size_append, ByteArray.size_append]
            have HE := Lib.hid hsz1
            have hbc := Lib.byteCells_length (joinTo l sep (j + 1)).data.toList
            have hbc2 := Lib.byteCells_length (joinTo l sep (j + 1) ++ sep).data.toList
            simp only [Array.length_toList, ByteArray.size_data, ByteArray.size_append] at hbc hbc2
            have hl1 : (Lib.byteCells (joinTo l sep (j + 1)).data.toList).length + sep.size ≤ 140737488355328 := by omega
            have hl2 : (Lib.byteCells (joinTo l sep (j + 1) ++ sep).data.toList).length + (nthS l (j + 1)).size ≤ 140737488355328 := by omega
            have HL1 := Lib.hid hl1
            have HL2 := Lib.hid hl2
            clear hsz1 hsz2 hj46 hsz3 hbc hbc2 hl1 hl2
            go_wp2_with fail
            refine (Tryd.Builder_WriteString B B _ sep _ (.inr HBT.out) HL1.out hsB).mono ?_
            rintro e w5 ⟨rfl, hbt5, hb5⟩
            replace hbel := hbel.trans hb5
            replace hsB : B ≤ w5.heap.size := by have := hbel.size; rw [HB.out]; exact this
            replace c1 : w5.cell? ⟨b, off + 1 + j, none⟩ = some (.string (nthS l (j + 1))) := by rw [show off + 1 + j = off + (j + 1) by omega]; exact HC2.out _ hbel (j + 1) (by omega)
            rw [cells_append] at hbt5
            replace HBT := Lib.hid hbt5
            clear hbt5 hb5
            go_wp2_with fail
            refine (Tryd.Builder_WriteString B B _ (nthS l (j + 1)) _ (.inr HBT.out) HL2.out hsB).mono ?_
            rintro e w6 ⟨rfl, hbt6, hb6⟩
            replace hbel := hbel.trans hb6
            rw [cells_append] at hbt6
            replace HBT := Lib.hid hbt6
            clear hbt6 hb6 c1 hsB
            go_wp2_with fail
            go_roundw
            case rel => exact ⟨j + 1, by omega, by go_num, by rw [HE.out]; exact HBT.out, hbel⟩
            case measure => simp [intOf]; omega
          · obtain rfl : j = n + 1 := by omega
            have F : Hid (joinF l sep = joinTo l sep (n + 1 + 1)) := by unfold joinF; rw [HN.out]; exact Lib.hid rfl
            go_wp2_with fail
            refine (Tryd.Builder_String_any B B _ _ (.inr HBT.out) hsB).mono ?_
            rintro e w5 ⟨rfl, hb5⟩
            replace hbel := hbel.trans hb5
            clear hb5
            go_wp2_with fail
            go_ret
            exact ⟨ret_str (by rw [F.out]), by rw [← HB.out]; exact hbel⟩
end Go.Proofs.YtklbehapbchnaaaDoor
namespace Go.Proofs.YtklbehapbchnaaaDoor
set_option linter.unusedVariables false
section
variable {α : Type} [DecidableEq α]
end
end Go.Proofs.YtklbehapbchnaaaDoor
namespace Go.Proofs.YtklbehapbchnaaaDoor
set_option linter.unusedVariables false
section
variable {α : Type} (F : List α → Prop) (N : List α → List α → Prop)
variable {F N}
end
end Go.Proofs.YtklbehapbchnaaaDoor
namespace Go.Proofs.YtklbehapbchnaaaDoor
open Go.RowKit
set_option linter.unusedVariables false
/-- an answer that tells whether P -/
def RetP (P : Prop) (w : World) (e : Ending) (w' : World) : Prop := ∃ b : Bool, (b = true ↔ P) ∧ e = .returned (.bool b) ∧ Below w.heap.size w w'
theorem RetP.no {P : Prop} {w w' : World} (h : ¬ P) (hb : Below w.heap.size w w') : RetP P w (.returned (.bool false)) w' := ⟨false, ⟨fun h => (by cases h), fun h2 => absurd h2 h⟩, rfl, hb⟩
end Go.Proofs.YtklbehapbchnaaaDoor
namespace Go.Proofs.YtklbehapbchnaaaDoor
open Go.RowKit
set_option linter.unusedVariables false
theorem StrsIn.take {w : World} {b off : Nat} {l : List ByteArray} (h : ∀ j, j < l.length → w.cell? ⟨b, off + j, none⟩ = some (.string (nthS l j))) (i : Nat) (hi : i ≤ l.length) : StrsIn w (some ⟨b, off, none⟩) (l.take i) := by
  refine .inr ⟨b, off, rfl, fun j hj => ?_⟩
  have hj2 : j < i := by simpa using Nat.lt_of_lt_of_le hj (by simp; omega)
  rw [h j (by omega), List.getElem_map, List.getElem_take, nthS_lt (by omega)]
end Go.Proofs.YtklbehapbchnaaaDoor
namespace Go.Proofs.YtklbehapbchnaaaDoor
open Go.RowKit
set_option linter.unusedVariables false
set_option maxHeartbeats 400000 in
theorem implWordOk_any (k : Int) (s : ByteArray) (w : World) (hs : s.size ≤ maxLen) :
    Calls Tryd.prog 90 #[.int .i64 k, .string s] w fun e w' => e = .returned (.bool (wordOkB k s)) ∧ w = w' := by
  cases hk : inB k 1 4
  · have F := Lib.hid (wordOk_notk (s := s) hk)
    unfold maxLen at hs
    go_enter Tryd.func90, Tryd.ntmps90
    go_wp2_with (go_at_call 46; refine (within_any _ _ _ _).mono ?_; rintro e w' ⟨h2, rfl⟩; rw [hk] at h2; subst h2)
    go_ret
    exact ⟨ret_bool F.out.symm, rfl⟩
  have ⟨hk1, hk2⟩ := inB_bounds hk
  by_cases hl : 16 < s.size
  · have F := Lib.hid (wordOk_long (k := k) hl)
    unfold maxLen at hs
    go_enter Tryd.func90, Tryd.ntmps90
    go_wp2_with (go_at_call 46; refine (within_any _ _ _ _).mono ?_; rintro e w' ⟨h2, rfl⟩; rw [hk] at h2; subst h2)
    go_ret
    exact ⟨ret_bool F.out.symm, rfl⟩
  · have G := Lib.hid (wordOk_all (s := s) hk (by omega))
    have HS := Lib.hid hs
    unfold maxLen at hs
    go_enter Tryd.func90, Tryd.ntmps90
    go_wp2_with (first | (go_at_call 46; refine (within_any _ _ _ _).mono ?_; rintro e w' ⟨h2, rfl⟩; rw [hk] at h2; subst h2) | (go_at_call 111; refine (hasLetters_any _ _ _ HS.out (by omega) (by omega)).mono ?_; rintro e w' ⟨rfl, rfl⟩))
    go_ret
    exact ⟨ret_bool G.out.symm, rfl⟩
end Go.Proofs.YtklbehapbchnaaaDoor
namespace Go.Proofs.YtklbehapbchnaaaDoor
open Go.RowKit
set_option linter.unusedVariables false
def TwoB (w wr : World) (v : Value) (xs : List Value) (u : Value) (ys : List Value) : Prop :=
  Bld 9 1 w wr v xs.length xs ∧ Bld 3 1 w wr u ys.length ys ∧ ∀ k, v.ownBlock = some k → u.ownBlock ≠ some k
theorem TwoB.later {w wr wr' : World} {v u : Value} {xs ys : List Value} (h : TwoB w wr v xs u ys) (hb : Below wr.heap.size wr wr') : TwoB w wr' v xs u ys := ⟨h.1.later hb, h.2.1.later hb, h.2.2⟩
theorem keptB {T : TypeId} {w wr wr' : World} {v : Value} {n : Nat} {xs : List Value} {own : Option Nat} (h : Bld T 1 w wr v n xs) (hg : wr.grownBy wr' own) (hne : ∀ k, v.ownBlock = some k → own ≠ some k) (ho : ∀ k, own = some k → w.heap.size ≤ k) : Bld T 1 w wr' v n xs := by
  refine ⟨h.1.kept hg ?_, h.2.grown hg h.2.size ho⟩
  cases hv : v.ownBlock with
  | none => exact .inl rfl
  | some k => exact .inr fun e => hne k hv (e.symm ▸ rfl)
theorem setGrownB (w : World) (B o : Nat) (v : Value) : w.grownBy (w.setCell ⟨B, o, none⟩ v) (some B) := by
  have hszc : (w.setCell ⟨B, o, none⟩ v).heap.size = w.heap.size := by simp
  exact ⟨rfl, rfl, rfl, by rw [hszc]; exact Nat.le_refl _, fun k hk hne => by
    unfold World.setCell
    rw [Array.getElem?_modify, if_neg (fun e : B = k => hne (by rw [e]))]⟩
theorem owns_slot {w : World} {base : Nat} {T : TypeId} {v : Value} {n : Nat} {xs : List Value} (h : w.ownsRow base T 1 v n xs) (h0 : 0 < n) : ∃ g cap, v = .slice (some ⟨g, 0, none⟩) n cap := by
  rcases h.2 with ⟨hv, h1⟩ | ⟨g, cap', cur, hv, _⟩
  · omega
  · exact ⟨g, cap', hv⟩
end Go.Proofs.YtklbehapbchnaaaDoor
namespace Go.Proofs.YtklbehapbchnaaaDoor
open Go.RowKit
set_option linter.unusedVariables false
theorem Tryd.infoU8 : (Tryd.prog.info? 5).map (fun i => (i.zero, i.size, i.bytes)) = some (some (.int .u8 0), 1, 1) := by kernel_rfl
/-- bytes as cells -/
def u8V (L : List UInt8) : List Value := L.map fun b => .int .u8 ((b.toNat : Nat) : Int)
theorem u8V_len (L : List UInt8) : (u8V L).length = L.length := by simp [u8V]
theorem u8V_app (L : List UInt8) (c : UInt8) : u8V (L ++ [c]) = u8V L ++ [.int .u8 ((c.toNat : Nat) : Int)] := by simp [u8V]
theorem row_cut {w : World} {base g n cap : Nat} {T : TypeId} {xs : List Value} (h : w.ownsRow base T 1 (.slice (some ⟨g, 0, none⟩) (n + 1) cap) (n + 1) xs) : w.ownsRow base T 1 (.slice (some ⟨g, 0, none⟩) n cap) n xs.dropLast := by
  obtain ⟨h1, h2⟩ := h
  refine ⟨by rw [List.length_dropLast, h1]; omega, ?_⟩
  rcases h2 with ⟨hv, h0⟩ | ⟨g', cap', cur, hv, hb, hg, hn, hc, hs, ht⟩
  · cases hv
  · simp only [Value.slice.injEq, Option.some.injEq, Addr.mk.injEq, and_true, true_and] at hv
    obtain ⟨rfl, rfl⟩ := hv
    refine .inr ⟨g, cap, cur, rfl, hb, hg, by omega, hc, hs, ?_⟩
    rw [← ht, List.dropLast_eq_take, List.take_take, List.length_take]
    congr 1
    have : cur.toList.length = cap * 1 := by rw [Array.length_toList, hs]
    omega
def frT (g : Nat) (s : ByteArray) (i : Nat) : List UInt8 := frL g (s.data.toList.take i)
theorem frT_frB (g : Nat) (s : ByteArray) (i : Nat) : (⟨(frT g s i).toArray⟩ : ByteArray) = frB g s i := rfl
theorem invN_inv {g c d : Nat} (h1 : 1 ≤ g) (h2 : g ≤ 2) (hc : letG g c) (hd : letG g d) : invN g c = d ↔ c = invN g d := by
  obtain ⟨c1, c2⟩ := hc
  obtain ⟨d1, d2⟩ := hd
  have hg : g = 1 ∨ g = 2 := by omega
  unfold invN
  rcases hg with rfl | rfl <;> omega
theorem frT_add {g : Nat} {s : ByteArray} {i : Nat} {T : List UInt8} (h : i < s.size) (hT : frT g s i = T) (hn : T.length = 0 ∨ ∃ m, ∃ hm : m < T.length, T.length = m + 1 ∧ T[m].toNat ≠ invN g s[i].toNat) : frT g s (i + 1) = T ++ [s[i]] := by
  unfold frT at *
  rw [frL_succ (by simpa using h), hT]
  unfold frS
  rw [if_neg]
  · rfl
  · rintro ⟨h1, h2⟩
    rcases hn with h0 | ⟨m, hm, hm2, hne⟩
    · exact h1 (List.eq_nil_of_length_eq_zero h0)
    · refine hne ?_
      rw [List.getLast?_eq_getElem?, show T.length - 1 = m by omega, List.getElem?_eq_getElem hm] at h2
      exact h2
theorem frT_del {g : Nat} {s : ByteArray} {i m : Nat} {T : List UInt8} (h : i < s.size) (hT : frT g s i = T) (hm : m < T.length) (hm2 : T.length = m + 1) (he : T[m].toNat = invN g s[i].toNat) : frT g s (i + 1) = T.dropLast := by
  unfold frT at *
  rw [frL_succ (by simpa using h), hT]
  unfold frS
  rw [if_pos]
  refine ⟨fun e => ?_, ?_⟩
  · rw [e] at hm2; simp at hm2
  · rw [List.getLast?_eq_getElem?, show T.length - 1 = m by omega, List.getElem?_eq_getElem hm]
    exact he
theorem frT_len (g : Nat) (s : ByteArray) (i : Nat) : (frT g s i).length ≤ i := frL_len _ _ _
theorem frT_mem {g : Nat} {s : ByteArray} {i : Nat} {x : UInt8} (h : x ∈ frT g s i) : x ∈ s.data.toList := frL_mem h
theorem u8V_cut (T : List UInt8) : (u8V T).dropLast = u8V T.dropLast := by unfold u8V; rw [List.map_dropLast]
theorem areInverse_any (g c d : Nat) (w : World) (h1 : 1 ≤ g) (h2 : g ≤ 2) (hc : letG g c) (hd : letG g d) :
    Calls Tryd.prog 91 #[.int .i64 (g : Nat), .int .u8 (c : Nat), .int .u8 (d : Nat)] w fun e w' => e = .returned (.bool (decide (invN g c = d))) ∧ w = w' := by
  obtain ⟨c1, c2⟩ := hc
  obtain ⟨d1, d2⟩ := hd
  have hc6 : (g = 1 ∧ (c = 97 ∨ c = 98) ∧ (d = 97 ∨ d = 98)) ∨ (g = 2 ∧ (c = 97 ∨ c = 98 ∨ c = 99 ∨ c = 100) ∧ (d = 97 ∨ d = 98 ∨ d = 99 ∨ d = 100)) := by omega
  rcases hc6 with ⟨rfl, rfl | rfl, rfl | rfl⟩ | ⟨rfl, rfl | rfl | rfl | rfl, rfl | rfl | rfl | rfl⟩
  all_goals
    go_enter Tryd.func91, Tryd.ntmps91
    go_wp2_with fail
    go_ret
    exact ⟨rfl, rfl⟩
theorem isFree_any (g : Int) (s : ByteArray) (w : World) (hs : s.size ≤ maxLen) :
    Calls Tryd.prog 65 #[.int .i64 g, .string s] w fun e w' => e = .returned (.bool (freeOkB g s)) ∧ w = w' := by
  cases hg : inB g 1 2
  · have F : Hid (false = freeOkB g s) := Lib.hid (by unfold freeOkB; rw [hg]; rfl)
    go_enter Tryd.func65, Tryd.ntmps65
    go_wp2_with (go_at_call 46; refine (within_any _ _ _ _).mono ?_; rintro e w' ⟨rfl, rfl⟩)
    go_ret
    exact ⟨ret_bool F.out, rfl⟩
  · have hb := inB_bounds hg
    have hwr : IntKind.i64.wrap (2 * g) = 2 * g := IntWalk.i64_in _ ⟨by omega, by omega⟩
    have F : Hid (wordOkB (2 * g) s = freeOkB g s) := Lib.hid (by unfold freeOkB; rw [hg]; rfl)
    go_enter Tryd.func65, Tryd.ntmps65
    go_wp2_with (first
      | (go_at_call 46; refine (within_any _ _ _ _).mono ?_; rintro e w' ⟨rfl, rfl⟩)
      | (go_at_call 90; refine (implWordOk_any _ _ _ hs).mono ?_; rintro e w' ⟨rfl, rfl⟩))
    go_ret
    exact ⟨ret_bool F.out, rfl⟩
set_option maxRecDepth 20000 in
set_option maxHeartbeats 2000000 in
theorem freed_any (g : Nat) (s : ByteArray) (w : World) (h : freeOkB (g : Nat) s = true) :
    Calls Tryd.prog 66 #[.int .i64 (g : Nat), .string s] w fun e w' => e = .returned (.string (frB g s s.size)) ∧ Below w.heap.size w w' := by
  obtain ⟨⟨hg1, hg2⟩, hs16, hlet⟩ := freeOk_let h
  have HLT := Lib.hid hlet
  clear hlet h
  go_enter Tryd.func66, Tryd.ntmps66
  go_wp2_with fail
  go_loopw [5, 10] (fun vo vi wr => ∃ i : Nat, i ≤ s.size ∧ vi = .int .i64 (i : Nat) ∧ Hid (Bld 5 1 w wr vo (frT g s i).length (u8V (frT g s i)))) (fun _ vi _ => s.size - (intOf vi).toNat)
  case atStart => exact ⟨0, Nat.zero_le _, rfl, Lib.hid (Bld.nil _ _ (Below.refl _ _))⟩
  case round =>
    obtain ⟨i, hi, rfl, HC⟩ := hrel
    obtain ⟨a5, c5, rfl⟩ := owns_form HC.out.1
    by_cases hil : i < s.size
    · have hii : (i : Int) < (s.size : Int) := by omega
      obtain ⟨T, hT⟩ : ∃ T, frT g s i = T := ⟨_, rfl⟩
      have hTz : T.length ≤ i := by rw [← hT]; exact frT_len g s i
      have hmem : ∀ x ∈ s.data.toList, letG g x.toNat := HLT.out
      have hq8 : letG g s[i].toNat := hmem _ (by have := List.getElem_mem (l := s.data.toList) (n := i) (by simpa using hil); rwa [Array.getElem_toList] at this)
      have HT := Lib.hid hT
      have HN1 : Hid (∀ u ∈ [Value.int .u8 ((s[i].toNat : Nat) : Int)], u.oneCell' = true) := Lib.hid (by simp [Value.oneCell'])
      have HN2 : Hid (T.length + 1 ≤ maxLen) := Lib.hid (by unfold maxLen; omega)
      have HN3 : Hid ((T.length + 1) * 1 ≤ 140737488355328) := Lib.hid (by omega)
      rw [hT] at HC
      rw [hT]
      rcases Nat.eq_zero_or_pos T.length with h0 | h0
      · have HN : Hid (frT g s (i + 1) = T ++ [s[i]]) := Lib.hid (frT_add hil hT (.inl h0))
        have h0i : ¬ (0 : Int) < (T.length : Int) := by omega
        have h0n : ¬ 0 < T.length := by omega
        clear hT hmem hq8 h0
        go_upto_region 6 with fail
        refine region_each (fun W => Below wr.heap.size wr W) (fun W W2 => Below W.heap.size W W2) (fun u => by simp only [fPut, Act.put, List.setIfInBounds_toArray, List.set_cons_succ, List.set_cons_zero, Nat.zero_add, Nat.reduceAdd]; rfl) (by kernel_rfl) (by kernel_rfl) (by kernel_rfl) (Below.drew (Below.refl _ _)) ?_
        apply each_read (fun _ => Below.refl _ _) rfl
        · intro u wv hC hf
          clear hf
          go_simp
          try rfl
        apply each_read (fun _ => Below.refl _ _) rfl
        · intro u wv hC hf
          obtain ⟨d0_0, -⟩ := hf
          have e0 : u 0 = _ := d0_0 rfl
          clear d0_0
          go_simp
          try rfl
        apply each_read (fun _ => Below.refl _ _) rfl
        · intro u wv hC hf
          obtain ⟨d1_0, -⟩ := hf
          have e1 : u 1 = _ := d1_0 rfl
          clear d1_0
          go_simp
          try rfl
        refine each_off ?_ ?_
        · intro u wv hC hf
          obtain ⟨d2_0, -⟩ := hf
          have e2 : u 2 = _ := d2_0 rfl
          clear d2_0
          exact wanted_at rfl rfl rfl e2 rfl
        refine each_off ?_ ?_
        · intro u wv hC hf
          obtain ⟨d2_0, -⟩ := hf
          have e2 : u 2 = _ := d2_0 rfl
          clear d2_0
          exact wanted_at rfl rfl rfl e2 rfl
        refine each_off ?_ ?_
        · intro u wv hC hf
          obtain ⟨d2_0, -⟩ := hf
          have e2 : u 2 = _ := d2_0 rfl
          clear d2_0
          exact wanted_at rfl rfl rfl e2 rfl
        refine each_off ?_ ?_
        · intro u wv hC hf
          obtain ⟨d5_0, d2_1, -⟩ := hf
          have e5 : u 5 = _ := d5_0 rfl
          clear d5_0
          have e2 : u 2 = _ := d2_1 rfl
          clear d2_1
          exact wanted_at rfl rfl rfl e2 rfl
        refine each_off ?_ ?_
        · intro u wv hC hf
          obtain ⟨d4_0, d6_1, d2_2, -⟩ := hf
          have e4 : u 4 = _ := d4_0 rfl
          clear d4_0
          have e6 : u 6 = _ := d6_1 rfl
          clear d6_1
          have e2 : u 2 = _ := d2_2 rfl
          clear d2_2
          exact wanted_at rfl rfl rfl e2 rfl
        refine each_off ?_ ?_
        · intro u wv hC hf
          obtain ⟨d7_0, d2_1, -⟩ := hf
          have e7 : u 7 = _ := d7_0 rfl
          clear d7_0
          have e2 : u 2 = _ := d2_1 rfl
          clear d2_1
          exact wanted_at rfl rfl rfl e2 rfl
        refine each_off ?_ ?_
        · intro u wv hC hf
          obtain ⟨d2_0, -⟩ := hf
          have e2 : u 2 = _ := d2_0 rfl
          clear d2_0
          exact wanted_at rfl rfl rfl e2 rfl
        refine each_off ?_ ?_
        · intro u wv hC hf
          obtain ⟨d2_0, -⟩ := hf
          have e2 : u 2 = _ := d2_0 rfl
          clear d2_0
          exact wanted_at rfl rfl rfl e2 rfl
        refine each_off ?_ ?_
        · intro u wv hC hf
          obtain ⟨d9_0, d10_1, d2_2, -⟩ := hf
          have e9 : u 9 = _ := d9_0 rfl
          clear d9_0
          have e10 : u 10 = _ := d10_1 rfl
          clear d10_1
          have e2 : u 2 = _ := d2_2 rfl
          clear d2_2
          exact wanted_at rfl rfl rfl e2 rfl
        refine each_off ?_ ?_
        · intro u wv hC hf
          obtain ⟨d3_0, d8_1, d11_2, d2_3, d2_4, -⟩ := hf
          have e3 : u 3 = _ := d3_0 rfl
          clear d3_0
          have e8 : u 8 = _ := d8_1 rfl
          clear d8_1
          have e11 : u 11 = _ := d11_2 rfl
          clear d11_2
          have e2 : u 2 = _ := d2_3 rfl
          clear d2_3
          clear d2_4
          exact wanted_at rfl rfl rfl e2 rfl
        apply each_read (fun _ => Below.refl _ _) rfl
        · intro u wv hC hf
          obtain ⟨d2_0, d12_1, -⟩ := hf
          have e2 : u 2 = _ := d2_0 rfl
          clear d2_0
          have e12 : u 12 = _ := d12_1 rfl
          clear d12_1
          go_simp
          try rfl
        intro u wv hC hall
        obtain ⟨a0, a1, a2, a3, a4, a5, a6, a7, a8, a9, a10, a11, a12, a13, -⟩ := hall
        have e0 : u 0 = _ := a0
        clear a0
        have e1 : u 1 = _ := a1
        clear a1
        have e2 : u 2 = _ := a2
        clear a2
        have e3 : u 3 = _ := a3
        clear a3
        have e4 : u 4 = _ := a4
        clear a4
        have e5 : u 5 = _ := a5
        clear a5
        have e6 : u 6 = _ := a6
        clear a6
        have e7 : u 7 = _ := a7
        clear a7
        have e8 : u 8 = _ := a8
        clear a8
        have e9 : u 9 = _ := a9
        clear a9
        have e10 : u 10 = _ := a10
        clear a10
        have e11 : u 11 = _ := a11
        clear a11
        have e12 : u 12 = _ := a12
        clear a12
        have e13 : u 13 = _ := a13
        clear a13
        simp only [e0, e1, e2, e3, e4, e5, e6, e7, e8, e9, e10, e11, e12, e13]
        clear e0 e1 e2 e3 e4 e5 e6 e7 e8 e9 e10 e11 e12 e13
        have HC2 := Lib.hid (HC.out.later hC)
        clear hC HC
        go_wp2_with (at_builtin; refine wpList_app1 rfl _ _ rfl Tryd.underlying71 Tryd.infoU8 rfl (by decide) rfl HC2.out rfl rfl HN1.out HN2.out HN3.out ?c1)
        intro v6 w6 hb6
        have HB6 : Hid (Bld 5 1 w w6 v6 (frT g s (i + 1)).length (u8V (frT g s (i + 1)))) := Lib.hid (by
          rw [HN.out, u8V_app, List.length_append]; exact hb6)
        clear hb6
        go_wp2_with fail
        go_roundw
        case rel => exact ⟨i + 1, by omega, by go_num, HB6⟩
        case measure => simp [intOf]; omega
      · obtain ⟨m, hm⟩ : ∃ m, T.length = m + 1 := ⟨T.length - 1, by omega⟩
        have hml : m < T.length := by omega
        obtain ⟨g0, c0, he0⟩ := owns_slot HC.out.1 h0
        simp only [Value.slice.injEq, true_and] at he0
        obtain ⟨rfl, rfl⟩ := he0
        have HX : Hid (∀ W, Below wr.heap.size wr W → W.cell? ⟨g0, m, none⟩ = some (.int .u8 ((T[m].toNat : Nat) : Int))) := Lib.hid (fun W hW => by
          have h1 := HC.out.1.cellAt m (by omega)
          rw [hW.cell (World.block_lt_of_cell? wr _ (h1.trans (List.getElem?_eq_getElem (by rw [u8V_len]; exact hml)))), h1]
          simp [u8V, hml])
        have hsub : (T.length : Int) - 1 = (m : Int) := by omega
        have hwm : IntKind.i64.wrap (m : Int) = (m : Int) := IntWalk.i64_in _ ⟨by omega, by omega⟩
        have hmi : (m : Int) < (T.length : Int) := by omega
        have h0i : (0 : Int) < (T.length : Int) := by omega
        have h0n : 0 < T.length := h0
        have hlm : letG g T[m].toNat := hmem _ (frT_mem (g := g) (i := i) (by rw [hT]; exact List.getElem_mem hml))
        have HIV := Lib.hid (fun W => areInverse_any g T[m].toNat s[i].toNat W hg1 hg2 hlm hq8)
        have HII := Lib.hid (invN_inv hg1 hg2 hlm hq8)
        have HM := Lib.hid hm
        clear hT hmem hq8 hlm h0 hm
        go_upto_region 6 with fail
        refine region_each (fun W => Below wr.heap.size wr W) (fun W W2 => Below W.heap.size W W2) (fun u => by simp only [fPut, Act.put, List.setIfInBounds_toArray, List.set_cons_succ, List.set_cons_zero, Nat.zero_add, Nat.reduceAdd]; rfl) (by kernel_rfl) (by kernel_rfl) (by kernel_rfl) (Below.drew (Below.refl _ _)) ?_
        apply each_read (fun _ => Below.refl _ _) rfl
        · intro u wv hC hf
          have z0 := HX.out _ hC
          clear hf
          go_simp
          try rfl
        apply each_read (fun _ => Below.refl _ _) rfl
        · intro u wv hC hf
          have z0 := HX.out _ hC
          obtain ⟨d0_0, -⟩ := hf
          have e0 : u 0 = _ := d0_0 rfl
          clear d0_0
          go_simp
          try rfl
        apply each_read (fun _ => Below.refl _ _) rfl
        · intro u wv hC hf
          have z0 := HX.out _ hC
          obtain ⟨d1_0, -⟩ := hf
          have e1 : u 1 = _ := d1_0 rfl
          clear d1_0
          go_simp
          try rfl
        apply each_readG (fun _ => Below.refl _ _)
        · intro u wv hC hf
          have z0 := HX.out _ hC
          obtain ⟨d2_0, -⟩ := hf
          have e2 : u 2 = _ := d2_0 rfl
          clear d2_0
          refine ⟨wanted_at rfl rfl rfl e2 rfl, ?_⟩
          go_simp
          try rfl
        apply each_readG (fun _ => Below.refl _ _)
        · intro u wv hC hf
          have z0 := HX.out _ hC
          obtain ⟨d2_0, -⟩ := hf
          have e2 : u 2 = _ := d2_0 rfl
          clear d2_0
          refine ⟨wanted_at rfl rfl rfl e2 rfl, ?_⟩
          go_simp
          try rfl
        apply each_readG (fun _ => Below.refl _ _)
        · intro u wv hC hf
          have z0 := HX.out _ hC
          obtain ⟨d2_0, -⟩ := hf
          have e2 : u 2 = _ := d2_0 rfl
          clear d2_0
          refine ⟨wanted_at rfl rfl rfl e2 rfl, ?_⟩
          go_simp
          try rfl
        apply each_readG (fun _ => Below.refl _ _)
        · intro u wv hC hf
          have z0 := HX.out _ hC
          obtain ⟨d5_0, d2_1, -⟩ := hf
          have e5 : u 5 = _ := d5_0 rfl
          clear d5_0
          have e2 : u 2 = _ := d2_1 rfl
          clear d2_1
          refine ⟨wanted_at rfl rfl rfl e2 rfl, ?_⟩
          go_simp
          try rfl
        apply each_readG (fun _ => Below.refl _ _)
        · intro u wv hC hf
          have z0 := HX.out _ hC
          obtain ⟨d4_0, d6_1, d2_2, -⟩ := hf
          have e4 : u 4 = _ := d4_0 rfl
          clear d4_0
          have e6 : u 6 = _ := d6_1 rfl
          clear d6_1
          have e2 : u 2 = _ := d2_2 rfl
          clear d2_2
          refine ⟨wanted_at rfl rfl rfl e2 rfl, ?_⟩
          go_simp
          try rfl
        apply each_readG (fun _ => Below.refl _ _)
        · intro u wv hC hf
          have z0 := HX.out _ hC
          obtain ⟨d7_0, d2_1, -⟩ := hf
          have e7 : u 7 = _ := d7_0 rfl
          clear d7_0
          have e2 : u 2 = _ := d2_1 rfl
          clear d2_1
          refine ⟨wanted_at rfl rfl rfl e2 rfl, ?_⟩
          go_simp
          try rfl
        apply each_readG (fun _ => Below.refl _ _)
        · intro u wv hC hf
          have z0 := HX.out _ hC
          obtain ⟨d2_0, -⟩ := hf
          have e2 : u 2 = _ := d2_0 rfl
          clear d2_0
          refine ⟨wanted_at rfl rfl rfl e2 rfl, ?_⟩
          go_simp
          try rfl
        apply each_readG (fun _ => Below.refl _ _)
        · intro u wv hC hf
          have z0 := HX.out _ hC
          obtain ⟨d2_0, -⟩ := hf
          have e2 : u 2 = _ := d2_0 rfl
          clear d2_0
          refine ⟨wanted_at rfl rfl rfl e2 rfl, ?_⟩
          go_simp
          try rfl
        apply each_readG (fun _ => Below.refl _ _)
        · intro u wv hC hf
          have z0 := HX.out _ hC
          obtain ⟨d9_0, d10_1, d2_2, -⟩ := hf
          have e9 : u 9 = _ := d9_0 rfl
          clear d9_0
          have e10 : u 10 = _ := d10_1 rfl
          clear d10_1
          have e2 : u 2 = _ := d2_2 rfl
          clear d2_2
          refine ⟨wanted_at rfl rfl rfl e2 rfl, ?_⟩
          go_simp
          try rfl
        apply each_callRG
        · intro u wv hC hf
          have z0 := HX.out _ hC
          obtain ⟨d3_0, d8_1, d11_2, d2_3, d2_4, -⟩ := hf
          have e3 : u 3 = _ := d3_0 rfl
          clear d3_0
          have e8 : u 8 = _ := d8_1 rfl
          clear d8_1
          have e11 : u 11 = _ := d11_2 rfl
          clear d11_2
          have e2 : u 2 = _ := d2_3 rfl
          clear d2_3
          clear d2_4
          refine ⟨wanted_at rfl rfl rfl e2 rfl, ?_⟩
          apply Exists.intro; apply Exists.intro; apply And.intro
          · go_simp; exact ⟨rfl, rfl⟩
          · refine (HIV.out _).mono ?_
            rintro e w3 ⟨rfl, rfl⟩
            exact ⟨rfl, hC, Below.refl _ _⟩
        apply each_read (fun _ => Below.refl _ _) rfl
        · intro u wv hC hf
          have z0 := HX.out _ hC
          obtain ⟨d2_0, d12_1, -⟩ := hf
          have e2 : u 2 = _ := d2_0 rfl
          clear d2_0
          have e12 : u 12 = _ := d12_1 rfl
          clear d12_1
          go_simp
          try rfl
        intro u wv hC hall
        obtain ⟨a0, a1, a2, a3, a4, a5, a6, a7, a8, a9, a10, a11, a12, a13, -⟩ := hall
        have e0 : u 0 = _ := a0
        clear a0
        have e1 : u 1 = _ := a1
        clear a1
        have e2 : u 2 = _ := a2
        clear a2
        have e3 : u 3 = _ := a3
        clear a3
        have e4 : u 4 = _ := a4
        clear a4
        have e5 : u 5 = _ := a5
        clear a5
        have e6 : u 6 = _ := a6
        clear a6
        have e7 : u 7 = _ := a7
        clear a7
        have e8 : u 8 = _ := a8
        clear a8
        have e9 : u 9 = _ := a9
        clear a9
        have e10 : u 10 = _ := a10
        clear a10
        have e11 : u 11 = _ := a11
        clear a11
        have e12 : u 12 = _ := a12
        clear a12
        have e13 : u 13 = _ := a13
        clear a13
        simp only [e0, e1, e2, e3, e4, e5, e6, e7, e8, e9, e10, e11, e12, e13]
        clear e0 e1 e2 e3 e4 e5 e6 e7 e8 e9 e10 e11 e12 e13
        have HC2 := Lib.hid (HC.out.later hC)
        clear hC HC HX
        cases hq : decide (invN g T[m].toNat = s[i].toNat)
        · have HN : Hid (frT g s (i + 1) = T ++ [s[i]]) := Lib.hid (frT_add hil HT.out (.inr ⟨m, hml, HM.out, fun e => by rw [decide_eq_false_iff_not] at hq; exact hq (HII.out.2 e)⟩))
          clear hq
          go_wp2_with (at_builtin; refine wpList_app1 rfl _ _ rfl Tryd.underlying71 Tryd.infoU8 rfl (by decide) rfl HC2.out rfl rfl HN1.out HN2.out HN3.out ?c2)
          intro v6 w6 hb6
          have HB6 : Hid (Bld 5 1 w w6 v6 (frT g s (i + 1)).length (u8V (frT g s (i + 1)))) := Lib.hid (by
            rw [HN.out, u8V_app, List.length_append]; exact hb6)
          clear hb6
          go_wp2_with fail
          go_roundw
          case rel => exact ⟨i + 1, by omega, by go_num, HB6⟩
          case measure => simp [intOf]; omega
        · have HN : Hid (frT g s (i + 1) = T.dropLast) := Lib.hid (frT_del hil HT.out hml HM.out (HII.out.1 (of_decide_eq_true hq)))
          have hmc : m ≤ c5 := by
            have h1 := HC2.out.1.2
            rcases h1 with ⟨hv, _⟩ | ⟨g', cap', cur, hv, _, _, hn, _⟩
            · cases hv
            · simp only [Value.slice.injEq] at hv
              obtain ⟨_, _, rfl⟩ := hv
              omega
          have HB6 : Hid (Bld 5 1 w wv (.slice (some ⟨g0, 0, none⟩) m c5) (frT g s (i + 1)).length (u8V (frT g s (i + 1)))) := Lib.hid (by
            rw [HN.out, ← u8V_cut, List.length_dropLast, HM.out]
            have h1 := HC2.out.1
            rw [HM.out] at h1
            exact ⟨row_cut h1, HC2.out.2⟩)
          clear hq HC2
          go_wp2_with fail
          go_roundw
          case rel => exact ⟨i + 1, by omega, by go_num, HB6⟩
          case measure => simp [intOf]; omega
    · obtain rfl : i = s.size := by omega
      have HFR := Lib.hid (frT_frB g s s.size)
      obtain ⟨fb, hfb⟩ : ∃ fb, frB g s s.size = fb := ⟨_, rfl⟩
      have HFB := Lib.hid hfb
      rw [hfb] at HFR
      clear hfb
      generalize frT g s s.size = T at *
      cases a5 with
      | none =>
        have h0 : T.length = 0 := by
          rcases HC.out.1.2 with ⟨_, h0⟩ | ⟨g', cap', cur, hv, _⟩
          · exact h0
          · cases hv
        obtain rfl : T = [] := List.eq_nil_of_length_eq_zero h0
        have hcb := fun W l c => run_convert_bytes_nil (P := Tryd.prog) (w := W) 71 5 Tryd.underlying71 Tryd.underlying5 l c 9 Tryd.underlying9
        have hfe : fb = ByteArray.empty := HFR.out.symm
        rw [hfe] at HFB
        go_wp2_with fail
        go_ret
        exact ⟨congrArg (fun x => Ending.returned (.string x)) HFB.out.symm, HC.out.2⟩
      | some ad =>
        have hcl := owns_cells HC.out.1
        have hcb := run_convert_bytes_back (P := Tryd.prog) wr 71 9 5 ad c5 T Tryd.underlying71 Tryd.underlying5 Tryd.underlying9 (fun j hj => by
          rcases hcl with h | ⟨b, off, ha, hc⟩
          · have := u8V_len T; rw [h] at this; simp at this; omega
          · have h1 := hc j (by rw [u8V_len]; exact hj)
            rw [Option.some.inj ha, add_off, h1]
            simp [u8V])
        rw [HFR.out] at hcb
        clear hcl
        go_wp2_with fail
        go_ret
        exact ⟨congrArg (fun x => Ending.returned (.string x)) HFB.out.symm, HC.out.2⟩
theorem implFreeForm_any (g : Int) (s : ByteArray) (w : World) (hs : s.size ≤ maxLen) :
    Calls Tryd.prog 47 #[.int .i64 g, .string s] w fun e w' => (e = .returned (.tuple #[.string (if freeOkB g s then frB g.toNat s s.size else ⟨#[]⟩), .bool (freeOkB g s)])) ∧ Below w.heap.size w w' := by
  cases hf : freeOkB g s
  · go_enter Tryd.func47, Tryd.ntmps47
    go_wp2_with (go_at_call 65; refine (isFree_any _ _ _ hs).mono ?_; rintro e w' ⟨rfl, rfl⟩; rw [hf])
    refine bodyPost_ret (v := .tuple #[.string ⟨#[]⟩, .bool false]) ?_ rfl ⟨rfl, Below.refl _ _⟩
    simp [results, Tryd.results47, go_sem]
  · obtain ⟨n, rfl⟩ : ∃ n : Nat, g = (n : Int) := ⟨g.toNat, by
      unfold freeOkB at hf
      rw [Bool.and_eq_true] at hf
      have := inB_bounds hf.1; omega⟩
    have HF := Lib.hid (fun W => freed_any n s W hf)
    go_enter Tryd.func47, Tryd.ntmps47
    go_wp2_with (go_at_call 65; refine (isFree_any _ _ _ hs).mono ?_; rintro e w' ⟨rfl, rfl⟩; rw [hf])
    refine (HF.out _).mono ?_
    rintro e w' ⟨rfl, hb⟩
    go_wp2_with fail
    refine bodyPost_ret (v := .tuple #[.string (frB n s s.size), .bool true]) ?_ rfl ⟨rfl, hb⟩
    simp [results, Tryd.results47, go_sem]
end Go.Proofs.YtklbehapbchnaaaDoor
