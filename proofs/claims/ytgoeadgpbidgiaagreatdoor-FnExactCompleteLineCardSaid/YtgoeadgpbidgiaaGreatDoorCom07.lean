/-
  The laws' own helpers over systems: sz, to, eq.
-/
import Derived.Test.YtgoeadgpbidgiaaGreatDoorCom04
import Derived.Test.YtgoeadgpbidgiaaGreatDoorCom06
import Derived.Test.YtgoeadgpbidgiaaGreatDoorCom03
import Derived.Deep.QuietTactic
namespace Go.Proofs.YtgoeadgpbidgiaaGreatDoor
open Go.RowKit
set_option linter.unusedVariables false
/-- the cells of a list of structs -/
def cellsL {α : Type} (f : α → List Value) (l : List α) : List Value := l.flatMap f
theorem cellsL_app {α : Type} (f : α → List Value) (l m : List α) : cellsL f (l ++ m) = cellsL f l ++ cellsL f m := by simp [cellsL]
theorem cellsL_one {α : Type} (f : α → List Value) (x : α) : cellsL f [x] = f x := by simp [cellsL]
theorem cellsL_nil {α : Type} (f : α → List Value) : cellsL f [] = [] := rfl
theorem cellsL_len {α : Type} {f : α → List Value} {m : Nat} (hf : ∀ x, (f x).length = m) : ∀ l : List α, (cellsL f l).length = l.length * m
  | [] => by simp [cellsL]
  | x :: l => by
    have ih := cellsL_len hf l
    unfold cellsL at *
    rw [List.flatMap_cons, List.length_append, hf, ih, List.length_cons, Nat.succ_mul]
    omega
theorem cellsL_at {α : Type} {f : α → List Value} {m : Nat} (hf : ∀ x, (f x).length = m) : ∀ (l : List α) (j : Nat) (hj : j < l.length) (i : Nat), i < m → (cellsL f l)[j * m + i]? = (f l[j])[i]?
  | [], j, hj, _, _ => by simp at hj
  | x :: l, 0, _, i, hi => by
    unfold cellsL
    rw [List.flatMap_cons, List.getElem?_append_left (by rw [hf]; omega)]
    simp
  | x :: l, j + 1, hj, i, hi => by
    have ih := cellsL_at hf l j (by simpa using hj) i hi
    unfold cellsL at *
    rw [List.flatMap_cons, List.getElem?_append_right (by rw [hf, Nat.succ_mul]; omega), hf]
    rw [show (j + 1) * m + i - m = j * m + i by rw [Nat.succ_mul]; omega, ih]
    rfl
/-- a row of structs -/
def RowsIn {α : Type} (f : α → List Value) (w : World) (a : Option Addr) (l : List α) : Prop := CellsIn w a (cellsL f l)
theorem RowsIn.later {α : Type} {f : α → List Value} {w w' : World} {a : Option Addr} {l : List α} (h : RowsIn f w a l) (hb : Below w.heap.size w w') : RowsIn f w' a l := CellsIn.later h hb
theorem owns_rows {α : Type} {f : α → List Value} {w : World} {base : Nat} {T : TypeId} {size : Nat} {a : Option Addr} {n m cap : Nat} {l : List α} (h : w.ownsRow base T size (.slice a m cap) n (cellsL f l)) : RowsIn f w a l := owns_cells h
theorem RowsIn.cell {α : Type} {f : α → List Value} {m : Nat} (hf : ∀ x, (f x).length = m) (hm : 0 < m) {w : World} {a : Option Addr} {l : List α} (h : RowsIn f w a l) {i : Nat} (hi : i < l.length) :
    ∃ b off, a = some ⟨b, off, none⟩ ∧ b < w.heap.size ∧ ∀ j (hj : j < l.length) c v, (f l[j])[c]? = some v → w.cell? ⟨b, off + j * m + c, none⟩ = some v := by
  have hlen := cellsL_len hf l
  rcases h with h | ⟨b, off, ha, hc⟩
  · rw [h, List.length_nil] at hlen
    have : l.length * m ≠ 0 := Nat.mul_ne_zero (by omega) (by omega)
    omega
  · have key : ∀ j (hj : j < l.length) c v, (f l[j])[c]? = some v → w.cell? ⟨b, off + j * m + c, none⟩ = some v := fun j hj c v hv => by
      have hcm : c < m := by rw [← hf l[j]]; exact (List.getElem?_eq_some_iff.1 hv).1
      have h1 := cellsL_at hf l j hj c hcm
      rw [hv] at h1
      obtain ⟨h2, h3⟩ := List.getElem?_eq_some_iff.1 h1
      have h4 := hc (j * m + c) h2
      rw [h3] at h4
      rw [Nat.add_assoc]
      exact h4
    refine ⟨b, off, ha, ?_, key⟩
    have h0 : 0 < (f l[i]).length := by rw [hf]; exact hm
    exact World.block_lt_of_cell? w _ (key i hi 0 (f l[i])[0] (List.getElem?_eq_getElem h0))
/-- the cells of a step -/
def stV (s : Nat × Nat) : List Value := [.int .i64 (s.1 : Nat), .int .i64 (s.2 : Nat)]
theorem stV_len (s : Nat × Nat) : (stV s).length = 2 := rfl
/-- the cells of a pair -/
def prV (p : ByteArray × Nat × Nat × Nat) : List Value := [.string p.1, .int .i64 (p.2.1 : Nat), .int .i64 0, .int .i64 (p.2.2.1 : Nat), .int .i64 (p.2.2.2 : Nat)]
theorem prV_len (p : ByteArray × Nat × Nat × Nat) : (prV p).length = 5 := rfl
/-- the cells of numbers -/
def nV (n : Nat) : List Value := [.int .i64 (n : Nat)]
theorem nV_len (n : Nat) : (nV n).length = 1 := rfl
end Go.Proofs.YtgoeadgpbidgiaaGreatDoor
namespace Go.Proofs.YtgoeadgpbidgiaaGreatDoor
open Go.RowKit
set_option linter.unusedVariables false
/-- a part of a word and a part of that length compared -/
theorem preAt_ext {w0 l : ByteArray} {i : Nat} : ((w0.extract i (i + l.size)).toList == l.toList) = preAt w0 i l := by
  have h2 : l.data.toList.length = l.size := rfl
  have key : (w0.extract i (i + l.size)).toList = (w0.data.toList.drop i).take l.data.toList.length := by
    rw [ByteArray.toList_eq, extract_lt, List.drop_take, h2, Nat.add_sub_cancel_left]
  rw [key, ByteArray.toList_eq]
  unfold preAt
  cases h : l.data.toList.isPrefixOf (w0.data.toList.drop i)
  · rw [beq_eq_false_iff_ne]
    intro e
    have h3 : l.data.toList <+: w0.data.toList.drop i := by rw [← e]; exact List.take_prefix _ _
    rw [List.isPrefixOf_iff_prefix.2 h3] at h
    cases h
  · rw [beq_iff_eq]
    exact (List.prefix_iff_eq_take.1 (List.isPrefixOf_iff_prefix.1 h)).symm
theorem preAt_hp {w0 l : ByteArray} {i : Nat} : Lib.hasPrefix (w0.extract i w0.size).data.toList l.data.toList = preAt w0 i l := by
  unfold Lib.hasPrefix preAt
  rw [extract_lt]
  have h : w0.data.toList.length = w0.size := rfl
  rw [List.take_of_length_le (Nat.le_of_eq h)]
theorem ovAt_ext {u v : ByteArray} {n : Nat} : ((u.extract (u.size - n) u.size).toList == (v.extract 0 n).toList) = ovAt u v n := by
  unfold ovAt
  rw [ByteArray.toList_eq, ByteArray.toList_eq, extract_lt, extract_lt, List.drop_zero]
  have h : u.data.toList.length = u.size := rfl
  rw [List.take_of_length_le (Nat.le_of_eq h)]
theorem cells_nV (l : List Nat) (j : Nat) : cellsL nV (l ++ [j]) = cellsL nV l ++ [.int .i64 (j : Nat)] := by rw [cellsL_app, cellsL_one]; rfl
set_option maxHeartbeats 400000 in
theorem implReplaceAt_ok (w0 by_ : ByteArray) (i l : Nat) (w : World) (h1 : i + l ≤ w0.size) (h2 : w0.size - l + by_.size ≤ 16) (hz : w0.size ≤ 1000) (hy : by_.size ≤ 1000) :
    Calls Tryz.prog 135 #[.string w0, .int .i64 (i : Nat), .int .i64 (l : Nat), .string by_] w fun e w' => e = .returned (.tuple #[.string (replF w0 i l by_), .bool true]) ∧ Below w.heap.size w w' := by
  have HF : Hid (∀ W, Below w.heap.size w W → Ending.returned (.tuple #[.string (w0.extract 0 i ++ by_ ++ w0.extract (i + l) w0.size), .bool true]) = .returned (.tuple #[.string (replF w0 i l by_), .bool true]) ∧ Below w.heap.size w W) := Lib.hid (fun W h => ⟨rfl, h⟩)
  have a1 : (w0.extract 0 i).size = i := by rw [ByteArray.size_extract]; omega
  have a2 : (w0.extract (i + l) w0.size).size = w0.size - (i + l) := by rw [ByteArray.size_extract]; omega
  have a3 : ¬ 9223372036854775807 < (w0.extract 0 i).size + by_.size := by omega
  have a4 : ¬ 9223372036854775807 < (w0.extract 0 i).size + by_.size + (w0.extract (i + l) w0.size).size := by omega
  have g1 : ¬ (i : Int) < 0 := by omega
  have g2 : ¬ (l : Int) < 0 := by omega
  have g3 : ¬ (w0.size : Int) < (i : Int) := by omega
  have g4 : ¬ (w0.size : Int) - (i : Int) < (l : Int) := by omega
  have g5 : ¬ (16 : Int) < (w0.size : Int) - (l : Int) + (by_.size : Int) := by omega
  have s1 : (i : Int) + (l : Int) ≤ (w0.size : Int) := by omega
  have s2 : i + l ≤ w0.size := h1
  have s3 : i ≤ w0.size := by omega
  clear h2
  go_enter Tryz.func135, Tryz.ntmps135
  go_wp2_with fail
  go_quiet (fail)
  go_wp2_with fail
  go_ret2
  exact HF.out _ (below_drewN (Below.refl _ _) _)
set_option maxHeartbeats 400000 in
theorem specReplaceAt_ok (w0 by_ : ByteArray) (i l : Nat) (w : World) (h1 : i + l ≤ w0.size) (h2 : w0.size - l + by_.size ≤ 16) (hz : w0.size ≤ 1000) (hy : by_.size ≤ 1000) :
    Calls Tryz.prog 214 #[.string w0, .int .i64 (i : Nat), .int .i64 (l : Nat), .string by_] w fun e w' => e = .returned (.tuple #[.string (replF w0 i l by_), .bool true]) ∧ Below w.heap.size w w' := by
  have HF : Hid (∀ W, Below w.heap.size w W → Ending.returned (.tuple #[.string (w0.extract 0 i ++ by_ ++ w0.extract (i + l) w0.size), .bool true]) = .returned (.tuple #[.string (replF w0 i l by_), .bool true]) ∧ Below w.heap.size w W) := Lib.hid (fun W h => ⟨rfl, h⟩)
  have a1 : (w0.extract 0 i).size = i := by rw [ByteArray.size_extract]; omega
  have a2 : (w0.extract (i + l) w0.size).size = w0.size - (i + l) := by rw [ByteArray.size_extract]; omega
  have a3 : ¬ 9223372036854775807 < (w0.extract 0 i).size + by_.size := by omega
  have a4 : ¬ 9223372036854775807 < (w0.extract 0 i).size + by_.size + (w0.extract (i + l) w0.size).size := by omega
  have g1 : ¬ (i : Int) < 0 := by omega
  have g2 : ¬ (l : Int) < 0 := by omega
  have g3 : ¬ (w0.size : Int) < (i : Int) := by omega
  have g4 : ¬ (w0.size : Int) - (i : Int) < (l : Int) := by omega
  have g5 : ¬ (16 : Int) < (w0.size : Int) - (l : Int) + (by_.size : Int) := by omega
  have s1 : (i : Int) + (l : Int) ≤ (w0.size : Int) := by omega
  have s2 : i + l ≤ w0.size := h1
  have s3 : i ≤ w0.size := by omega
  clear h2
  go_enter Tryz.func214, Tryz.ntmps214
  go_wp2_with fail
  go_quiet (fail)
  go_wp2_with fail
  go_ret2
  exact HF.out _ (below_drewN (Below.refl _ _) _)
set_option maxRecDepth 20000 in
set_option maxHeartbeats 1000000 in
theorem specPlacesOf_any (w0 l : ByteArray) (w : World) (hl : 0 < l.size) (hz : w0.size ≤ 1000) (hy : l.size ≤ 1000) :
    Calls Tryz.prog 195 #[.string w0, .string l] w (RetSl 3 1 (placesF w0 l).length (cellsL nV (placesF w0 l)) w) := by
  obtain ⟨p1, p2⟩ := full_facts (x := l) (by omega)
  have hb0 := alloc_belowS w (.cells #[] 3)
  have HB0 : Hid (Bld 3 1 w (w.alloc (.cells #[] 3)) (.slice (some ⟨w.heap.size, 0, none⟩) 0 0) (placeTo w0 l 0).length (cellsL nV (placeTo w0 l 0))) := Lib.hid (Bld.empty 3 1 w)
  have HEND := Lib.hid (fun j => placeTo_end (w := w0) (l := l) hl (j := j))
  clear hb0
  go_enter Tryz.func195, Tryz.ntmps195
  go_wp2_with fail
  go_loopw [5, 6] (fun vo vi wr => ∃ j : Nat, j ≤ w0.size ∧ vi = .int .i64 (j : Nat) ∧ Bld 3 1 w wr vo (placeTo w0 l j).length (cellsL nV (placeTo w0 l j))) (fun _ vi _ => w0.size - (intOf vi).toNat)
  case atStart => exact ⟨0, Nat.zero_le _, rfl, HB0.out⟩
  case round =>
    clear HB0
    obtain ⟨j, hj, rfl, hbd⟩ := hrel
    obtain ⟨ao, co, rfl⟩ := owns_form hbd.1
    have HB := Lib.hid hbd
    clear hbd
    have hlen := placeTo_len w0 l j
    by_cases hlt : j + l.size ≤ w0.size
    · have h1 : j + l.size ≤ w0.size ∨ w0.size < j + l.size := by omega
      have HEX := Lib.hid (preAt_ext (w0 := w0) (l := l) (i := j))
      have HY := Lib.hid (fun h => placeTo_yes (w := w0) (l := l) (j := j) h)
      have HN := Lib.hid (fun h => placeTo_no (w := w0) (l := l) (j := j) h)
      clear h1
      cases hp : preAt w0 j l
      · have hn := HN.out hp
        have he := HEX.out.trans hp
        have s1 : (j : Int) + (l.size : Int) ≤ (w0.size : Int) := by omega
        have s2 : j + l.size ≤ w0.size := hlt
        clear hp
        generalize placeTo w0 l j = X at *
        have HNX := Lib.hid hn
        clear hn
        go_wp2_with fail
        go_roundw
        case rel => exact ⟨j + 1, by omega, by go_num, by rw [HNX.out]; exact HB.out⟩
        case measure => simp [intOf]; omega
      · have hn := HY.out hp
        have he := HEX.out.trans hp
        have s1 : (j : Int) + (l.size : Int) ≤ (w0.size : Int) := by omega
        have s2 : j + l.size ≤ w0.size := hlt
        clear hp
        generalize placeTo w0 l j = X at *
        have HNX := Lib.hid hn
        clear hn
        go_wp2_with (at_builtin; refine wpList_app1 rfl _ _ rfl Tryz.underlying45 Tryz.infoInt rfl (by decide) rfl HB.out rfl ?c1 ?c2 ?c3 ?c4 ?c5)
        case c2 => intro u hu; simp at hu; rw [hu]; rfl
        case c3 => unfold maxLen; omega
        case c4 => omega
        case c1 => rfl
        intro v4 w4 hb4
        have HB4 : Hid (Bld 3 1 w w4 v4 (placeTo w0 l (j + 1)).length (cellsL nV (placeTo w0 l (j + 1)))) := Lib.hid (by
          rw [HNX.out, List.length_append, cells_nV]; exact hb4)
        obtain ⟨a4, c4, hv4⟩ := owns_form HB4.out.1
        subst hv4
        clear hb4
        go_wp2_with fail
        go_roundw
        case rel => exact ⟨j + 1, by omega, by go_num, HB4.out⟩
        case measure => simp [intOf]; omega
    · have hd := HEND.out j (by omega) hj
      have F : Hid (RetSl 3 1 (placesF w0 l).length (cellsL nV (placesF w0 l)) w (.returned (.slice ao (placeTo w0 l j).length co)) wr) := Lib.hid (by
        rw [hd] at HB ⊢
        exact HB.out.ret)
      clear hd
      go_wp2_with fail
      go_ret
      exact F.out
set_option maxRecDepth 20000 in
set_option maxHeartbeats 1000000 in
theorem implPlacesOf_any (w0 l : ByteArray) (w : World) (hl : 0 < l.size) (hz : w0.size ≤ 1000) (hy : l.size ≤ 1000) :
    Calls Tryz.prog 163 #[.string w0, .string l] w (RetSl 3 1 (placesF w0 l).length (cellsL nV (placesF w0 l)) w) := by
  obtain ⟨p1, p2⟩ := full_facts (x := l) (by omega)
  have hb0 := alloc_belowS w (.cells #[] 3)
  have HB0 : Hid (Bld 3 1 w w (.slice none 0 0) (placeTo w0 l 0).length (cellsL nV (placeTo w0 l 0))) := Lib.hid (Bld.nil 3 1 (Below.refl _ _))
  have HEND := Lib.hid (fun j => placeTo_end (w := w0) (l := l) hl (j := j))
  clear hb0
  go_enter Tryz.func163, Tryz.ntmps163
  go_wp2_with fail
  go_loopw [5, 11] (fun vo vi wr => ∃ j : Nat, j ≤ w0.size ∧ vi = .int .i64 (j : Nat) ∧ Bld 3 1 w wr vo (placeTo w0 l j).length (cellsL nV (placeTo w0 l j))) (fun _ vi _ => w0.size - (intOf vi).toNat)
  case atStart => exact ⟨0, Nat.zero_le _, rfl, HB0.out⟩
  case round =>
    clear HB0
    obtain ⟨j, hj, rfl, hbd⟩ := hrel
    obtain ⟨ao, co, rfl⟩ := owns_form hbd.1
    have HB := Lib.hid hbd
    clear hbd
    have hlen := placeTo_len w0 l j
    by_cases hlt : j < w0.size
    · have h1 : j + l.size ≤ w0.size ∨ w0.size < j + l.size := by omega
      have HEX := Lib.hid (preAt_hp (w0 := w0) (l := l) (i := j))
      have HY := Lib.hid (fun h => placeTo_yes (w := w0) (l := l) (j := j) h)
      have HN := Lib.hid (fun h => placeTo_no (w := w0) (l := l) (j := j) h)
      clear h1
      cases hp : preAt w0 j l
      · have hn := HN.out hp
        have HC := Lib.hid (fun W => Tryz.strings_HasPrefix (w0.extract j w0.size) l W)
        rw [HEX.out, hp] at HC
        clear hp
        generalize placeTo w0 l j = X at *
        have HNX := Lib.hid hn
        clear hn
        go_wp2_with fail
        refine (HC.out _).mono ?_
        rintro e w2 ⟨rfl, rfl⟩
        go_wp2_with fail
        go_roundw
        case rel => exact ⟨j + 1, by omega, by go_num, by rw [HNX.out]; exact HB.out⟩
        case measure => simp [intOf]; omega
      · have hn := HY.out hp
        have HC := Lib.hid (fun W => Tryz.strings_HasPrefix (w0.extract j w0.size) l W)
        rw [HEX.out, hp] at HC
        clear hp
        generalize placeTo w0 l j = X at *
        have HNX := Lib.hid hn
        clear hn
        go_wp2_with fail
        refine (HC.out _).mono ?_
        rintro e w2 ⟨rfl, rfl⟩
        go_wp2_with (at_builtin; refine wpList_app1 rfl _ _ rfl Tryz.underlying45 Tryz.infoInt rfl (by decide) rfl HB.out rfl ?c1 ?c2 ?c3 ?c4 ?c5)
        case c2 => intro u hu; simp at hu; rw [hu]; rfl
        case c3 => unfold maxLen; omega
        case c4 => omega
        case c1 => rfl
        intro v4 w4 hb4
        have HB4 : Hid (Bld 3 1 w w4 v4 (placeTo w0 l (j + 1)).length (cellsL nV (placeTo w0 l (j + 1)))) := Lib.hid (by
          rw [HNX.out, List.length_append, cells_nV]; exact hb4)
        obtain ⟨a4, c4, hv4⟩ := owns_form HB4.out.1
        subst hv4
        clear hb4
        go_wp2_with fail
        go_roundw
        case rel => exact ⟨j + 1, by omega, by go_num, HB4.out⟩
        case measure => simp [intOf]; omega
    · have hd : placeTo w0 l j = placesF w0 l := by rw [show j = w0.size by omega]; rfl
      have F : Hid (RetSl 3 1 (placesF w0 l).length (cellsL nV (placesF w0 l)) w (.returned (.slice ao (placeTo w0 l j).length co)) wr) := Lib.hid (by
        rw [hd] at HB ⊢
        exact HB.out.ret)
      clear hd
      go_wp2_with fail
      go_ret
      exact F.out
theorem overTo_end {u v : ByteArray} {j : Nat} (h0 : 1 ≤ j) (h1 : j ≤ min u.size v.size ∨ j = 1) (h2 : ¬ j < min u.size v.size) : overTo u v j = overF u v := by
  unfold overF
  rcases h1 with h1 | rfl
  · rw [show j = min u.size v.size by omega]
  · have h3 : min u.size v.size = 0 ∨ min u.size v.size = 1 := by omega
    rcases h3 with h3 | h3
    · rw [h3]; rfl
    · rw [h3]
set_option maxRecDepth 20000 in
set_option maxHeartbeats 1000000 in
theorem specOverlapsOf_any (u v : ByteArray) (w : World) (hz : u.size ≤ 1000) (hy : v.size ≤ 1000) :
    Calls Tryz.prog 206 #[.string u, .string v] w (RetSl 3 1 (overF u v).length (cellsL nV (overF u v)) w) := by
  have HB0 : Hid (Bld 3 1 w (w.alloc (.cells #[] 3)) (.slice (some ⟨w.heap.size, 0, none⟩) 0 0) (overTo u v 1).length (cellsL nV (overTo u v 1))) := Lib.hid (Bld.empty 3 1 w)
  have HEND := Lib.hid (fun j => overTo_end (u := u) (v := v) (j := j))
  go_enter Tryz.func206, Tryz.ntmps206
  go_wp2_with fail
  go_loopw [5, 6] (fun vo vi wr => ∃ j : Nat, (1 ≤ j ∧ j ≤ 1001) ∧ (j ≤ min u.size v.size ∨ j = 1) ∧ vi = .int .i64 (j : Nat) ∧ Bld 3 1 w wr vo (overTo u v j).length (cellsL nV (overTo u v j))) (fun _ vi _ => 1002 - (intOf vi).toNat)
  case atStart => exact ⟨1, ⟨Nat.le_refl _, by omega⟩, .inr rfl, rfl, HB0.out⟩
  case round =>
    clear HB0
    obtain ⟨j, ⟨hj0, hj1⟩, hj2, rfl, hbd⟩ := hrel
    obtain ⟨ao, co, rfl⟩ := owns_form hbd.1
    have HB := Lib.hid hbd
    clear hbd
    have hlen := overTo_len u v j
    by_cases hlt : j < min u.size v.size
    · have HEX := Lib.hid (ovAt_ext (u := u) (v := v) (n := j))
      have HY := Lib.hid (fun h => overTo_yes (u := u) (v := v) (j := j) (by omega) h)
      have HN := Lib.hid (fun h => overTo_no (u := u) (v := v) (j := j) h)
      have hlu : j < u.size := by omega
      have hlv : j < v.size := by omega
      have hw : IntKind.i64.wrap ((u.size : Int) - (j : Int)) = ((u.size - j : Nat) : Int) := by rw [IntWalk.i64_in _ (by omega)]; omega
      have s1 : ((u.size - j : Nat) : Int) ≤ (u.size : Int) := by omega
      have s2 : u.size - j ≤ u.size := by omega
      have s3 : (j : Int) ≤ (v.size : Int) := by omega
      have s4 : j ≤ v.size := by omega
      have s5 : (j : Int) < (u.size : Int) := by omega
      have s6 : (j : Int) < (v.size : Int) := by omega
      cases hp : ovAt u v j
      · have HNX := Lib.hid (HN.out hp)
        have he := HEX.out.trans hp
        clear hp HY HN
        generalize overTo u v j = X at *
        go_wp2_with fail
        go_quiet (fail)
        have HB2 := Lib.hid (HB.out.later (below_drewN (Below.refl _ _) nq))
        go_wp2_with fail
        go_roundw
        case rel => exact ⟨j + 1, ⟨by omega, by omega⟩, .inl (by omega), by go_num, by rw [HNX.out]; exact HB2.out⟩
        case measure => simp [intOf]; omega
      · have HNX := Lib.hid (HY.out hp)
        have he := HEX.out.trans hp
        clear hp HY HN
        generalize overTo u v j = X at *
        go_wp2_with fail
        go_quiet (fail)
        have HB2 := Lib.hid (HB.out.later (below_drewN (Below.refl _ _) nq))
        go_wp2_with (at_builtin; refine wpList_app1 rfl _ _ rfl Tryz.underlying45 Tryz.infoInt rfl (by decide) rfl HB2.out rfl ?c1 ?c2 ?c3 ?c4 ?c5)
        case c2 => intro x hx; simp at hx; rw [hx]; rfl
        case c3 => unfold maxLen; omega
        case c4 => omega
        case c1 => rfl
        intro v4 w4 hb4
        have HB4 : Hid (Bld 3 1 w w4 v4 (overTo u v (j + 1)).length (cellsL nV (overTo u v (j + 1)))) := Lib.hid (by
          rw [HNX.out, List.length_append, cells_nV]; exact hb4)
        obtain ⟨a4, c4, hv4⟩ := owns_form HB4.out.1
        subst hv4
        clear hb4
        go_wp2_with fail
        go_roundw
        case rel => exact ⟨j + 1, ⟨by omega, by omega⟩, .inl (by omega), by go_num, HB4.out⟩
        case measure => simp [intOf]; omega
    · have hd := HEND.out j hj0 hj2 hlt
      have F : Hid (RetSl 3 1 (overF u v).length (cellsL nV (overF u v)) w (.returned (.slice ao (overTo u v j).length co)) wr) := Lib.hid (by
        rw [hd] at HB ⊢
        exact HB.out.ret)
      clear hd
      by_cases hu : j < u.size
      · have s5 : (j : Int) < (u.size : Int) := by omega
        have s6 : ¬ (j : Int) < (v.size : Int) := by omega
        go_wp2_with fail
        go_ret
        exact F.out
      · have s5 : ¬ (j : Int) < (u.size : Int) := by omega
        go_wp2_with fail
        go_ret
        exact F.out
set_option maxRecDepth 20000 in
set_option maxHeartbeats 1000000 in
theorem implOverlapsOf_any (u v : ByteArray) (w : World) (hz : u.size ≤ 1000) (hy : v.size ≤ 1000) :
    Calls Tryz.prog 164 #[.string u, .string v] w (RetSl 3 1 (overF u v).length (cellsL nV (overF u v)) w) := by
  have HB0 : Hid (Bld 3 1 w w (.slice none 0 0) (overTo u v 1).length (cellsL nV (overTo u v 1))) := Lib.hid (Bld.nil 3 1 (Below.refl _ _))
  have HEND := Lib.hid (fun j => overTo_end (u := u) (v := v) (j := j))
  go_enter Tryz.func164, Tryz.ntmps164
  go_wp2_with fail
  go_loopw [5, 6] (fun vo vi wr => ∃ j : Nat, (1 ≤ j ∧ j ≤ 1001) ∧ (j ≤ min u.size v.size ∨ j = 1) ∧ vi = .int .i64 (j : Nat) ∧ Bld 3 1 w wr vo (overTo u v j).length (cellsL nV (overTo u v j))) (fun _ vi _ => 1002 - (intOf vi).toNat)
  case atStart => exact ⟨1, ⟨Nat.le_refl _, by omega⟩, .inr rfl, rfl, HB0.out⟩
  case round =>
    clear HB0
    obtain ⟨j, ⟨hj0, hj1⟩, hj2, rfl, hbd⟩ := hrel
    obtain ⟨ao, co, rfl⟩ := owns_form hbd.1
    have HB := Lib.hid hbd
    clear hbd
    have hlen := overTo_len u v j
    by_cases hlt : j < min u.size v.size
    · have HEX := Lib.hid (ovAt_ext (u := u) (v := v) (n := j))
      have HY := Lib.hid (fun h => overTo_yes (u := u) (v := v) (j := j) (by omega) h)
      have HN := Lib.hid (fun h => overTo_no (u := u) (v := v) (j := j) h)
      have hlu : j < u.size := by omega
      have hlv : j < v.size := by omega
      have hw : IntKind.i64.wrap ((u.size : Int) - (j : Int)) = ((u.size - j : Nat) : Int) := by rw [IntWalk.i64_in _ (by omega)]; omega
      have s1 : ((u.size - j : Nat) : Int) ≤ (u.size : Int) := by omega
      have s2 : u.size - j ≤ u.size := by omega
      have s3 : (j : Int) ≤ (v.size : Int) := by omega
      have s4 : j ≤ v.size := by omega
      have s5 : (j : Int) < min (u.size : Int) (v.size : Int) := by omega
      cases hp : ovAt u v j
      · have HNX := Lib.hid (HN.out hp)
        have he := HEX.out.trans hp
        clear hp HY HN
        generalize overTo u v j = X at *
        go_wp2_with fail
        go_quiet (fail)
        have HB2 := Lib.hid (HB.out.later (below_drewN (Below.refl _ _) nq))
        go_wp2_with fail
        go_roundw
        case rel => exact ⟨j + 1, ⟨by omega, by omega⟩, .inl (by omega), by go_num, by rw [HNX.out]; exact HB2.out⟩
        case measure => simp [intOf]; omega
      · have HNX := Lib.hid (HY.out hp)
        have he := HEX.out.trans hp
        clear hp HY HN
        generalize overTo u v j = X at *
        go_wp2_with fail
        go_quiet (fail)
        have HB2 := Lib.hid (HB.out.later (below_drewN (Below.refl _ _) nq))
        go_wp2_with (at_builtin; refine wpList_app1 rfl _ _ rfl Tryz.underlying45 Tryz.infoInt rfl (by decide) rfl HB2.out rfl ?c1 ?c2 ?c3 ?c4 ?c5)
        case c2 => intro x hx; simp at hx; rw [hx]; rfl
        case c3 => unfold maxLen; omega
        case c4 => omega
        case c1 => rfl
        intro v4 w4 hb4
        have HB4 : Hid (Bld 3 1 w w4 v4 (overTo u v (j + 1)).length (cellsL nV (overTo u v (j + 1)))) := Lib.hid (by
          rw [HNX.out, List.length_append, cells_nV]; exact hb4)
        obtain ⟨a4, c4, hv4⟩ := owns_form HB4.out.1
        subst hv4
        clear hb4
        go_wp2_with fail
        go_roundw
        case rel => exact ⟨j + 1, ⟨by omega, by omega⟩, .inl (by omega), by go_num, HB4.out⟩
        case measure => simp [intOf]; omega
    · have hd := HEND.out j hj0 hj2 hlt
      have F : Hid (RetSl 3 1 (overF u v).length (cellsL nV (overF u v)) w (.returned (.slice ao (overTo u v j).length co)) wr) := Lib.hid (by
        rw [hd] at HB ⊢
        exact HB.out.ret)
      clear hd
      have s5 : ¬ (j : Int) < min (u.size : Int) (v.size : Int) := by omega
      go_wp2_with fail
      go_ret
      exact F.out
end Go.Proofs.YtgoeadgpbidgiaaGreatDoor
namespace Go.Proofs.YtgoeadgpbidgiaaGreatDoor
open Go.RowKit Go.ChangeShapes Go.WideShapes Go.ChangeAt Go.Joins Go.Deep
set_option linter.unusedVariables false
theorem Tryz.infoRule : (Tryz.prog.info? 39).map (fun i => (i.zero, i.size, i.bytes)) = some (some (.agg #[.string ⟨#[]⟩, .string ⟨#[]⟩]), 2, 32) := by kernel_rfl
/-- what szRuleS hands back -/
def szRF (left : Int) (l : List RulD) : Int := if left < (l.length : Int) + ruleSum l then -1 else left - l.length - ruleSum l
theorem szRF_big {left : Int} {l : List RulD} (h : left < (l.length : Int) + ruleSum l) : szRF left l = -1 := by simp [szRF, h]
theorem szRF_ok {left : Int} {l : List RulD} (h : ¬ left < (l.length : Int) + ruleSum l) : szRF left l = left - l.length - ruleSum l := by simp only [szRF, if_neg h]
def szR1 (left : Int) (x y : ByteArray) : Int := if left < (x.size : Int) + y.size then -1 else left - x.size - y.size
set_option maxHeartbeats 400000 in
theorem szRule_any (x y : ByteArray) (left : Int) (w : World) (hx : x.size ≤ maxLen) (hy : y.size ≤ maxLen) (h0 : 0 ≤ left) (h1 : left ≤ 1048576) :
    Calls Tryz.prog 30 #[.agg #[.string x, .string y], .int .i64 left] w fun e w' => e = .returned (.int .i64 (szR1 left x y)) ∧ Below w.heap.size w w' := by
  unfold maxLen at hx hy
  by_cases e1 : left - x.size < 0
  · have F : Hid (szR1 left x y = -1) := Lib.hid (by unfold szR1; rw [if_pos (by omega)])
    go_enter Tryz.func30, Tryz.ntmps30
    go_wp2_with fail
    go_ret
    exact ⟨ret_int F.out.symm, by repeat (first | exact Below.refl _ _ | refine Below.alloc ?_ (by simp; try omega) _)⟩
  · by_cases e2 : left - x.size - y.size < 0
    · have F : Hid (szR1 left x y = -1) := Lib.hid (by unfold szR1; rw [if_pos (by omega)])
      go_enter Tryz.func30, Tryz.ntmps30
      go_wp2_with fail
      go_ret
      exact ⟨ret_int F.out.symm, by repeat (first | exact Below.refl _ _ | refine Below.alloc ?_ (by simp; try omega) _)⟩
    · have F : Hid (szR1 left x y = left - x.size - y.size) := Lib.hid (by unfold szR1; rw [if_neg (by omega)])
      go_enter Tryz.func30, Tryz.ntmps30
      go_wp2_with fail
      go_ret
      exact ⟨ret_int F.out.symm, by repeat (first | exact Below.refl _ _ | refine Below.alloc ?_ (by simp; try omega) _)⟩
set_option maxHeartbeats 400000 in
theorem szRuleS_any (l : List RulD) (a : Option Addr) (cap : Nat) (left : Int) (w : World) (hl : RulesIn w a l) (hn : l.length ≤ 9223372036854775807) (hm : ∀ j, j < l.length → (nthR l j).1.size ≤ maxLen ∧ (nthR l j).2.size ≤ maxLen) (h0 : 0 ≤ left) (h1 : left ≤ 1048576) :
    Calls Tryz.prog 6 #[.slice a l.length cap, .int .i64 left] w fun e w' => e = .returned (.int .i64 (szRF left l)) ∧ Below w.heap.size w w' := by
  by_cases hlt : left < (l.length : Int)
  · have F := Lib.hid (szRF_big (l := l) (left := left) (by omega))
    go_enter Tryz.func6, Tryz.ntmps6
    go_wp2_with fail
    go_ret
    exact ⟨ret_int F.out.symm, Below.refl _ _⟩
  · have HL := Lib.hid hl
    have HM := Lib.hid hm
    clear hl hm
    go_enter Tryz.func6, Tryz.ntmps6
    go_wp2_with fail
    go_loopw [1, 5] (fun s i wr => ∃ (j : Nat) (x : Int), j ≤ l.length ∧ i = .int .i64 j ∧ s = .int .i64 x ∧ x = left - l.length - ruleSumTo l j ∧ 0 ≤ x ∧ Below w.heap.size w wr) (fun _ i _ => l.length - (intOf i).toNat)
    case atStart => exact ⟨0, _, Nat.zero_le _, rfl, rfl, by simp [ruleSumTo], by omega, Below.refl _ _⟩
    case round =>
      obtain ⟨j, x, hj, rfl, rfl, hx, hx0, hbw⟩ := hrel
      by_cases hlj : j < l.length
      · obtain ⟨b, off, rfl, hb, hc⟩ := (HL.out.later hbw).cell hlj
        obtain ⟨c1, c2⟩ := hc j hlj
        obtain ⟨z1, z2⟩ := HM.out j hlj
        have hs : ruleSumTo l (j + 1) = ruleSumTo l j + ((nthR l j).1.size + (nthR l j).2.size) := rfl
        have hle : ruleSumTo l (j + 1) ≤ ruleSum l := by rw [← ruleSumTo_all]; exact ruleSumTo_mono l hlj
        clear hc
        have HX := Lib.hid hx
        have hx1 : x ≤ 1048576 := by omega
        clear hx
        generalize hu : (nthR l j).1 = u at *
        generalize hv : (nthR l j).2 = v at *
        clear hu hv
        have HS := Lib.hid (fun W => szRule_any u v x W z1 z2 hx0 hx1)
        by_cases hneg : x < (u.size : Int) + v.size
        · have F := Lib.hid (szRF_big (l := l) (left := left) (by have := HX.out; omega))
          have e1 : szR1 x u v = -1 := by unfold szR1; rw [if_pos hneg]
          rw [e1] at HS
          clear hs hle e1 hneg
          go_wp2_with (go_at_call 30; refine (HS.out _).mono ?_; rintro e w2 ⟨rfl, hb2⟩)
          have hbw2 := Below.now hbw hb2
          clear hb2 hbw
          go_wp2_with fail
          go_ret
          exact ⟨ret_int F.out.symm, hbw2⟩
        · have HX2 : Hid (x - u.size - v.size = left - l.length - ruleSumTo l (j + 1)) := Lib.hid (by have := HX.out; omega)
          have e1 : szR1 x u v = x - u.size - v.size := by unfold szR1; rw [if_neg hneg]
          have hge : 0 ≤ x - u.size - v.size := by omega
          rw [e1] at HS
          clear hs hle e1 hneg
          generalize hq : x - u.size - v.size = y at *
          clear hq
          go_wp2_with (go_at_call 30; refine (HS.out _).mono ?_; rintro e w2 ⟨rfl, hb2⟩)
          have hbw2 := Below.now hbw hb2
          clear hb2 hbw
          go_wp2_with fail
          go_roundw
          case rel => exact ⟨j + 1, y, by omega, by go_num, rfl, HX2.out, hge, hbw2⟩
          case measure => simp [intOf]; omega
      · obtain rfl : j = l.length := by omega
        have ha := ruleSumTo_all l
        have F := Lib.hid (szRF_ok (l := l) (left := left) (by omega))
        have F2 : Hid (x = szRF left l) := Lib.hid (by rw [F.out]; omega)
        clear ha hx
        go_wp2_with fail
        go_ret
        exact ⟨ret_int F2.out, hbw⟩
set_option maxHeartbeats 400000 in
theorem toRule_any (x y : ByteArray) (w : World) :
    Calls Tryz.prog 34 #[.agg #[.string x, .string y]] w fun e w' => e = .returned (.agg #[.string x, .string y]) ∧ Below w.heap.size w w' := by
  go_enter Tryz.func34, Tryz.ntmps34
  go_wp2_with fail
  refine bodyPost_ret (v := .agg #[.string x, .string y]) ?_ rfl ?_
  · simp [results, Tryz.results34, go_sem]
  · refine ⟨rfl, ?_⟩
    repeat (first | exact Below.refl _ _ | refine Below.setCell ?_ (by simp; try omega) _ | refine Below.alloc ?_ (by simp; try omega) _)
theorem eqRule_same2 (x y : ByteArray) (w : World) :
    Calls Tryz.prog 36 #[.agg #[.string x, .string y], .agg #[.string x, .string y]] w fun e w' => e = .returned (.bool true) ∧ Below w.heap.size w w' := by
  go_enter Tryz.func36, Tryz.ntmps36
  go_wp2_with fail
  go_ret
  exact ⟨rfl, by repeat (first | exact Below.refl _ _ | refine Below.alloc ?_ (by simp; try omega) _)⟩
set_option maxRecDepth 20000 in
set_option maxHeartbeats 1000000 in
theorem toRuleS_any (l : List RulD) (a : Option Addr) (cap : Nat) (w : World) (hl : RulesIn w a l) (hlen : l.length ≤ 2097152) :
    Calls Tryz.prog 8 #[.slice a l.length cap] w (RetSl 39 2 l.length (ruleCells l) w) := by
  have hmk := run_make_k (P := Tryz.prog) 25 39 _ 2 32 Tryz.underlying25 Tryz.infoRule .i64 .i64 l.length (by omega) (by omega)
  have HL := Lib.hid hl
  clear hl
  go_enter Tryz.func8, Tryz.ntmps8
  go_wp2_with fail
  clear hmk
  have HF := FillK.start w 39 (madeCells #[.string ⟨#[]⟩, .string ⟨#[]⟩] (l.length * 2)) 2 l.length (ruleCells l) (size_madeCells _ _) (by unfold maxLen; omega) (ruleCells_len l)
  generalize (w.alloc (.cells (madeCells #[.string ⟨#[]⟩, .string ⟨#[]⟩] (l.length * 2)) 39)) = w1 at *
  obtain ⟨g, hg⟩ : ∃ g, w.heap.size = g := ⟨_, rfl⟩
  rw [hg] at HF
  rw [hg]
  have HG := Lib.hid hg
  clear hg
  go_loopw [4] (fun i wr => ∃ j : Nat, j ≤ l.length ∧ i = .int .i64 j ∧ FillK w wr 39 2 g l.length (ruleCells l) (j * 2)) (fun i _ => l.length - (intOf i).toNat)
  case atStart => exact ⟨0, Nat.zero_le _, rfl, HF⟩
  case round =>
    clear HF
    obtain ⟨j, hj, rfl, HF⟩ := hrel
    by_cases hlt : j < l.length
    · obtain ⟨b, off, rfl, hb, hc⟩ := (HL.out.later HF.below).cell hlt
      obtain ⟨c1, c2⟩ := hc j hlt
      obtain ⟨t1, t2⟩ := ruleCells_at l j hlt
      have HF0 := Lib.hid HF
      have T1 := Lib.hid t1
      have T2 := Lib.hid t2
      clear hc HF t1 t2
      go_wp2_with fail
      refine (toRule_any _ _ _).mono ?_
      rintro e w2 ⟨rfl, hb2⟩
      have HF1 := HF0.out.later hb2
      obtain ⟨v0, hv0⟩ := HF1.cell (i := j * 2) (by omega)
      obtain ⟨v1, hv1⟩ := HF1.cell (i := j * 2 + 1) (by omega)
      have z0 := HF1.frozen (j * 2)
      have z1 := HF1.frozen (j * 2 + 1)
      have HF2 := Lib.hid ((HF1.store (c := j * 2) (by omega) T1.out).store (c := j * 2 + 1) (by omega) T2.out)
      clear HF1 c1 c2 hb2
      go_wp2_with fail
      go_roundw
      case rel => exact ⟨j + 1, by omega, by go_num, by rw [show (j + 1) * 2 = j * 2 + 1 + 1 by omega]; exact HF2.out⟩
      case measure => simp [intOf]; omega
    · have HF2 := Lib.hid (HF.done (by omega))
      clear HF
      go_wp2_with fail
      go_ret
      exact HF2.out
set_option maxHeartbeats 1000000 in
theorem eqRuleS_same (l : List RulD) (a1 a2 : Option Addr) (c1 c2 : Nat) (w : World) (h1 : RulesIn w a1 l) (h2 : RulesIn w a2 l) (hlen : l.length ≤ 2 ^ 47) :
    Calls Tryz.prog 10 #[.slice a1 l.length c1, .slice a2 l.length c2] w fun e w' => e = .returned (.bool true) ∧ Below w.heap.size w w' := by
  have H1 := Lib.hid h1
  have H2 := Lib.hid h2
  clear h1 h2
  go_enter Tryz.func10, Tryz.ntmps10
  go_wp2
  go_loopw [5] (fun i wr => ∃ j : Nat, j ≤ l.length ∧ i = .int .i64 j ∧ Below w.heap.size w wr) (fun i _ => l.length - (intOf i).toNat)
  case atStart => exact ⟨0, Nat.zero_le _, rfl, Below.refl _ _⟩
  case round =>
    obtain ⟨j, hj, rfl, hbel⟩ := hrel
    by_cases hlt : j < l.length
    · obtain ⟨b1, o1, rfl, hb1, hc1⟩ := (H1.out.later hbel).cell hlt
      obtain ⟨b2, o2, rfl, hb2, hc2⟩ := (H2.out.later hbel).cell hlt
      have g1 : ∀ x, (wide wr x).cell? ⟨b1, o1 + j * 2, none⟩ = some (.string (nthR l j).1) := wide_cell (hc1 j hlt).1
      have g2 : ∀ x, (wide wr x).cell? ⟨b1, o1 + j * 2 + 1, none⟩ = some (.string (nthR l j).2) := wide_cell (hc1 j hlt).2
      have g3 : ∀ x, (wide wr x).cell? ⟨b2, o2 + j * 2, none⟩ = some (.string (nthR l j).1) := wide_cell (hc2 j hlt).1
      have g4 : ∀ x, (wide wr x).cell? ⟨b2, o2 + j * 2 + 1, none⟩ = some (.string (nthR l j).2) := wide_cell (hc2 j hlt).2
      clear hc1 hc2
      go_wp2_with fail
      refine region_wide (by kernel_rfl) (by kernel_rfl) ?_
      repeat (quiet_step ((go_at_call 36; refine (eqRule_same2 _ _ _).mono ?_; rintro e w2 ⟨rfl, hb2⟩; exact ⟨rfl, wide_next hb2⟩)))
      refine wpQuiet_nil ?_
      rintro w4 ⟨x4, rfl⟩
      have hbel2 := Below.now hbel (below_wide wr x4)
      clear hbel g1 g2 g3 g4
      go_wp2_with fail
      go_roundw
      case rel => exact ⟨j + 1, by omega, by go_num, hbel2⟩
      case measure => simp [intOf]; omega
    · go_wp2_with fail
      go_ret
      exact ⟨rfl, hbel⟩
/-- what toSystem hands back -/
def RetSys (T : TypeId) (k : Int) (l : List RulD) (w : World) (e : Ending) (w' : World) : Prop :=
  ∃ a cap, e = .returned (.agg #[.int .i64 k, .slice a l.length cap]) ∧ w'.ownsRow w.heap.size T 2 (.slice a l.length cap) l.length (ruleCells l) ∧ Below w.heap.size w w'
end Go.Proofs.YtgoeadgpbidgiaaGreatDoor
