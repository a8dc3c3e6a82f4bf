/-
  firstStep, apply and normal of the program.
-/
import Derived.Test.YtmgdglghjlggnaaGreatGway11
import Derived.Test.YtmgdglghjlggnaaGreatGway03
import Derived.Deep.QuietTactic
namespace Go.Proofs.YtmgdglghjlggnaaGreat
open Go.RowKit
set_option linter.unusedVariables false
/-- a part of a word and a part of that length compared -/
theorem preAt_ext {w0 l : ByteArray} {i : Nat} : ((w0.extract i (i + l.size)).toList == l.toList) = preAt w0 i l := by
  have h2 : l.data.toList.length = l.size := rfl
  have key : (w0.extract i (i + l.size)).toList = (w0.data.toList.drop i).take l.data.toList.length := by
    rw [ByteArray.toList_eq, extract_lt, List.drop_take, h2, Nat.add_sub_cancel_left]
  rw [key, ByteArray.toList_eq]
  unfold preAt
  cases h : l.data.toList.isPrefixOf (w0.data.toList.drop i)
  · rw [beq_eq_false_iff_ne]
    intro e
    have h3 : l.data.toList <+: w0.data.toList.drop i := by rw [← e]; exact List.take_prefix _ _
    rw [List.isPrefixOf_iff_prefix.2 h3] at h
    cases h
  · rw [beq_iff_eq]
    exact (List.prefix_iff_eq_take.1 (List.isPrefixOf_iff_prefix.1 h)).symm
theorem ovAt_ext {u v : ByteArray} {n : Nat} : ((u.extract (u.size - n) u.size).toList == (v.extract 0 n).toList) = ovAt u v n := by
  unfold ovAt
  rw [ByteArray.toList_eq, ByteArray.toList_eq, extract_lt, extract_lt, List.drop_zero]
  have h : u.data.toList.length = u.size := rfl
  rw [List.take_of_length_le (Nat.le_of_eq h)]
theorem cells_nV (l : List Nat) (j : Nat) : cellsL nV (l ++ [j]) = cellsL nV l ++ [.int .i64 (j : Nat)] := by rw [cellsL_app, cellsL_one]; rfl
set_option maxHeartbeats 400000 in
theorem specReplaceAt_ok (w0 by_ : ByteArray) (i l : Nat) (w : World) (h1 : i + l ≤ w0.size) (h2 : w0.size - l + by_.size ≤ 16) (hz : w0.size ≤ 1000) (hy : by_.size ≤ 1000) :
    Calls Tryz.prog 123 #[.string w0, .int .i64 (i : Nat), .int .i64 (l : Nat), .string by_] w fun e w' => e = .returned (.tuple #[.string (replF w0 i l by_), .bool true]) ∧ Below w.heap.size w w' := by
  have HF : Hid (∀ W, Below w.heap.size w W → Ending.returned (.tuple #[.string (w0.extract 0 i ++ by_ ++ w0.extract (i + l) w0.size), .bool true]) = .returned (.tuple #[.string (replF w0 i l by_), .bool true]) ∧ Below w.heap.size w W) := Lib.hid (fun W h => ⟨rfl, h⟩)
  have a1 : (w0.extract 0 i).size = i := by rw [ByteArray.size_extract]; omega
  have a2 : (w0.extract (i + l) w0.size).size = w0.size - (i + l) := by rw [ByteArray.size_extract]; omega
  have a3 : ¬ 9223372036854775807 < (w0.extract 0 i).size + by_.size := by omega
  have a4 : ¬ 9223372036854775807 < (w0.extract 0 i).size + by_.size + (w0.extract (i + l) w0.size).size := by omega
  have g1 : ¬ (i : Int) < 0 := by omega
  have g2 : ¬ (l : Int) < 0 := by omega
  have g3 : ¬ (w0.size : Int) < (i : Int) := by omega
  have g4 : ¬ (w0.size : Int) - (i : Int) < (l : Int) := by omega
  have g5 : ¬ (16 : Int) < (w0.size : Int) - (l : Int) + (by_.size : Int) := by omega
  have s1 : (i : Int) + (l : Int) ≤ (w0.size : Int) := by omega
  have s2 : i + l ≤ w0.size := h1
  have s3 : i ≤ w0.size := by omega
  clear h2
  go_enter Tryz.func123, Tryz.ntmps123
  go_wp2_with fail
  go_quiet (fail)
  go_wp2_with fail
  go_ret2
  exact HF.out _ (below_drewN (Below.refl _ _) _)
set_option maxRecDepth 20000 in
set_option maxHeartbeats 1000000 in
theorem specPlacesOf_any (w0 l : ByteArray) (w : World) (hl : 0 < l.size) (hz : w0.size ≤ 1000) (hy : l.size ≤ 1000) :
    Calls Tryz.prog 124 #[.string w0, .string l] w (RetSl 3 1 (placesF w0 l).length (cellsL nV (placesF w0 l)) w) := by
  obtain ⟨p1, p2⟩ := full_facts (x := l) (by omega)
  have hb0 := alloc_belowS w (.cells #[] 3)
  have HB0 : Hid (Bld 3 1 w (w.alloc (.cells #[] 3)) (.slice (some ⟨w.heap.size, 0, none⟩) 0 0) (placeTo w0 l 0).length (cellsL nV (placeTo w0 l 0))) := Lib.hid (Bld.empty 3 1 w)
  have HEND := Lib.hid (fun j => placeTo_end (w := w0) (l := l) hl (j := j))
  clear hb0
  go_enter Tryz.func124, Tryz.ntmps124
  go_wp2_with fail
  go_loopw [5, 6] (fun vo vi wr => ∃ j : Nat, j ≤ w0.size ∧ vi = .int .i64 (j : Nat) ∧ Bld 3 1 w wr vo (placeTo w0 l j).length (cellsL nV (placeTo w0 l j))) (fun _ vi _ => w0.size - (intOf vi).toNat)
  case atStart => exact ⟨0, Nat.zero_le _, rfl, HB0.out⟩
  case round =>
    clear HB0
    obtain ⟨j, hj, rfl, hbd⟩ := hrel
    obtain ⟨ao, co, rfl⟩ := owns_form hbd.1
    have HB := Lib.hid hbd
    clear hbd
    have hlen := placeTo_len w0 l j
    by_cases hlt : j + l.size ≤ w0.size
    · have h1 : j + l.size ≤ w0.size ∨ w0.size < j + l.size := by omega
      have HEX := Lib.hid (preAt_ext (w0 := w0) (l := l) (i := j))
      have HY := Lib.hid (fun h => placeTo_yes (w := w0) (l := l) (j := j) h)
      have HN := Lib.hid (fun h => placeTo_no (w := w0) (l := l) (j := j) h)
      clear h1
      cases hp : preAt w0 j l
      · have hn := HN.out hp
        have he := HEX.out.trans hp
        have s1 : (j : Int) + (l.size : Int) ≤ (w0.size : Int) := by omega
        have s2 : j + l.size ≤ w0.size := hlt
        clear hp
        generalize placeTo w0 l j = X at *
        have HNX := Lib.hid hn
        clear hn
        go_wp2_with fail
        go_roundw
        case rel => exact ⟨j + 1, by omega, by go_num, by rw [HNX.out]; exact HB.out⟩
        case measure => simp [intOf]; omega
      · have hn := HY.out hp
        have he := HEX.out.trans hp
        have s1 : (j : Int) + (l.size : Int) ≤ (w0.size : Int) := by omega
        have s2 : j + l.size ≤ w0.size := hlt
        clear hp
        generalize placeTo w0 l j = X at *
        have HNX := Lib.hid hn
        clear hn
        go_wp2_with (at_builtin; refine wpList_app1 rfl _ _ rfl Tryz.underlying23 Tryz.infoInt rfl (by decide) rfl HB.out rfl ?c1 ?c2 ?c3 ?c4 ?c5)
        case c2 => intro u hu; simp at hu; rw [hu]; rfl
        case c3 => unfold maxLen; omega
        case c4 => omega
        case c1 => rfl
        intro v4 w4 hb4
        have HB4 : Hid (Bld 3 1 w w4 v4 (placeTo w0 l (j + 1)).length (cellsL nV (placeTo w0 l (j + 1)))) := Lib.hid (by
          rw [HNX.out, List.length_append, cells_nV]; exact hb4)
        obtain ⟨a4, c4, hv4⟩ := owns_form HB4.out.1
        subst hv4
        clear hb4
        go_wp2_with fail
        go_roundw
        case rel => exact ⟨j + 1, by omega, by go_num, HB4.out⟩
        case measure => simp [intOf]; omega
    · have hd := HEND.out j (by omega) hj
      have F : Hid (RetSl 3 1 (placesF w0 l).length (cellsL nV (placesF w0 l)) w (.returned (.slice ao (placeTo w0 l j).length co)) wr) := Lib.hid (by
        rw [hd] at HB ⊢
        exact HB.out.ret)
      clear hd
      go_wp2_with fail
      go_ret
      exact F.out
theorem overTo_end {u v : ByteArray} {j : Nat} (h0 : 1 ≤ j) (h1 : j ≤ min u.size v.size ∨ j = 1) (h2 : ¬ j < min u.size v.size) : overTo u v j = overF u v := by
  unfold overF
  rcases h1 with h1 | rfl
  · rw [show j = min u.size v.size by omega]
  · have h3 : min u.size v.size = 0 ∨ min u.size v.size = 1 := by omega
    rcases h3 with h3 | h3
    · rw [h3]; rfl
    · rw [h3]
set_option maxRecDepth 20000 in
set_option maxHeartbeats 1000000 in
theorem specOverlapsOf_any (u v : ByteArray) (w : World) (hz : u.size ≤ 1000) (hy : v.size ≤ 1000) :
    Calls Tryz.prog 125 #[.string u, .string v] w (RetSl 3 1 (overF u v).length (cellsL nV (overF u v)) w) := by
  have HB0 : Hid (Bld 3 1 w (w.alloc (.cells #[] 3)) (.slice (some ⟨w.heap.size, 0, none⟩) 0 0) (overTo u v 1).length (cellsL nV (overTo u v 1))) := Lib.hid (Bld.empty 3 1 w)
  have HEND := Lib.hid (fun j => overTo_end (u := u) (v := v) (j := j))
  go_enter Tryz.func125, Tryz.ntmps125
  go_wp2_with fail
  go_loopw [5, 6] (fun vo vi wr => ∃ j : Nat, (1 ≤ j ∧ j ≤ 1001) ∧ (j ≤ min u.size v.size ∨ j = 1) ∧ vi = .int .i64 (j : Nat) ∧ Bld 3 1 w wr vo (overTo u v j).length (cellsL nV (overTo u v j))) (fun _ vi _ => 1002 - (intOf vi).toNat)
  case atStart => exact ⟨1, ⟨Nat.le_refl _, by omega⟩, .inr rfl, rfl, HB0.out⟩
  case round =>
    clear HB0
    obtain ⟨j, ⟨hj0, hj1⟩, hj2, rfl, hbd⟩ := hrel
    obtain ⟨ao, co, rfl⟩ := owns_form hbd.1
    have HB := Lib.hid hbd
    clear hbd
    have hlen := overTo_len u v j
    by_cases hlt : j < min u.size v.size
    · have HEX := Lib.hid (ovAt_ext (u := u) (v := v) (n := j))
      have HY := Lib.hid (fun h => overTo_yes (u := u) (v := v) (j := j) (by omega) h)
      have HN := Lib.hid (fun h => overTo_no (u := u) (v := v) (j := j) h)
      have hlu : j < u.size := by omega
      have hlv : j < v.size := by omega
      have hw : IntKind.i64.wrap ((u.size : Int) - (j : Int)) = ((u.size - j : Nat) : Int) := by rw [IntWalk.i64_in _ (by omega)]; omega
      have s1 : ((u.size - j : Nat) : Int) ≤ (u.size : Int) := by omega
      have s2 : u.size - j ≤ u.size := by omega
      have s3 : (j : Int) ≤ (v.size : Int) := by omega
      have s4 : j ≤ v.size := by omega
      have s5 : (j : Int) < (u.size : Int) := by omega
      have s6 : (j : Int) < (v.size : Int) := by omega
      cases hp : ovAt u v j
      · have HNX := Lib.hid (HN.out hp)
        have he := HEX.out.trans hp
        clear hp HY HN
        generalize overTo u v j = X at *
        go_wp2_with fail
        go_quiet (fail)
        have HB2 := Lib.hid (HB.out.later (below_drewN (Below.refl _ _) nq))
        go_wp2_with fail
        go_roundw
        case rel => exact ⟨j + 1, ⟨by omega, by omega⟩, .inl (by omega), by go_num, by rw [HNX.out]; exact HB2.out⟩
        case measure => simp [intOf]; omega
      · have HNX := Lib.hid (HY.out hp)
        have he := HEX.out.trans hp
        clear hp HY HN
        generalize overTo u v j = X at *
        go_wp2_with fail
        go_quiet (fail)
        have HB2 := Lib.hid (HB.out.later (below_drewN (Below.refl _ _) nq))
        go_wp2_with (at_builtin; refine wpList_app1 rfl _ _ rfl Tryz.underlying23 Tryz.infoInt rfl (by decide) rfl HB2.out rfl ?c1 ?c2 ?c3 ?c4 ?c5)
        case c2 => intro x hx; simp at hx; rw [hx]; rfl
        case c3 => unfold maxLen; omega
        case c4 => omega
        case c1 => rfl
        intro v4 w4 hb4
        have HB4 : Hid (Bld 3 1 w w4 v4 (overTo u v (j + 1)).length (cellsL nV (overTo u v (j + 1)))) := Lib.hid (by
          rw [HNX.out, List.length_append, cells_nV]; exact hb4)
        obtain ⟨a4, c4, hv4⟩ := owns_form HB4.out.1
        subst hv4
        clear hb4
        go_wp2_with fail
        go_roundw
        case rel => exact ⟨j + 1, ⟨by omega, by omega⟩, .inl (by omega), by go_num, HB4.out⟩
        case measure => simp [intOf]; omega
    · have hd := HEND.out j hj0 hj2 hlt
      have F : Hid (RetSl 3 1 (overF u v).length (cellsL nV (overF u v)) w (.returned (.slice ao (overTo u v j).length co)) wr) := Lib.hid (by
        rw [hd] at HB ⊢
        exact HB.out.ret)
      clear hd
      by_cases hu : j < u.size
      · have s5 : (j : Int) < (u.size : Int) := by omega
        have s6 : ¬ (j : Int) < (v.size : Int) := by omega
        go_wp2_with fail
        go_ret
        exact F.out
      · have s5 : ¬ (j : Int) < (u.size : Int) := by omega
        go_wp2_with fail
        go_ret
        exact F.out
end Go.Proofs.YtmgdglghjlggnaaGreat
namespace Go.Proofs.YtmgdglghjlggnaaGreat
open Go.RowKit Go.ChangeShapes Go.WideShapes Go.ChangeAt Go.Joins Go.Deep
set_option linter.unusedVariables false
theorem Tryz.infoRule : (Tryz.prog.info? 89).map (fun i => (i.zero, i.size, i.bytes)) = some (some (.agg #[.string ⟨#[]⟩, .string ⟨#[]⟩]), 2, 32) := by kernel_rfl
end Go.Proofs.YtmgdglghjlggnaaGreat
namespace Go.Proofs.YtmgdglghjlggnaaGreat
open Go.RowKit
set_option linter.unusedVariables false
theorem Tryz.infoStep2 : (Tryz.prog.info? 136).map (fun i => (i.zero, i.size, i.bytes)) = some (some (.agg #[.int .i64 0, .int .i64 0]), 2, 16) := by kernel_rfl
theorem stTo_len (R : List RulD) (w : ByteArray) (i k : Nat) : (stTo R w i k).length ≤ i * R.length + k := by
  have h : ∀ j n, (stAt R w j n).length ≤ n := fun j n => by
    unfold stAt
    rw [List.length_map]
    have := List.length_filter_le (fun r => preAt w j (nthR R r).1) (List.range n)
    simpa using this
  unfold stTo
  rw [List.length_append]
  have h1 := flat_len (fun j => stAt R w j R.length) R.length (fun j => h j R.length) i
  have h2 := h i k
  omega
theorem cells_stV (l : List (Nat × Nat)) (r i : Nat) : cellsL stV (l ++ [(r, i)]) = cellsL stV l ++ [.int .i64 (r : Nat), .int .i64 (i : Nat)] := by rw [cellsL_app, cellsL_one]; rfl
/-- the cells of a rule -/
theorem rule_at {w W : World} {a : Option Addr} {R : List RulD} (h : RulesIn w a R) (hb : Below w.heap.size w W) {r : Nat} (hr : r < R.length) : ∃ b off, a = some ⟨b, off, none⟩ ∧ b < w.heap.size ∧ W.cell? ⟨b, off + r * 2, none⟩ = some (.string (nthR R r).1) ∧ W.cell? ⟨b, off + r * 2 + 1, none⟩ = some (.string (nthR R r).2) := by
  obtain ⟨b, off, e, hlt, hc⟩ := h.cell hr
  obtain ⟨h1, h2⟩ := hc r hr
  exact ⟨b, off, e, hlt, by rw [hb.cell (World.block_lt_of_cell? w _ h1)]; exact h1, by rw [hb.cell (World.block_lt_of_cell? w _ h2)]; exact h2⟩
theorem box_two {W : World} {T : TypeId} {u v : Value} {W2 : World} (hb : Below (W.alloc (.cells #[u, v] T)).heap.size (W.alloc (.cells #[u, v] T)) W2) : W2.cell? ⟨W.heap.size, 0, none⟩ = some u ∧ W2.cell? ⟨W.heap.size, 1, none⟩ = some v :=
  sys_cells ((hb.block W.heap.size (by simp)).trans (alloc_at W _))
set_option maxRecDepth 100000 in
set_option maxHeartbeats 2000000 in
theorem specStepsOf_any (k : Int) (R : List RulD) (a : Option Addr) (cap : Nat) (w0 : ByteArray) (w : World) (hl : RulesIn w a R) (hs : sysP k R) (hw : w0.size ≤ 16) :
    Calls Tryz.prog 122 #[.agg #[.int .i64 k, .slice a R.length cap], .string w0] w (RetSl 136 2 (stepsF R w0).length (cellsL stV (stepsF R w0)) w) := by
  have h12 : R.length ≤ 12 := hs.1.1.2
  have hz : SzR R := fun j hj => by have := (hs.1.2 _ (nthR_mem hj)).1.2; unfold maxLen; omega
  have h8 := left8 hs
  have HPOS : Hid (∀ r, r < R.length → 0 < (nthR R r).1.size) := Lib.hid (fun r hr => by have := (hs.1.2 _ (nthR_mem hr)).2; omega)
  have HL := Lib.hid hl
  have HRO := Lib.hid (fun W h => specRulesOk_any k R a cap W h (by omega) hz)
  have HRP := Lib.hid hs.1
  have HA := Lib.hid (fun o => alloc_belowS w o)
  have HBX : Hid (∀ W2, Below (w.alloc (.cells #[.int .i64 k, .slice a R.length cap] 67)).heap.size (w.alloc (.cells #[.int .i64 k, .slice a R.length cap] 67)) W2 → W2.cell? ⟨w.heap.size, 0, none⟩ = some (.int .i64 k) ∧ W2.cell? ⟨w.heap.size, 1, none⟩ = some (.slice a R.length cap)) := Lib.hid (fun W2 h => box_two h)
  clear hl hs hz
  go_enter Tryz.func122, Tryz.ntmps122
  go_wp2_with fail
  refine (HRO.out _ (HL.out.later (HA.out _))).mono ?_
  rintro e w1 ⟨bb, hbb, rfl, hb1⟩
  obtain rfl := hbb.2 HRP.out
  have HW1 := Lib.hid (Below.now (HA.out _) hb1)
  have HBX1 : Hid (∀ W2, Below w1.heap.size w1 W2 → W2.cell? ⟨w.heap.size, 0, none⟩ = some (.int .i64 k) ∧ W2.cell? ⟨w.heap.size, 1, none⟩ = some (.slice a R.length cap)) := Lib.hid (fun W2 hW2 => HBX.out W2 (Below.now hb1 hW2))
  have HL1 := Lib.hid (HL.out.later (Below.now (HA.out _) hb1))
  have HB0 : Hid (Bld 136 2 w1 (w1.alloc (.cells #[] 136)) (.slice (some ⟨w1.heap.size, 0, none⟩) 0 0) (stTo R w0 0 0).length (cellsL stV (stTo R w0 0 0))) := Lib.hid (Bld.empty 136 2 w1)
  clear hbb hb1 HRO HBX
  go_wp2_with fail
  go_loopw [5, 6] (fun vo vi wr => ∃ i : Nat, i ≤ w0.size ∧ vi = .int .i64 (i : Nat) ∧ Bld 136 2 w1 wr vo (stTo R w0 i 0).length (cellsL stV (stTo R w0 i 0))) (fun _ vi _ => w0.size - (intOf vi).toNat)
  case atStart => exact ⟨0, Nat.zero_le _, rfl, HB0.out⟩
  case round =>
    clear HB0
    obtain ⟨i, hi, rfl, hbd⟩ := hrel
    obtain ⟨ao, co, rfl⟩ := owns_form hbd.1
    have HB := Lib.hid hbd
    obtain ⟨s0, s1⟩ := HBX1.out wr hbd.2
    clear hbd
    by_cases hlt : i < w0.size
    · have HXT := Lib.hid (stTo_next R w0 i)
      go_wp2_with fail
      generalize hW : wr = wr0 at *
      clear hW s0 s1
      go_loopw [5, 22] (fun vo vr wr => ∃ r : Nat, r ≤ R.length ∧ vr = .int .i64 (r : Nat) ∧ Bld 136 2 w1 wr vo (stTo R w0 i r).length (cellsL stV (stTo R w0 i r))) (fun _ vr _ => R.length - (intOf vr).toNat)
      case atStart => exact ⟨0, Nat.zero_le _, rfl, HB.out⟩
      case round =>
        clear HB
        obtain ⟨r, hr, rfl, hbd⟩ := hrel
        obtain ⟨a2, c2, rfl⟩ := owns_form hbd.1
        have HB := Lib.hid hbd
        have hsl := stTo_len R w0 i r
        have hil : i * R.length ≤ 16 * 12 := Nat.mul_le_mul (by omega) h12
        by_cases hlr : r < R.length
        · obtain ⟨b, off, rfl, hb, k0, k1⟩ := rule_at HL1.out hbd.2 hlr
          have hl8 := h8 r
          have hpos := HPOS.out r hlr
          have HY := Lib.hid (fun h => stTo_yes (R := R) (w := w0) (i := i) (k := r) h)
          have HN := Lib.hid (fun h => stTo_no (R := R) (w := w0) (i := i) (k := r) h)
          have HEX := Lib.hid (preAt_ext (w0 := w0) (l := (nthR R r).1) (i := i))
          have HFT := Lib.hid (fun h => preAt_fits (w := w0) (l := (nthR R r).1) (i := i) h hpos)
          have hw9 : IntKind.i64.wrap ((w0.size : Int) - (i : Int)) = ((w0.size - i : Nat) : Int) := by rw [IntWalk.i64_in _ (by omega)]; omega
          have hw8 : IntKind.i64.wrap ((i : Int) + ((nthR R r).1.size : Int)) = ((i + (nthR R r).1.size : Nat) : Int) := by rw [IntWalk.i64_in _ (by omega)]; omega
          clear hbd
          generalize (nthR R r).1 = l at *
          generalize (nthR R r).2 = q at *
          go_wp2_with fail
          have HB5 := Lib.hid (HB.out.later (alloc_belowS wr (.cells #[.string l, .string q] 89)))
          have hcb := alloc_at wr (.cells #[.string l, .string q] 89)
          have hc0 := (sys_cells hcb).1
          have HCB := Lib.hid hcb
          clear k0 k1 hcb
          generalize hg : wr.heap.size = g at *
          generalize wr.alloc (.cells #[.string l, .string q] 89) = w5 at *
          cases hp : preAt w0 i l
          · have HNX := Lib.hid (HN.out hp)
            have he := HEX.out.trans hp
            clear hp HY HN HFT
            generalize hX : stTo R w0 i r = X at *
            clear hX
            by_cases hf : i + l.size ≤ w0.size
            · have f1 : (l.size : Int) ≤ ((w0.size - i : Nat) : Int) := by omega
              have f2 : ((i + l.size : Nat) : Int) ≤ (w0.size : Int) := by omega
              go_quiet (fail)
              have HB6 := Lib.hid (HB5.out.later (below_drewN (Below.refl _ _) nq))
              go_wp2_with fail
              go_roundw
              case rel => exact ⟨r + 1, by omega, by go_num, by rw [HNX.out]; exact HB6.out⟩
              case measure => simp [intOf]; omega
            · have f1 : ¬ (l.size : Int) ≤ ((w0.size - i : Nat) : Int) := by omega
              go_quiet (fail)
              have HB6 := Lib.hid (HB5.out.later (below_drewN (Below.refl _ _) nq))
              go_wp2_with fail
              go_roundw
              case rel => exact ⟨r + 1, by omega, by go_num, by rw [HNX.out]; exact HB6.out⟩
              case measure => simp [intOf]; omega
          · have hf := HFT.out hp
            have HNX := Lib.hid (HY.out hp)
            have he := HEX.out.trans hp
            clear hp HY HN HFT
            generalize hX : stTo R w0 i r = X at *
            clear hX
            have f1 : (l.size : Int) ≤ ((w0.size - i : Nat) : Int) := by omega
            have f2 : ((i + l.size : Nat) : Int) ≤ (w0.size : Int) := by omega
            go_quiet (fail)
            have HB6 := Lib.hid (HB5.out.later (below_drewN (Below.refl _ _) nq))
            go_wp2_with (at_builtin; refine wpList_app1 rfl _ _ rfl Tryz.underlying121 Tryz.infoStep2 rfl (by decide) rfl HB6.out rfl ?c1 ?c2 ?c3 ?c4 ?c5)
            case c2 => intro u hu; simp at hu; rcases hu with rfl | rfl <;> rfl
            case c3 => unfold maxLen; omega
            case c4 => omega
            case c1 => rfl
            intro v4 w4 hb4
            have HB4 : Hid (Bld 136 2 w1 w4 v4 (stTo R w0 i (r + 1)).length (cellsL stV (stTo R w0 i (r + 1)))) := Lib.hid (by
              rw [HNX.out, List.length_append, cells_stV]; exact hb4)
            obtain ⟨a4, c4, hv4⟩ := owns_form HB4.out.1
            subst hv4
            clear hb4
            go_wp2_with fail
            go_roundw
            case rel => exact ⟨r + 1, by omega, by go_num, HB4.out⟩
            case measure => simp [intOf]; omega
        · obtain rfl : r = R.length := by omega
          have HB2 : Hid (Bld 136 2 w1 wr (.slice a2 (stTo R w0 i R.length).length c2) (stTo R w0 (i + 1) 0).length (cellsL stV (stTo R w0 (i + 1) 0))) := Lib.hid (by rw [← HXT.out]; exact HB.out)
          clear hbd
          go_wp2_with fail
          go_roundw
          case rel => exact ⟨i + 1, by omega, by go_num, HB2.out⟩
          case measure => simp [intOf]; omega
    · obtain rfl : i = w0.size := by omega
      have F : Hid (RetSl 136 2 (stepsF R w0).length (cellsL stV (stepsF R w0)) w (.returned (.slice ao (stTo R w0 w0.size 0).length co)) wr) := Lib.hid (by
        rw [stTo_done] at HB ⊢
        exact ((HB.out.since HW1.out).ret))
      go_wp2_with fail
      go_ret
      exact F.out
end Go.Proofs.YtmgdglghjlggnaaGreat
namespace Go.Proofs.YtmgdglghjlggnaaGreat
open Go.RowKit
set_option linter.unusedVariables false
/-- what FirstStep hands back -/
def RetFS (R : List RulD) (w0 : ByteArray) (w : World) (e : Ending) (w' : World) : Prop :=
  Below w.heap.size w w' ∧ ((∃ s, (stepsF R w0).head? = some s ∧ e = .returned (.tuple #[.agg #[.int .i64 (s.1 : Nat), .int .i64 (s.2 : Nat)], .bool true])) ∨ ((stepsF R w0).head? = none ∧ e = .returned (.tuple #[.agg #[.int .i64 0, .int .i64 0], .bool false])))
theorem box_facts {W : World} {T : TypeId} {u v : Value} {W2 : World} (hb : Below (W.alloc (.cells #[u, v] T)).heap.size (W.alloc (.cells #[u, v] T)) W2) : (W2.cell? ⟨W.heap.size, 0, none⟩ = some u ∧ W2.cell? ⟨W.heap.size, 1, none⟩ = some v) ∧ W2.frozen? ⟨W.heap.size, 0, none⟩ = false ∧ W2.frozen? ⟨W.heap.size, 1, none⟩ = false := by
  have h := (hb.block W.heap.size (by simp)).trans (alloc_at W _)
  refine ⟨sys_cells h, ?_, ?_⟩ <;> simp [World.frozen?, h]
set_option maxRecDepth 100000 in
set_option maxHeartbeats 2000000 in
theorem specFirstStep_any (k : Int) (R : List RulD) (a : Option Addr) (cap : Nat) (w0 : ByteArray) (w : World) (hl : RulesIn w a R) (hs : sysP k R) (hw : w0.size ≤ 16) :
    Calls Tryz.prog 115 #[.agg #[.int .i64 k, .slice a R.length cap], .string w0] w (RetFS R w0 w) := by
  have HL := Lib.hid hl
  have HSO := Lib.hid (fun W h => specStepsOf_any k R a cap w0 W h hs hw)
  have HA := Lib.hid (fun o => alloc_belowS w o)
  have HA2 := Lib.hid (fun o o2 => Below.now (alloc_belowS w o) (alloc_belowS (w.alloc o) o2))
  have e1 : (w.alloc (.cells #[.int .i64 k, .slice a R.length cap] 67)).heap.size = w.heap.size + 1 := by simp
  have HBX := Lib.hid (fun W2 (h : Below ((w.alloc (.cells #[.int .i64 k, .slice a R.length cap] 67)).alloc (.cells #[.int .i64 0, .int .i64 0] 136)).heap.size ((w.alloc (.cells #[.int .i64 k, .slice a R.length cap] 67)).alloc (.cells #[.int .i64 0, .int .i64 0] 136)) W2) => box_facts h)
  rw [e1] at HBX
  have hlen := stepsF_len R w0
  clear hl hs e1
  go_enter Tryz.func115, Tryz.ntmps115
  go_wp2_with fail
  refine (HSO.out _ (HL.out.later (HA2.out _ _))).mono ?_
  rintro e w1 ⟨a2, c2, rfl, ho, hb1⟩
  obtain ⟨⟨b0, b1⟩, f0, f1⟩ := HBX.out w1 hb1
  have HW1 := Lib.hid (Below.now (HA2.out _ _) hb1)
  have HI := Lib.hid (owns_rows ho)
  have HSZ : Hid (w.heap.size ≤ w.heap.size + 1) := Lib.hid (by omega)
  clear hb1 ho HSO HBX
  cases hx : stepsF R w0 with
  | nil =>
    have hhd : (stepsF R w0).head? = none := by rw [hx]; rfl
    have HHD := Lib.hid hhd
    clear hhd
    rw [hx] at HI
    clear hx
    go_wp2_with fail
    refine bodyPost_ret (v := .tuple #[.agg #[.int .i64 0, .int .i64 0], .bool false]) ?_ rfl ?_
    · simp [results, Tryz.results115, go_sem, b0, b1]
    · exact ⟨(HW1.out.setCell (show w.heap.size ≤ w.heap.size + 1 by omega) _).setCell (show w.heap.size ≤ w.heap.size + 1 by omega) _, .inr ⟨HHD.out, rfl⟩⟩
  | cons s l =>
    have hhd : (stepsF R w0).head? = some s := by rw [hx]; rfl
    have HHD := Lib.hid hhd
    clear hhd
    rw [hx] at HI hlen
    obtain ⟨b, off, rfl, hb, hc⟩ := RowsIn.cell stV_len (by omega) HI.out (i := 0) (by simp)
    have c0 : w1.cell? ⟨b, off, none⟩ = some (.int .i64 (s.1 : Nat)) := hc 0 (by simp) 0 _ rfl
    have c1 : w1.cell? ⟨b, off + 1, none⟩ = some (.int .i64 (s.2 : Nat)) := hc 0 (by simp) 1 _ rfl
    obtain ⟨n, hn⟩ : ∃ n, (s :: l).length = n + 1 := ⟨l.length, rfl⟩
    rw [hn]
    obtain ⟨x, y⟩ := s
    clear hx hc hlen hn
    go_wp2_with fail
    refine bodyPost_ret (v := .tuple #[.agg #[.int .i64 (x : Nat), .int .i64 (y : Nat)], .bool true]) ?_ rfl ?_
    · simp [results, Tryz.results115, go_sem, b0, b1]
    · exact ⟨(HW1.out.setCell (show w.heap.size ≤ w.heap.size + 1 by omega) _).setCell (show w.heap.size ≤ w.heap.size + 1 by omega) _, .inl ⟨(x, y), HHD.out, rfl⟩⟩
theorem apply_ok {k : Int} {R : List RulD} (hs : sysP k R) {w0 : ByteArray} (hw : w0.size ≤ 16) {s : Nat × Nat} (hm : s ∈ stepsF R w0) : s.2 + (nthR R s.1).1.size ≤ w0.size ∧ w0.size - (nthR R s.1).1.size + (nthR R s.1).2.size ≤ 16 := by
  have h := step_size hs hm
  have h2 := h.1
  unfold applyF at h2
  rw [replF_size h.2] at h2
  exact ⟨h.2, by omega⟩
set_option maxRecDepth 100000 in
set_option maxHeartbeats 2000000 in
theorem specApplyStep_any (k : Int) (R : List RulD) (a : Option Addr) (cap : Nat) (w0 : ByteArray) (x y : Nat) (w : World) (hl : RulesIn w a R) (hs : sysP k R) (hw : w0.size ≤ 16) (hm : (x, y) ∈ stepsF R w0) :
    Calls Tryz.prog 116 #[.agg #[.int .i64 k, .slice a R.length cap], .string w0, .agg #[.int .i64 (x : Nat), .int .i64 (y : Nat)]] w fun e w' => e = .returned (.tuple #[.string (applyF R w0 (x, y)), .bool true]) ∧ Below w.heap.size w w' := by
  have HL := Lib.hid hl
  have HSO := Lib.hid (fun W h => specStepsOf_any k R a cap w0 W h hs hw)
  obtain ⟨hm1, hm2, _⟩ := mem_stepsF.1 hm
  have hm2 : x < R.length := hm2
  have hok := apply_ok hs hw hm
  have h8 := left8 hs x
  have h8b : (nthR R x).2.size ≤ 8 := (hs.1.2 _ (nthR_mem hm2)).1.2.2
  have HRA := Lib.hid (fun W => specReplaceAt_ok w0 (nthR R x).2 y (nthR R x).1.size W hok.1 hok.2 (by omega) (by omega))
  have HAP : Hid (applyF R w0 (x, y) = replF w0 y (nthR R x).1.size (nthR R x).2) := Lib.hid rfl
  have HM := Lib.hid hm
  have HA2 := Lib.hid (fun o o2 => Below.now (alloc_belowS w o) (alloc_belowS (w.alloc o) o2))
  have e1 : (w.alloc (.cells #[.int .i64 k, .slice a R.length cap] 67)).heap.size = w.heap.size + 1 := by simp
  have HBX := Lib.hid (fun W2 (h : Below ((w.alloc (.cells #[.int .i64 k, .slice a R.length cap] 67)).alloc (.cells #[.int .i64 (x : Nat), .int .i64 (y : Nat)] 136)).heap.size ((w.alloc (.cells #[.int .i64 k, .slice a R.length cap] 67)).alloc (.cells #[.int .i64 (x : Nat), .int .i64 (y : Nat)] 136)) W2) => (box_facts h).1)
  rw [e1] at HBX
  have HBS := Lib.hid (fun W2 (h : Below ((w.alloc (.cells #[.int .i64 k, .slice a R.length cap] 67)).alloc (.cells #[.int .i64 (x : Nat), .int .i64 (y : Nat)] 136)).heap.size ((w.alloc (.cells #[.int .i64 k, .slice a R.length cap] 67)).alloc (.cells #[.int .i64 (x : Nat), .int .i64 (y : Nat)] 136)) W2) => (box_facts (Below.now (alloc_belowS (w.alloc (.cells #[.int .i64 k, .slice a R.length cap] 67)) _) h)).1)
  have hlen := stepsF_len R w0
  have hlb : w0.size * R.length ≤ 16 * 12 := Nat.mul_le_mul hw hs.1.1.2
  clear hl hs e1 hm hok
  go_enter Tryz.func116, Tryz.ntmps116
  go_wp2_with fail
  refine (HSO.out _ (HL.out.later (HA2.out _ _))).mono ?_
  rintro e w1 ⟨a2, c2, rfl, ho, hb1⟩
  have HW1 := Lib.hid (Below.now (HA2.out _ _) hb1)
  have HB1 : Hid (∀ W, Below w1.heap.size w1 W → (W.cell? ⟨w.heap.size, 0, none⟩ = some (.int .i64 k) ∧ W.cell? ⟨w.heap.size, 1, none⟩ = some (.slice a R.length cap)) ∧ (W.cell? ⟨w.heap.size + 1, 0, none⟩ = some (.int .i64 (x : Nat)) ∧ W.cell? ⟨w.heap.size + 1, 1, none⟩ = some (.int .i64 (y : Nat)))) := Lib.hid (fun W hW => ⟨HBS.out W (Below.now hb1 hW), HBX.out W (Below.now hb1 hW)⟩)
  have HI := Lib.hid (owns_rows ho)
  clear hb1 ho HSO HBX HBS
  generalize hS : stepsF R w0 = S at *
  clear hS
  go_wp2_with fail
  go_loopw [15] (fun vj wr => ∃ j : Nat, j ≤ S.length ∧ vj = .int .i64 (j : Nat) ∧ Hid (∀ i (h : i < S.length), i < j → S[i] ≠ (x, y)) ∧ Below w1.heap.size w1 wr) (fun vj _ => S.length - (intOf vj).toNat)
  case atStart => exact ⟨0, Nat.zero_le _, rfl, Lib.hid (fun i _ h => absurd h (Nat.not_lt_zero _)), Below.refl _ _⟩
  case round =>
    obtain ⟨j, hj, rfl, HNO, hbw⟩ := hrel
    have HBW := Lib.hid hbw
    by_cases hlt : j < S.length
    · obtain ⟨b, off, rfl, hb, hc⟩ := RowsIn.cell stV_len (by omega) (HI.out.later hbw) hlt
      have c0 : wr.cell? ⟨b, off + j * 2, none⟩ = some (.int .i64 (S[j].1 : Nat)) := hc j hlt 0 _ rfl
      have c1 : wr.cell? ⟨b, off + j * 2 + 1, none⟩ = some (.int .i64 (S[j].2 : Nat)) := hc j hlt 1 _ rfl
      have HST : Hid (S[j] ≠ (x, y) → ∀ i (h : i < S.length), i < j + 1 → S[i] ≠ (x, y)) := Lib.hid (fun h i hi hij => by
        by_cases e : i = j
        · subst e; exact h
        · exact HNO.out i hi (by omega))
      have d0 := fun o => (HB1.out _ (Below.now hbw (alloc_belowS wr o))).1.1
      have d1 := fun o => (HB1.out _ (Below.now hbw (alloc_belowS wr o))).1.2
      have d2 := fun o => (HB1.out _ (Below.now hbw (alloc_belowS wr o))).2.1
      have d3 := fun o => (HB1.out _ (Below.now hbw (alloc_belowS wr o))).2.2
      clear hc hbw
      generalize S[j] = z at *
      obtain ⟨z1, z2⟩ := z
      have HBA := Lib.hid (fun o => Below.now HBW.out (alloc_belowS wr o))
      have HBA2 := Lib.hid (fun o o2 => Below.now HBW.out (Below.now (alloc_belowS wr o) (alloc_belowS (wr.alloc o) o2)))
      have hcx : ∀ n : Nat, (n, y) = (n, y) := fun _ => rfl
      by_cases hx : z1 = x
      · subst hx
        by_cases hy : z2 = y
        · subst hy
          obtain ⟨rb, ro, ra, rlt, k0, k1⟩ := rule_at (HL.out.later HW1.out) (HBA.out (.cells #[.int .i64 (z1 : Nat), .int .i64 (z2 : Nat)] 136)) hm2
          subst ra
          have d4 := fun o o2 => (HB1.out _ (HBA2.out o o2)).1.1
          have d5 := fun o o2 => (HB1.out _ (HBA2.out o o2)).1.2
          have d6 := fun o o2 => (HB1.out _ (HBA2.out o o2)).2.1
          have d7 := fun o o2 => (HB1.out _ (HBA2.out o o2)).2.2
          rw [← HAP.out] at HRA
          generalize (nthR R z1).1 = l at *
          generalize (nthR R z1).2 = q at *
          clear hcx
          go_wp2_with fail
          refine (HRA.out _).mono ?_
          rintro e w9 ⟨rfl, hb9⟩
          have HB9 := Lib.hid (Below.now HW1.out (Below.now (HBA2.out _ _) hb9))
          clear hb9 d0 d1 d2 d3 d4 d5 d6 d7 k0 k1 c0 c1
          go_wp2_with fail
          go_ret2
          exact ⟨rfl, HB9.out⟩
        · have F := Lib.hid (HST.out (by simp; exact hy))
          have g1 : ¬ (y : Int) = (z2 : Int) := by omega
          go_wp2_with fail
          go_roundw
          case rel => exact ⟨j + 1, by omega, by go_num, F, HBA.out _⟩
          case measure => simp [intOf]; omega
      · have F := Lib.hid (HST.out (by simp; intro h; exact absurd h hx))
        have g1 : ¬ (x : Int) = (z1 : Int) := by omega
        go_wp2_with fail
        go_roundw
        case rel => exact ⟨j + 1, by omega, by go_num, F, HBA.out _⟩
        case measure => simp [intOf]; omega
    · exfalso
      obtain ⟨i, hi, he⟩ := List.getElem_of_mem HM.out
      exact HNO.out i hi (by omega) he
end Go.Proofs.YtmgdglghjlggnaaGreat
namespace Go.Proofs.YtmgdglghjlggnaaGreat
open Go.RowKit
set_option linter.unusedVariables false
end Go.Proofs.YtmgdglghjlggnaaGreat
namespace Go.Proofs.YtmgdglghjlggnaaGreat
open Go.RowKit
set_option linter.unusedVariables false
def rkV : Value → Nat
  | .string v => rk v.data.toList
  | _ => 0
/-- what l04Trace hands back -/
def RetTr (R : List RulD) (w0 : ByteArray) (w : World) (e : Ending) (w' : World) : Prop := ∃ v x, NormIs R w0 x ∧ e = .returned (.tuple #[v, .string x]) ∧ Below w.heap.size w w'
set_option maxRecDepth 100000 in
set_option maxHeartbeats 2000000 in
theorem l04Trace_any (k : Int) (R : List RulD) (a : Option Addr) (cap : Nat) (w0 : ByteArray) (w : World) (hl : RulesIn w a R) (hs : sysP k R) (hw : wordOkB k w0 = true) :
    Calls Tryz.prog 102 #[.agg #[.int .i64 k, .slice a R.length cap], .string w0] w (RetTr R w0 w) := by
  have HL := Lib.hid hl
  have HS := Lib.hid hs
  have HW := Lib.hid hw
  have HFS := Lib.hid (fun v W h (hv : v.size ≤ 16) => specFirstStep_any k R a cap v W h hs hv)
  have HAS := Lib.hid (fun v x y W h (hv : v.size ≤ 16) hm => specApplyStep_any k R a cap v x y W h hs hv hm)
  have hb1 := alloc_belowS w (.cells #[.int .i64 k, .slice a R.length cap] 67)
  have HBX := Lib.hid (fun W2 (h : Below (w.alloc (.cells #[.int .i64 k, .slice a R.length cap] 67)).heap.size (w.alloc (.cells #[.int .i64 k, .slice a R.length cap] 67)) W2) => box_two h)
  have HTOP := Lib.hid (rk_top (lw_of hw) (wdP_of hw).len)
  clear hl hs hw
  go_enter Tryz.func102, Tryz.ntmps102
  go_wp2_with fail
  have HW1 := Lib.hid hb1
  have HB0 : Hid (Bld 136 2 (w.alloc (.cells #[.int .i64 k, .slice a R.length cap] 67)) ((w.alloc (.cells #[.int .i64 k, .slice a R.length cap] 67)).alloc (.cells #[] 136)) (.slice (some ⟨(w.alloc (.cells #[.int .i64 k, .slice a R.length cap] 67)).heap.size, 0, none⟩) 0 0) 0 []) := Lib.hid (Bld.empty 136 2 _)
  have e1 : (w.alloc (.cells #[.int .i64 k, .slice a R.length cap] 67)).heap.size = w.heap.size + 1 := by simp
  rw [e1] at HB0
  generalize w.alloc (.cells #[.int .i64 k, .slice a R.length cap] 67) = w1 at *
  clear hb1 e1
  go_loopw [1, 6] (fun vw vo wr => ∃ (v : ByteArray) (n : Nat) (xs : List Value), vw = .string v ∧ Hid (wordOkB k v = true) ∧ Hid (∀ x, NormIs R v x → NormIs R w0 x) ∧ Bld 136 2 w1 wr vo n xs ∧ n + rk v.data.toList ≤ rk w0.data.toList) (fun vw _ _ => rkV vw)
  case atStart => exact ⟨w0, 0, [], rfl, HW, Lib.hid (fun x h => h), HB0.out, by omega⟩
  case round =>
    clear HB0
    obtain ⟨v, n, xs, rfl, HV, HNI, hbd, hrk⟩ := hrel
    obtain ⟨ao, co, rfl⟩ := owns_form hbd.1
    have HB := Lib.hid hbd
    obtain ⟨s0, s1⟩ := HBX.out wr hbd.2
    have hv16 := (wdP_of HV.out).len
    have HC := Lib.hid (HFS.out v wr (HL.out.later (Below.now HW1.out hbd.2)) hv16)
    have hn5 : n ≤ 152587890625 := by have := HTOP.out; omega
    have HRK := Lib.hid hrk
    clear hbd hrk
    go_wp2_with fail
    refine HC.out.mono ?_
    rintro e w2 ⟨hb2, ⟨s, hh, rfl⟩ | ⟨hh, rfl⟩⟩
    · obtain ⟨x, y⟩ := s
      have hm := head_mem hh
      have HB2 := Lib.hid hb2
      have HLESS := Lib.hid (step_less HS.out hm)
      have HWD : Hid (wordOkB k (applyF R v (x, y)) = true) := Lib.hid (step_word HS.out HV.out hm)
      have HNI2 : Hid (∀ z, NormIs R (applyF R v (x, y)) z → NormIs R w0 z) := Lib.hid (fun z hz => HNI.out z (.step hh hz))
      have HAC := Lib.hid (fun W h => HAS.out v x y W h hv16 hm)
      have s2 := fun o => (HBX.out _ (Below.now HB.out.2 (Below.now hb2 (alloc_belowS w2 o)))).1
      have s3 := fun o => (HBX.out _ (Below.now HB.out.2 (Below.now hb2 (alloc_belowS w2 o)))).2
      have HLL := Lib.hid (fun o => HL.out.later (Below.now HW1.out (Below.now HB.out.2 (Below.now hb2 (alloc_belowS w2 o)))))
      clear hh hm hb2 s0 s1 HC
      generalize applyF R v (x, y) = v2 at *
      go_wp2_with fail
      refine (HAC.out _ (HLL.out _)).mono ?_
      rintro e w3 ⟨rfl, hb3⟩
      obtain ⟨t0, t1⟩ := box_two hb3
      have HB3 := Lib.hid (HB.out.later (Below.now HB2.out (Below.now (alloc_belowS w2 _) hb3)))
      clear hb3 s2 s3 HAC HLL
      go_wp2_with (at_builtin; refine wpList_app1 rfl _ _ rfl Tryz.underlying121 Tryz.infoStep2 rfl (by decide) rfl HB3.out rfl ?c1 ?c2 ?c3 ?c4 ?c5)
      case c2 => intro u hu; simp at hu; rcases hu with rfl | rfl <;> rfl
      case c3 => unfold maxLen; omega
      case c4 => omega
      case c1 => rfl
      intro v4 w4 hb4
      obtain ⟨a4, c4, hv4⟩ := owns_form hb4.1
      subst hv4
      have HB4 := Lib.hid hb4
      clear hb4 t0 t1
      go_wp2_with fail
      go_roundw
      case rel => exact ⟨v2, n + 1, _, rfl, HWD, HNI2, HB4.out, by have := HLESS.out; have := HRK.out; omega⟩
      case measure => exact HLESS.out
    · have F : Hid (∀ o, RetTr R w0 w (.returned (.tuple #[.slice ao n co, .string v])) (w2.alloc o)) := Lib.hid (fun o => ⟨_, v, HNI.out v (.done hh), rfl, Below.now HW1.out (Below.now HB.out.2 (Below.now hb2 (alloc_belowS w2 o)))⟩)
      clear hh hb2 s0 s1 HC
      go_wp2_with fail
      go_ret2
      exact F.out _
set_option maxHeartbeats 1000000 in
theorem l04Ok_any (k : Int) (R : List RulD) (a : Option Addr) (cap : Nat) (w0 : ByteArray) (w : World) (hl : RulesIn w a R) (hlen : R.length ≤ 2 ^ 40) (hz : SzR R) (hw : w0.size ≤ maxLen) :
    Calls Tryz.prog 101 #[.agg #[.int .i64 k, .slice a R.length cap], .string w0] w (RetP (sysP k R ∧ wordOkB k w0 = true) w) := by
  have HL := Lib.hid hl
  have HSO := Lib.hid (fun W h => specSystemOk_any k R a cap W h hlen hz)
  have HWO := Lib.hid (fun W => specWordOk_any k w0 W hw)
  have HBX := Lib.hid (fun W2 (h : Below (w.alloc (.cells #[.int .i64 k, .slice a R.length cap] 67)).heap.size (w.alloc (.cells #[.int .i64 k, .slice a R.length cap] 67)) W2) => box_two h)
  have HA := Lib.hid (fun o => alloc_belowS w o)
  clear hl hz
  go_enter Tryz.func101, Tryz.ntmps101
  go_wp2_with fail
  refine (HSO.out _ (HL.out.later (HA.out _))).mono ?_
  rintro e w1 ⟨bb, hbb, rfl, hb1⟩
  obtain ⟨s0, s1⟩ := HBX.out _ hb1
  have HBB := Lib.hid hbb
  have HW1 := Lib.hid (Below.now (HA.out _) hb1)
  clear hbb hb1
  cases bb
  · have F : Hid (RetP (sysP k R ∧ wordOkB k w0 = true) w (.returned (.bool false)) w1) := Lib.hid (RetP.no (fun h => by have := HBB.out.2 h.1; cases this) HW1.out)
    go_wp2_with fail
    go_ret
    exact F.out
  · have F : Hid (RetP (sysP k R ∧ wordOkB k w0 = true) w (.returned (.bool (wordOkB k w0))) w1) := Lib.hid ⟨_, ⟨fun h => ⟨HBB.out.1 rfl, h⟩, fun h => h.2⟩, rfl, HW1.out⟩
    generalize wordOkB k w0 = ok at *
    go_wp2_with fail
    refine (HWO.out _).mono ?_
    rintro e w2 ⟨rfl, rfl⟩
    go_wp2_with fail
    go_ret
    exact F.out
set_option maxHeartbeats 1000000 in
theorem specNormalForm_ok (k : Int) (R : List RulD) (a : Option Addr) (cap : Nat) (w0 : ByteArray) (w : World) (hl : RulesIn w a R) (hs : sysP k R) (hw : wordOkB k w0 = true) :
    Calls Tryz.prog 75 #[.agg #[.int .i64 k, .slice a R.length cap], .string w0] w fun e w' => ∃ x, NormIs R w0 x ∧ e = .returned (.tuple #[.string x, .bool true]) ∧ Below w.heap.size w w' := by
  have HL := Lib.hid hl
  have hz : SzR R := fun j hj => by have := (hs.1.2 _ (nthR_mem hj)).1.2; unfold maxLen; omega
  have HOK := Lib.hid (fun W h => l04Ok_any k R a cap w0 W h (by have := hs.1.1.2; omega) hz (by have := (wdP_of hw).len; unfold maxLen; omega))
  have HYES : Hid (sysP k R ∧ wordOkB k w0 = true) := Lib.hid ⟨hs, hw⟩
  have HTR := Lib.hid (fun W h => l04Trace_any k R a cap w0 W h hs hw)
  have HBX := Lib.hid (fun W2 (h : Below (w.alloc (.cells #[.int .i64 k, .slice a R.length cap] 67)).heap.size (w.alloc (.cells #[.int .i64 k, .slice a R.length cap] 67)) W2) => box_two h)
  have HA := Lib.hid (fun o => alloc_belowS w o)
  clear hl hz hs hw
  go_enter Tryz.func75, Tryz.ntmps75
  go_wp2_with fail
  refine (HOK.out _ (HL.out.later (HA.out _))).mono ?_
  rintro e w1 ⟨bb, hbb, rfl, hb1⟩
  obtain rfl := hbb.2 HYES.out
  obtain ⟨s0, s1⟩ := HBX.out _ hb1
  have HW1 := Lib.hid (Below.now (HA.out _) hb1)
  clear hbb hb1
  go_wp2_with fail
  refine (HTR.out _ (HL.out.later HW1.out)).mono ?_
  rintro e w2 ⟨v, x, hx, rfl, hb2⟩
  have HX := Lib.hid hx
  have HW2 := Lib.hid (Below.now HW1.out hb2)
  clear hx hb2
  go_wp2_with fail
  go_ret2
  exact ⟨x, HX.out, rfl, HW2.out⟩
end Go.Proofs.YtmgdglghjlggnaaGreat
namespace Go.Proofs.YtmgdglghjlggnaaGreat
open Go.RowKit
set_option linter.unusedVariables false
end Go.Proofs.YtmgdglghjlggnaaGreat
