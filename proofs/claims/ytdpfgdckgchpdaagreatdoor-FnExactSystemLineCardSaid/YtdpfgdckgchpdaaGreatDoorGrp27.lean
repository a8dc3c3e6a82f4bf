/-
  GrowthOf and GrowthLine of the reference.
-/
import Derived.Test.YtdpfgdckgchpdaaGreatDoorGrp26
import Derived.Test.YtdpfgdckgchpdaaGreatDoorGrp07
import Derived.Test.YtdpfgdckgchpdaaGreatDoorGrp24
import Derived.Test.YtdpfgdckgchpdaaGreatDoorGrp25
namespace Go.Proofs.YtdpfgdckgchpdaaGreatDoor
open Go.RowKit
set_option linter.unusedVariables false
/-- the library's table of powers of ten lies where it was laid -/
def Tab10 (w : World) : Prop := Lib.TabIs Tryz.prog w "internal/strconv.uint64pow10" .u64 Lib.pow10Tab
theorem Tab10.later {w w' : World} (h : Tab10 w) (hb : Below w.heap.size w w') : Tab10 w' := by
  have hg : Tryz.prog.globalNamed "internal/strconv.uint64pow10" = some 1 := by kernel_rfl
  unfold Tab10 Lib.TabIs World.var? at h ⊢
  rw [hg] at h ⊢
  simp only [Option.bind_some] at h ⊢
  have hlt : 1 < w.heap.size := by
    rcases Nat.lt_or_ge 1 w.heap.size with h' | h'
    · exact h'
    · rw [Array.getElem?_eq_none h'] at h; simp at h
  rw [hb.block _ hlt]
  exact h
theorem below_grow (w : World) (q : Nat) (os : Array Obj) : Below w.heap.size w (Go.Sort.grow (w.drewN q) os) := below_wide w ⟨w.drawn + q, os⟩
/-- the numeral of an integer -/
def numB (n : Int) : ByteArray := ⟨(Lib.itoa n).toArray⟩
set_option maxHeartbeats 400000 in
theorem implFormatInt_any (n : Int) (w : World) (h0 : -9223372036854775808 ≤ n) (h1 : n ≤ 9223372036854775807) (ht : Tab10 w) :
    Calls Tryz.prog 37 #[.int .i64 n] w fun e w' => e = .returned (.string (numB n)) ∧ Below w.heap.size w w' := by
  have HC := Lib.hid (Tryz.strconv_Itoa n h0 h1 w ht)
  clear ht
  go_enter Tryz.func37, Tryz.ntmps37
  go_wp2_with fail
  refine HC.out.mono ?_
  rintro e w2 ⟨rfl, k, os, rfl⟩
  have hb := below_grow w k os
  generalize Go.Sort.grow (w.drewN k) os = w2 at *
  go_wp2_with fail
  go_ret
  exact ⟨rfl, hb⟩
theorem itoa_len {n : Int} (h0 : -9223372036854775808 ≤ n) (h1 : n ≤ 9223372036854775807) : (numB n).size ≤ 21 := by
  show (Lib.itoa n).toArray.size ≤ 21
  rw [List.size_toArray]
  unfold Lib.itoa
  split
  · have := decDigits_len (n := n.natAbs) (by omega); simp; omega
  · have := decDigits_len (n := n.toNat) (by omega); omega
/-- the numerals of the first j -/
def numTo (l : List Int) (j : Nat) : List ByteArray := (l.take j).map numB
theorem numTo_len {l : List Int} {j : Nat} (h : j ≤ l.length) : (numTo l j).length = j := by simp [numTo]; omega
theorem numTo_succ {l : List Int} {j : Nat} (h : j < l.length) : numTo l (j + 1) = numTo l j ++ [numB (nthZ l j)] := by
  unfold numTo; rw [List.take_succ_eq_append_getElem h, nthZ_lt h, List.map_append]; rfl
theorem numTo_sum {l : List Int} (hr : Rng64 l) : ∀ j, j ≤ l.length → strSum (numTo l j) ≤ 21 * j
  | 0, _ => by simp [numTo, strSum]
  | j + 1, h => by
    have h1 := numTo_sum hr j (by omega)
    have h2 := itoa_len (hr j (by omega)).1 (hr j (by omega)).2
    rw [numTo_succ (by omega)]
    unfold strSum at *
    rw [List.map_append, List.sum_append]
    simp only [List.map_cons, List.map_nil, List.sum_cons, List.sum_nil, Nat.add_zero]
    omega
/-- FormatNumbers as a function of plain data -/
def fmtNums (l : List Int) : ByteArray := if l.length = 0 then ⟨#[45]⟩ else joinF (numTo l l.length) ⟨#[44]⟩
theorem fmtNums_zero {l : List Int} (h : l.length = 0) : fmtNums l = ⟨#[45]⟩ := by simp [fmtNums, h]
theorem fmtNums_pos {l : List Int} (h : 0 < l.length) : fmtNums l = joinF (numTo l l.length) ⟨#[44]⟩ := by simp only [fmtNums, if_neg (show ¬ l.length = 0 by omega)]
theorem fmtNums_size {l : List Int} (hr : Rng64 l) (h : l.length ≤ 2 ^ 40) : (joinF (numTo l l.length) ⟨#[44]⟩).size ≤ 2 ^ 46 := by
  have h1 := joinF_size (numTo l l.length) ⟨#[44]⟩
  have h3 := numTo_sum hr l.length (Nat.le_refl _)
  rw [numTo_len (Nat.le_refl _)] at h1
  have : (ByteArray.mk #[44]).size = 1 := rfl
  rw [this] at h1
  omega
set_option maxHeartbeats 1000000 in
theorem implFormatNumbers_any (l : List Int) (a : Option Addr) (cap : Nat) (w : World) (hl : IntsIn w a l) (hlen : l.length ≤ 2 ^ 40) (hr : Rng64 l) (ht : Tab10 w) :
    Calls Tryz.prog 40 #[.slice a l.length cap] w fun e w' => e = .returned (.string (fmtNums l)) ∧ Below w.heap.size w w' := by
  have HL := Lib.hid hl
  have HT := Lib.hid ht
  have HZ := Lib.hid (fmtNums_size hr hlen)
  have HR := Lib.hid hr
  clear hl hr ht
  rcases Nat.eq_zero_or_pos l.length with h0 | h0
  · have F := Lib.hid (fmtNums_zero h0)
    rw [h0]
    go_enter Tryz.func40, Tryz.ntmps40
    go_wp2_with fail
    go_ret
    exact ⟨ret_str F.out.symm, Below.refl _ _⟩
  have F := Lib.hid (fmtNums_pos h0)
  have HS := Lib.hid (Bld.nil 9 1 (Below.refl w.heap.size w))
  have hn0 : ((l.length : Int) == 0) = false := by rw [beq_eq_false_iff_ne]; omega
  go_enter Tryz.func40, Tryz.ntmps40
  go_wp2_with fail
  go_loopw [3, 11] (fun v i wr => ∃ j : Nat, j ≤ l.length ∧ i = .int .i64 j ∧ Bld 9 1 w wr v j (strVals (numTo l j))) (fun _ i _ => l.length - (intOf i).toNat)
  case atStart => exact ⟨0, Nat.zero_le _, rfl, HS.out⟩
  case round =>
    clear HS
    obtain ⟨j, hj, rfl, hbd⟩ := hrel
    obtain ⟨a3, c3, rfl⟩ := owns_form hbd.1
    have HB := Lib.hid hbd
    have hbw := hbd.2
    clear hbd
    by_cases hlt : j < l.length
    · obtain ⟨b, off, rfl, hb, hc⟩ := (HL.out.later hbw).cell hlt
      have c1 := hc j hlt
      have F1 := Lib.hid (numTo_succ hlt)
      clear hc
      go_wp2_with fail
      refine (implFormatInt_any _ _ (HR.out j hlt).1 (HR.out j hlt).2 (HT.out.later hbw)).mono ?_
      rintro e w2 ⟨rfl, hb2⟩
      replace HB := Lib.hid (HB.out.later hb2)
      clear hb2 hbw c1 hb
      go_wp2_with (at_builtin; refine wpList_app1 rfl _ _ rfl Tryz.underlying36 Tryz.infoStr rfl (by decide) rfl HB.out rfl rfl ?c1 ?c2 ?c3 ?c4)
      case c1 => simp [Value.oneCell']
      case c2 => unfold maxLen; omega
      case c3 => omega
      intro v2 w4 hb2
      have F2 : Hid (Bld 9 1 w w4 v2 (j + 1) (strVals (numTo l (j + 1)))) := by
        rw [F1.out]; unfold strVals at *; rw [List.map_append]; exact Lib.hid hb2
      clear hb2
      go_wp2_with fail
      go_roundw
      case rel => exact ⟨j + 1, by omega, by go_num, F2.out⟩
      case measure => simp [intOf]; omega
    · obtain rfl : j = l.length := by omega
      have hdl := numTo_len (l := l) (Nat.le_refl _)
      go_wp2_with fail
      have hJ := implJoin_any (numTo l l.length) ⟨#[44]⟩ a3 c3 wr (owns_strs HB.out.1) (by decide) (by decide) (by omega) (by rw [hdl]; exact owns_capS HB.out.1) HZ.out
      rw [hdl] at hJ
      refine hJ.mono ?_
      rintro e w5 ⟨rfl, hb5⟩
      replace hbw := Below.now hbw hb5
      clear hb5 hJ
      go_wp2_with fail
      go_ret
      exact ⟨ret_str F.out.symm, hbw⟩
end Go.Proofs.YtdpfgdckgchpdaaGreatDoor
namespace Go.Proofs.YtdpfgdckgchpdaaGreatDoor
open Go.RowKit
set_option linter.unusedVariables false
theorem CellsIn.grownC {w w' : World} {r : Option Nat} {a : Option Addr} {xs : List Value} (h : CellsIn w a xs) (hg : w.grownBy w' r) (hne : ∀ x, a = some x → some x.block ≠ r) : CellsIn w' a xs := by
  rcases h with h | ⟨b, off, ha, hc⟩
  · exact .inl h
  · refine .inr ⟨b, off, ha, fun i hi => ?_⟩
    have h1 := hc i hi
    rw [World.cell?_of_block (hg.block b (World.block_lt_of_cell? w _ h1) (hne _ ha))]
    exact h1
/-- a slice lies away from another one -/
def Away (w : World) (a : Option Addr) (v : Value) : Prop := ∀ x, a = some x → x.block < w.heap.size ∧ some x.block ≠ v.ownBlock
theorem Away.append {wr w' : World} {a : Option Addr} {v v' : Value} {y : Value} {T : TypeId} (h : Away wr a v) (hg : (wr.alloc (.cells #[y] T)).grownBy w' v.ownBlock) (ho : v'.ownBlock = v.ownBlock ∨ v'.ownBlock = some (wr.alloc (.cells #[y] T)).heap.size) : Away w' a v' := fun x hx => by
  obtain ⟨h1, h2⟩ := h x hx
  have hs := hg.size
  simp at hs
  refine ⟨by omega, ?_⟩
  rcases ho with h3 | h3
  · rw [h3]; exact h2
  · rw [h3]
    simp
    omega
def zVals (l : List Int) : List Value := l.map (Value.int .i64)
theorem zVals_app (l : List Int) (y : Int) : zVals (l ++ [y]) = zVals l ++ [.int .i64 y] := by simp [zVals]
theorem zVals_len (l : List Int) : (zVals l).length = l.length := by simp [zVals]
/-- what GrowthOf answers -/
def growP (k : Int) (R : List RulD) (n : Int) : Prop := sysP k R ∧ 0 ≤ n ∧ n ≤ 16
def growO (k : Int) (R : List RulD) (n : Int) : List Int := growL R k.toNat n.toNat
def RetGrow (k : Int) (R : List RulD) (n : Int) (w : World) (e : Ending) (w' : World) : Prop :=
  (¬ growP k R n ∧ e = .returned (.slice none 0 0) ∧ Below w.heap.size w w') ∨ (growP k R n ∧ RetSl 3 1 (growO k R n).length (zVals (growO k R n)) w e w')
theorem growL_rng {R : List RulD} {k n : Nat} (hk : k ≤ 4) (hn : n ≤ 16) : Rng64 (growL R k n) := fun j hj => by
  rw [growL_len] at hj
  have h1 : nthZ (growL R k n) j = ((paths R k j ⟨#[]⟩ : Nat) : Int) := by
    rw [nthZ_lt (by rw [growL_len]; exact hj)]; simp [growL]
  have h2 := paths_le (R := R) hk j ⟨#[]⟩
  have h3 := pow16 (show j ≤ 17 by omega)
  rw [h1]; omega
theorem sys_sizes {k : Int} {R : List RulD} (h : sysP k R) : R.length ≤ 12 ∧ (∀ j, j < R.length → (nthR R j).1.size ≤ 8 ∧ (nthR R j).2.size ≤ 8) ∧ (1 ≤ k ∧ k ≤ 4) :=
  ⟨h.1.1.2, fun j hj => (h.1.2 _ (nthR_mem hj)).1.2, h.1.1.1⟩
/-- what GrowthLine hands back -/
def RetLine (k : Int) (R : List RulD) (n : Int) (w : World) (e : Ending) (w' : World) : Prop :=
  (¬ growP k R n ∧ e = .returned (.string ⟨#[110, 111, 110, 101]⟩) ∧ Below w.heap.size w w') ∨ (growP k R n ∧ e = .returned (.string (fmtNums (growO k R n))) ∧ Below w.heap.size w w')
end Go.Proofs.YtdpfgdckgchpdaaGreatDoor
