/-
  Texts of links: what is written is read.
-/
import Derived.Test.YtklbehapbchnaaaDoorPrl04
import Derived.Lib.Atoi
import Derived.Lib.AtoiAll
import Derived.Lib.IndexLaws
namespace Go.Proofs.YtklbehapbchnaaaDoor
open Go.RowKit
set_option linter.unusedVariables false
/-- the cells of links -/
def linkCells : List (Int × Int × Bool) → List Value
  | [] => []
  | p :: l => .int .i64 p.1 :: .int .i64 p.2.1 :: .bool p.2.2 :: linkCells l
theorem linkCells_len : ∀ l : List (Int × Int × Bool), (linkCells l).length = l.length * 3
  | [] => rfl
  | p :: l => by simp only [linkCells, List.length_cons, linkCells_len l]; omega
/-- the link at a place -/
def nthK (l : List (Int × Int × Bool)) (j : Nat) : Int × Int × Bool := l.getD j (0, 0, false)
theorem linkCells_at : ∀ (l : List (Int × Int × Bool)) (j : Nat), j < l.length → (linkCells l)[j * 3]? = some (.int .i64 (nthK l j).1) ∧ (linkCells l)[j * 3 + 1]? = some (.int .i64 (nthK l j).2.1) ∧ (linkCells l)[j * 3 + 2]? = some (.bool (nthK l j).2.2)
  | [], j, h => by simp at h
  | p :: l, 0, _ => by simp [linkCells, nthK]
  | p :: l, j + 1, h => by
    have := linkCells_at l j (by simpa using h)
    rw [show (j + 1) * 3 = j * 3 + 3 by omega, show j * 3 + 3 + 1 = (j * 3 + 1) + 3 by omega, show j * 3 + 3 + 2 = (j * 3 + 2) + 3 by omega]
    have e1 : ∀ n, (linkCells (p :: l))[n + 3]? = (linkCells l)[n]? := fun n => rfl
    have e2 : nthK (p :: l) (j + 1) = nthK l j := rfl
    rw [e1, e1, e1, e2]
    exact this
/-- a slice of links -/
def LinksIn (w : World) (a : Option Addr) (l : List (Int × Int × Bool)) : Prop := CellsIn w a (linkCells l)
theorem LinksIn.later {w w' : World} {a : Option Addr} {l : List (Int × Int × Bool)} (h : LinksIn w a l) (hb : Below w.heap.size w w') : LinksIn w' a l := CellsIn.later h hb
theorem LinksIn.cell {w : World} {a : Option Addr} {l : List (Int × Int × Bool)} (h : LinksIn w a l) {i : Nat} (hi : i < l.length) :
    ∃ b off, a = some ⟨b, off, none⟩ ∧ b < w.heap.size ∧ ∀ j, j < l.length → w.cell? ⟨b, off + j * 3, none⟩ = some (.int .i64 (nthK l j).1) ∧ w.cell? ⟨b, off + j * 3 + 1, none⟩ = some (.int .i64 (nthK l j).2.1) ∧ w.cell? ⟨b, off + j * 3 + 2, none⟩ = some (.bool (nthK l j).2.2) := by
  rcases h with h | ⟨b, off, ha, hc⟩
  · have := linkCells_len l
    rw [h, List.length_nil] at this
    omega
  · have key : ∀ j, j < l.length → w.cell? ⟨b, off + j * 3, none⟩ = some (.int .i64 (nthK l j).1) ∧ w.cell? ⟨b, off + j * 3 + 1, none⟩ = some (.int .i64 (nthK l j).2.1) ∧ w.cell? ⟨b, off + j * 3 + 2, none⟩ = some (.bool (nthK l j).2.2) := fun j hj => by
      obtain ⟨h1, h2, h3⟩ := linkCells_at l j hj
      have hlen := linkCells_len l
      have c1 := hc (j * 3) (by omega)
      have c2 := hc (j * 3 + 1) (by omega)
      have c3 := hc (j * 3 + 2) (by omega)
      rw [List.getElem?_eq_getElem (by omega)] at h1 h2 h3
      rw [Option.some.inj h1] at c1
      rw [Option.some.inj h2] at c2
      rw [Option.some.inj h3] at c3
      exact ⟨c1, by rw [← Nat.add_assoc] at c2; exact c2, by rw [← Nat.add_assoc] at c3; exact c3⟩
    exact ⟨b, off, ha, World.block_lt_of_cell? w _ (key i hi).1, key⟩
theorem owns_links {w : World} {base : Nat} {T : TypeId} {size : Nat} {a : Option Addr} {n m cap : Nat} {l : List (Int × Int × Bool)} (h : w.ownsRow base T size (.slice a m cap) n (linkCells l)) : LinksIn w a l := owns_cells h
/-- the numbers are ints -/
def RngK (l : List (Int × Int × Bool)) : Prop := ∀ j, j < l.length → (-9223372036854775808 ≤ (nthK l j).1 ∧ (nthK l j).1 ≤ 9223372036854775807) ∧ (-9223372036854775808 ≤ (nthK l j).2.1 ∧ (nthK l j).2.1 ≤ 9223372036854775807)
def signB (b : Bool) : ByteArray := if b = true then ⟨#[45]⟩ else ⟨#[43]⟩
/-- the text of a link -/
def linkB (p : Int × Int × Bool) : ByteArray := signB p.2.2 ++ numB p.1 ++ ⟨#[64]⟩ ++ numB p.2.1
def linkTo (l : List (Int × Int × Bool)) (j : Nat) : List ByteArray := (l.take j).map linkB
theorem linkTo_len {l : List (Int × Int × Bool)} {j : Nat} (h : j ≤ l.length) : (linkTo l j).length = j := by simp [linkTo]; omega
theorem nthK_lt {l : List (Int × Int × Bool)} {j : Nat} (h : j < l.length) : nthK l j = l[j] := by simp [nthK, List.getD_eq_getElem?_getD, h]
theorem linkTo_succ {l : List (Int × Int × Bool)} {j : Nat} (h : j < l.length) : linkTo l (j + 1) = linkTo l j ++ [linkB (nthK l j)] := by
  unfold linkTo; rw [List.take_succ_eq_append_getElem h, nthK_lt h, List.map_append]; rfl
theorem signB_size (b : Bool) : (signB b).size = 1 := by cases b <;> rfl
theorem linkTo_sum {l : List (Int × Int × Bool)} (hr : RngK l) : ∀ j, j ≤ l.length → strSum (linkTo l j) ≤ 44 * j
  | 0, _ => by simp [linkTo, strSum]
  | j + 1, h => by
    have h1 := linkTo_sum hr j (by omega)
    have h2 := itoa_len (hr j (by omega)).1.1 (hr j (by omega)).1.2
    have h3 := itoa_len (hr j (by omega)).2.1 (hr j (by omega)).2.2
    have h4 := signB_size (nthK l j).2.2
    rw [linkTo_succ (by omega)]
    unfold strSum linkB at *
    rw [List.map_append, List.sum_append]
    simp only [List.map_cons, List.map_nil, List.sum_cons, List.sum_nil, Nat.add_zero, ByteArray.size_append]
    have : (ByteArray.mk #[64]).size = 1 := rfl
    omega
/-- FormatLinks as a function of plain data -/
def fmtLinks (l : List (Int × Int × Bool)) : ByteArray := if l.length = 0 then ⟨#[61]⟩ else joinF (linkTo l l.length) ⟨#[32]⟩
theorem fmtLinks_zero {l : List (Int × Int × Bool)} (h : l.length = 0) : fmtLinks l = ⟨#[61]⟩ := by simp [fmtLinks, h]
theorem fmtLinks_pos {l : List (Int × Int × Bool)} (h : 0 < l.length) : fmtLinks l = joinF (linkTo l l.length) ⟨#[32]⟩ := by simp only [fmtLinks, if_neg (show ¬ l.length = 0 by omega)]
theorem fmtLinks_size {l : List (Int × Int × Bool)} (hr : RngK l) (h : l.length ≤ 2 ^ 40) : (joinF (linkTo l l.length) ⟨#[32]⟩).size ≤ 2 ^ 46 := by
  have h1 := joinF_size (linkTo l l.length) ⟨#[32]⟩
  have h3 := linkTo_sum hr l.length (Nat.le_refl _)
  rw [linkTo_len (Nat.le_refl _)] at h1
  have : (ByteArray.mk #[32]).size = 1 := rfl
  rw [this] at h1
  omega
set_option maxRecDepth 20000 in
set_option maxHeartbeats 2000000 in
theorem specFormatLinks_any (l : List (Int × Int × Bool)) (a : Option Addr) (cap : Nat) (w : World) (hl : LinksIn w a l) (hlen : l.length ≤ 2 ^ 40) (hr : RngK l) :
    Calls Tryd.prog 17 #[.slice a l.length cap] w fun e w' => e = .returned (.string (fmtLinks l)) ∧ Below w.heap.size w w' := by
  have HL := Lib.hid hl
  have HZ := Lib.hid (fmtLinks_size hr hlen)
  have HR := Lib.hid hr
  clear hl hr
  have HS := Lib.hid (Bld.empty 9 1 w)
  go_enter Tryd.func17, Tryd.ntmps17
  go_wp2_with fail
  go_loopw [3, 10] (fun v i wr => ∃ j : Nat, j ≤ l.length ∧ i = .int .i64 j ∧ Bld 9 1 w wr v j (strVals (linkTo l j))) (fun _ i _ => l.length - (intOf i).toNat)
  case atStart => exact ⟨0, Nat.zero_le _, rfl, HS.out⟩
  case round =>
    clear HS
    obtain ⟨j, hj, rfl, hbd⟩ := hrel
    obtain ⟨a3, c3, rfl⟩ := owns_form hbd.1
    have HB := Lib.hid hbd
    have hbw := hbd.2
    clear hbd
    by_cases hlt : j < l.length
    · obtain ⟨b, off, rfl, hb, hc⟩ := (HL.out.later hbw).cell hlt
      obtain ⟨c1, c2, d3⟩ := hc j hlt
      have F := Lib.hid (linkTo_succ hlt)
      have hr1 := (HR.out j hlt).1
      have hr2 := (HR.out j hlt).2
      have FS : Hid (linkB (nthK l j) = signB (nthK l j).2.2 ++ numB (nthK l j).1 ++ ⟨#[64]⟩ ++ numB (nthK l j).2.1) := Lib.hid rfl
      have hz1 := itoa_len hr1.1 hr1.2
      have hz2 := itoa_len hr2.1 hr2.2
      generalize (nthK l j).1 = p1 at *
      generalize (nthK l j).2.1 = p2 at *
      generalize (nthK l j).2.2 = bk at *
      have HR1 := Lib.hid hr1
      have HR2 := Lib.hid hr2
      have hA : ¬ 9223372036854775807 < 1 + (numB p1).size := by omega
      have hB : ¬ 9223372036854775807 < 1 + (numB p1).size + 1 := by omega
      have hC : ¬ 9223372036854775807 < 1 + (numB p1).size + 1 + (numB p2).size := by omega
      clear hc hr1 hr2
      cases bk
      · go_wp2_with fail
        obtain ⟨w0, hw0⟩ : ∃ w0, w0 = wr.alloc (.cells #[.int .i64 p1, .int .i64 p2, .bool false] 38) := ⟨_, rfl⟩
        have y0 : w0.cell? ⟨wr.heap.size, 0, none⟩ = some (.int .i64 p1) := by rw [hw0]; simp
        have y1 : w0.cell? ⟨wr.heap.size, 1, none⟩ = some (.int .i64 p2) := by rw [hw0]; simp
        have k0 : Below wr.heap.size wr w0 := by rw [hw0]; exact (Below.refl _ _).alloc (Nat.le_refl _) _
        have HB0 := Lib.hid (HB.out.later k0)
        have hbw0 := Lib.hid (Below.now hbw k0)
        have k := Below.refl w0.heap.size w0
        have hne : (Value.slice a3 j c3).ownBlock ≠ some wr.heap.size := fun e => by have := (HB.out.1.lt _ e).2; omega
        have HC1 : Hid (j + 1 ≤ maxLen) := Lib.hid (by unfold maxLen; omega)
        have HC2 : Hid ((j + 1) * 16 ≤ 140737488355328) := Lib.hid (by omega)
        have hone : ∀ s : ByteArray, ∀ u ∈ [Value.string s], u.oneCell' = true := fun s u hu => by rw [List.mem_singleton.1 hu]; rfl
        rw [← hw0]
        clear hw0 c1 c2 d3 hb k0 hbw HB

        go_region_held3 (fun w' => w'.cell? ⟨wr.heap.size, 0, none⟩ = some (.int .i64 p1) ∧ w'.cell? ⟨wr.heap.size, 1, none⟩ = some (.int .i64 p2)) (go_keep) (first
          | (go_at_call 24; refine (specFormatIntB_any _ _ (by first | exact HR1.out.1 | exact HR2.out.1) (by first | exact HR1.out.2 | exact HR2.out.2)).mono ?_; rintro e w2 ⟨rfl, hb2⟩; replace k : Below w0.heap.size w0 w2 := Below.now (by repeat (first | exact k | refine Below.drew ?_ | refine below_drewN ?_ _)) hb2; have s0 := (k.cell (World.block_lt_of_cell? w0 _ y0)).trans y0; have s1 := (k.cell (World.block_lt_of_cell? w0 _ y1)).trans y1; clear hb2)
          | (refine step_app1g rfl _ _ (by rfl) Tryd.underlying28 Tryd.infoStr rfl (by decide) (by rfl) (HB0.out.later k) (by rfl) rfl (hone _) HC1.out HC2.out ?_; intro v2 w4 hb4 hgr; have t0 := far_cell hgr ((k.cell (World.block_lt_of_cell? w0 _ y0)).trans y0) hne; have t1 := far_cell hgr ((k.cell (World.block_lt_of_cell? w0 _ y1)).trans y1) hne; clear hgr))
        all_goals
          have F2 : Hid (Bld 9 1 w w4 v2 (j + 1) (strVals (linkTo l (j + 1)))) := by
            rw [F.out, FS.out]; unfold strVals at *; rw [List.map_append]; exact Lib.hid hb4
          clear hb4 y0 y1 k hne
          go_wp2_with fail
          go_roundw
          case rel => exact ⟨j + 1, by omega, by go_num, F2.out⟩
          case measure => simp [intOf]; omega
      · go_wp2_with fail
        obtain ⟨w0, hw0⟩ : ∃ w0, w0 = wr.alloc (.cells #[.int .i64 p1, .int .i64 p2, .bool true] 38) := ⟨_, rfl⟩
        have y0 : w0.cell? ⟨wr.heap.size, 0, none⟩ = some (.int .i64 p1) := by rw [hw0]; simp
        have y1 : w0.cell? ⟨wr.heap.size, 1, none⟩ = some (.int .i64 p2) := by rw [hw0]; simp
        have k0 : Below wr.heap.size wr w0 := by rw [hw0]; exact (Below.refl _ _).alloc (Nat.le_refl _) _
        have HB0 := Lib.hid (HB.out.later k0)
        have hbw0 := Lib.hid (Below.now hbw k0)
        have k := Below.refl w0.heap.size w0
        have hne : (Value.slice a3 j c3).ownBlock ≠ some wr.heap.size := fun e => by have := (HB.out.1.lt _ e).2; omega
        have HC1 : Hid (j + 1 ≤ maxLen) := Lib.hid (by unfold maxLen; omega)
        have HC2 : Hid ((j + 1) * 16 ≤ 140737488355328) := Lib.hid (by omega)
        have hone : ∀ s : ByteArray, ∀ u ∈ [Value.string s], u.oneCell' = true := fun s u hu => by rw [List.mem_singleton.1 hu]; rfl
        rw [← hw0]
        clear hw0 c1 c2 d3 hb k0 hbw HB

        go_region_held3 (fun w' => w'.cell? ⟨wr.heap.size, 0, none⟩ = some (.int .i64 p1) ∧ w'.cell? ⟨wr.heap.size, 1, none⟩ = some (.int .i64 p2)) (go_keep) (first
          | (go_at_call 24; refine (specFormatIntB_any _ _ (by first | exact HR1.out.1 | exact HR2.out.1) (by first | exact HR1.out.2 | exact HR2.out.2)).mono ?_; rintro e w2 ⟨rfl, hb2⟩; replace k : Below w0.heap.size w0 w2 := Below.now (by repeat (first | exact k | refine Below.drew ?_ | refine below_drewN ?_ _)) hb2; have s0 := (k.cell (World.block_lt_of_cell? w0 _ y0)).trans y0; have s1 := (k.cell (World.block_lt_of_cell? w0 _ y1)).trans y1; clear hb2)
          | (refine step_app1g rfl _ _ (by rfl) Tryd.underlying28 Tryd.infoStr rfl (by decide) (by rfl) (HB0.out.later k) (by rfl) rfl (hone _) HC1.out HC2.out ?_; intro v2 w4 hb4 hgr; have t0 := far_cell hgr ((k.cell (World.block_lt_of_cell? w0 _ y0)).trans y0) hne; have t1 := far_cell hgr ((k.cell (World.block_lt_of_cell? w0 _ y1)).trans y1) hne; clear hgr))
        all_goals
          have F2 : Hid (Bld 9 1 w w4 v2 (j + 1) (strVals (linkTo l (j + 1)))) := by
            rw [F.out, FS.out]; unfold strVals at *; rw [List.map_append]; exact Lib.hid hb4
          clear hb4 y0 y1 k hne
          go_wp2_with fail
          go_roundw
          case rel => exact ⟨j + 1, by omega, by go_num, F2.out⟩
          case measure => simp [intOf]; omega
    · obtain rfl : j = l.length := by omega
      rcases Nat.eq_zero_or_pos l.length with h0 | h0
      · have F := Lib.hid (fmtLinks_zero h0)
        go_wp2_with fail
        go_ret
        exact ⟨ret_str F.out.symm, hbw⟩
      · have F := Lib.hid (fmtLinks_pos h0)
        have hdl := linkTo_len (l := l) (Nat.le_refl _)
        have hn0 : ((l.length : Int) == 0) = false := by rw [beq_eq_false_iff_ne]; omega
        go_wp2_with fail
        have hJ := specJoin_any (linkTo l l.length) ⟨#[32]⟩ a3 c3 wr (owns_strs HB.out.1) (by decide) (by omega) HZ.out
        rw [hdl] at hJ
        refine hJ.mono ?_
        rintro e w5 ⟨rfl, hb5⟩
        replace hbw := Below.now hbw hb5
        clear hb5 hJ
        go_wp2_with fail
        go_ret
        exact ⟨ret_str F.out.symm, hbw⟩
set_option maxRecDepth 20000 in
set_option maxHeartbeats 2000000 in
theorem implFormatLinks_any (l : List (Int × Int × Bool)) (a : Option Addr) (cap : Nat) (w : World) (hl : LinksIn w a l) (hlen : l.length ≤ 2 ^ 40) (hr : RngK l) (ht : Tab10 w) :
    Calls Tryd.prog 21 #[.slice a l.length cap] w fun e w' => e = .returned (.string (fmtLinks l)) ∧ Below w.heap.size w w' := by
  have HL := Lib.hid hl
  have HZ := Lib.hid (fmtLinks_size hr hlen)
  have HR := Lib.hid hr
  have HT := Lib.hid ht
  clear hl hr ht
  rcases Nat.eq_zero_or_pos l.length with h0 | h0
  · have F := Lib.hid (fmtLinks_zero h0)
    rw [h0]
    go_enter Tryd.func21, Tryd.ntmps21
    go_wp2_with fail
    go_ret
    exact ⟨ret_str F.out.symm, Below.refl _ _⟩
  have F := Lib.hid (fmtLinks_pos h0)
  have HS := Lib.hid (Bld.nil 9 1 (Below.refl w.heap.size w))
  have hn0 : ((l.length : Int) == 0) = false := by rw [beq_eq_false_iff_ne]; omega
  go_enter Tryd.func21, Tryd.ntmps21
  go_wp2_with fail
  go_loopw [3, 12] (fun v i wr => ∃ j : Nat, j ≤ l.length ∧ i = .int .i64 j ∧ Bld 9 1 w wr v j (strVals (linkTo l j))) (fun _ i _ => l.length - (intOf i).toNat)
  case atStart => exact ⟨0, Nat.zero_le _, rfl, HS.out⟩
  case round =>
    clear HS
    obtain ⟨j, hj, rfl, hbd⟩ := hrel
    obtain ⟨a3, c3, rfl⟩ := owns_form hbd.1
    have HB := Lib.hid hbd
    have hbw := hbd.2
    clear hbd
    by_cases hlt : j < l.length
    · obtain ⟨b, off, rfl, hb, hc⟩ := (HL.out.later hbw).cell hlt
      obtain ⟨c1, c2, d3⟩ := hc j hlt
      have F1 := Lib.hid (linkTo_succ hlt)
      have hr1 := (HR.out j hlt).1
      have hr2 := (HR.out j hlt).2
      have FS : Hid (linkB (nthK l j) = signB (nthK l j).2.2 ++ numB (nthK l j).1 ++ ⟨#[64]⟩ ++ numB (nthK l j).2.1) := Lib.hid rfl
      have hz1 := itoa_len hr1.1 hr1.2
      have hz2 := itoa_len hr2.1 hr2.2
      generalize (nthK l j).1 = p1 at *
      generalize (nthK l j).2.1 = p2 at *
      generalize (nthK l j).2.2 = bk at *
      have HR1 := Lib.hid hr1
      have HR2 := Lib.hid hr2
      have hA : ¬ 9223372036854775807 < 1 + (numB p1).size := by omega
      have hB : ¬ 9223372036854775807 < 1 + (numB p1).size + 1 := by omega
      have hC : ¬ 9223372036854775807 < 1 + (numB p1).size + 1 + (numB p2).size := by omega
      clear hc hr1 hr2
      cases bk
      · go_wp2_with fail
        obtain ⟨w0, hw0⟩ : ∃ w0, w0 = wr.alloc (.cells #[.int .i64 p1, .int .i64 p2, .bool false] 38) := ⟨_, rfl⟩
        have y0 : w0.cell? ⟨wr.heap.size, 0, none⟩ = some (.int .i64 p1) := by rw [hw0]; simp
        have y1 : w0.cell? ⟨wr.heap.size, 1, none⟩ = some (.int .i64 p2) := by rw [hw0]; simp
        have k0 : Below wr.heap.size wr w0 := by rw [hw0]; exact (Below.refl _ _).alloc (Nat.le_refl _) _
        have HB0 := Lib.hid (HB.out.later k0)
        have hbw0 := Lib.hid (Below.now hbw k0)
        have k := Below.refl w0.heap.size w0
        have hne : (Value.slice a3 j c3).ownBlock ≠ some wr.heap.size := fun e => by have := (HB.out.1.lt _ e).2; omega
        have HC1 : Hid (j + 1 ≤ maxLen) := Lib.hid (by unfold maxLen; omega)
        have HC2 : Hid ((j + 1) * 16 ≤ 140737488355328) := Lib.hid (by omega)
        have hone : ∀ s : ByteArray, ∀ u ∈ [Value.string s], u.oneCell' = true := fun s u hu => by rw [List.mem_singleton.1 hu]; rfl
        rw [← hw0]
        clear hw0 c1 c2 d3 hb k0 hbw HB

        go_region_held3 (fun w' => w'.cell? ⟨wr.heap.size, 0, none⟩ = some (.int .i64 p1) ∧ w'.cell? ⟨wr.heap.size, 1, none⟩ = some (.int .i64 p2)) (go_keep) (first
          | (go_at_call 29; refine (implFormatInt_any _ _ (by first | exact HR1.out.1 | exact HR2.out.1) (by first | exact HR1.out.2 | exact HR2.out.2) (HT.out.later (Below.now hbw0.out (by repeat (first | exact k | refine Below.drew ?_ | refine below_drewN ?_ _))))).mono ?_; rintro e w2 ⟨rfl, hb2⟩; replace k : Below w0.heap.size w0 w2 := Below.now (by repeat (first | exact k | refine Below.drew ?_ | refine below_drewN ?_ _)) hb2; have s0 := (k.cell (World.block_lt_of_cell? w0 _ y0)).trans y0; have s1 := (k.cell (World.block_lt_of_cell? w0 _ y1)).trans y1; clear hb2)
          | (refine step_app1g rfl _ _ (by rfl) Tryd.underlying28 Tryd.infoStr rfl (by decide) (by rfl) (HB0.out.later k) (by rfl) rfl (hone _) HC1.out HC2.out ?_; intro v2 w4 hb4 hgr; have t0 := far_cell hgr ((k.cell (World.block_lt_of_cell? w0 _ y0)).trans y0) hne; have t1 := far_cell hgr ((k.cell (World.block_lt_of_cell? w0 _ y1)).trans y1) hne; clear hgr))
        all_goals
          have F2 : Hid (Bld 9 1 w w4 v2 (j + 1) (strVals (linkTo l (j + 1)))) := by
            rw [F1.out, FS.out]; unfold strVals at *; rw [List.map_append]; exact Lib.hid hb4
          clear hb4 y0 y1 k hne
          go_wp2_with fail
          go_roundw
          case rel => exact ⟨j + 1, by omega, by go_num, F2.out⟩
          case measure => simp [intOf]; omega
      · go_wp2_with fail
        obtain ⟨w0, hw0⟩ : ∃ w0, w0 = wr.alloc (.cells #[.int .i64 p1, .int .i64 p2, .bool true] 38) := ⟨_, rfl⟩
        have y0 : w0.cell? ⟨wr.heap.size, 0, none⟩ = some (.int .i64 p1) := by rw [hw0]; simp
        have y1 : w0.cell? ⟨wr.heap.size, 1, none⟩ = some (.int .i64 p2) := by rw [hw0]; simp
        have k0 : Below wr.heap.size wr w0 := by rw [hw0]; exact (Below.refl _ _).alloc (Nat.le_refl _) _
        have HB0 := Lib.hid (HB.out.later k0)
        have hbw0 := Lib.hid (Below.now hbw k0)
        have k := Below.refl w0.heap.size w0
        have hne : (Value.slice a3 j c3).ownBlock ≠ some wr.heap.size := fun e => by have := (HB.out.1.lt _ e).2; omega
        have HC1 : Hid (j + 1 ≤ maxLen) := Lib.hid (by unfold maxLen; omega)
        have HC2 : Hid ((j + 1) * 16 ≤ 140737488355328) := Lib.hid (by omega)
        have hone : ∀ s : ByteArray, ∀ u ∈ [Value.string s], u.oneCell' = true := fun s u hu => by rw [List.mem_singleton.1 hu]; rfl
        rw [← hw0]
        clear hw0 c1 c2 d3 hb k0 hbw HB

        go_region_held3 (fun w' => w'.cell? ⟨wr.heap.size, 0, none⟩ = some (.int .i64 p1) ∧ w'.cell? ⟨wr.heap.size, 1, none⟩ = some (.int .i64 p2)) (go_keep) (first
          | (go_at_call 29; refine (implFormatInt_any _ _ (by first | exact HR1.out.1 | exact HR2.out.1) (by first | exact HR1.out.2 | exact HR2.out.2) (HT.out.later (Below.now hbw0.out (by repeat (first | exact k | refine Below.drew ?_ | refine below_drewN ?_ _))))).mono ?_; rintro e w2 ⟨rfl, hb2⟩; replace k : Below w0.heap.size w0 w2 := Below.now (by repeat (first | exact k | refine Below.drew ?_ | refine below_drewN ?_ _)) hb2; have s0 := (k.cell (World.block_lt_of_cell? w0 _ y0)).trans y0; have s1 := (k.cell (World.block_lt_of_cell? w0 _ y1)).trans y1; clear hb2)
          | (refine step_app1g rfl _ _ (by rfl) Tryd.underlying28 Tryd.infoStr rfl (by decide) (by rfl) (HB0.out.later k) (by rfl) rfl (hone _) HC1.out HC2.out ?_; intro v2 w4 hb4 hgr; have t0 := far_cell hgr ((k.cell (World.block_lt_of_cell? w0 _ y0)).trans y0) hne; have t1 := far_cell hgr ((k.cell (World.block_lt_of_cell? w0 _ y1)).trans y1) hne; clear hgr))
        all_goals
          have F2 : Hid (Bld 9 1 w w4 v2 (j + 1) (strVals (linkTo l (j + 1)))) := by
            rw [F1.out, FS.out]; unfold strVals at *; rw [List.map_append]; exact Lib.hid hb4
          clear hb4 y0 y1 k hne
          go_wp2_with fail
          go_roundw
          case rel => exact ⟨j + 1, by omega, by go_num, F2.out⟩
          case measure => simp [intOf]; omega
    · obtain rfl : j = l.length := by omega
      have hdl := linkTo_len (l := l) (Nat.le_refl _)
      go_wp2_with fail
      have hJ := implJoin_any (linkTo l l.length) ⟨#[32]⟩ a3 c3 wr (owns_strs HB.out.1) (by decide) (by decide) (by omega) (by rw [hdl]; exact owns_capS HB.out.1) HZ.out
      rw [hdl] at hJ
      refine hJ.mono ?_
      rintro e w5 ⟨rfl, hb5⟩
      replace hbw := Below.now hbw hb5
      clear hb5 hJ
      go_wp2_with fail
      go_ret
      exact ⟨ret_str F.out.symm, hbw⟩
end Go.Proofs.YtklbehapbchnaaaDoor
namespace Go.Proofs.YtklbehapbchnaaaDoor
open Go.RowKit
set_option linter.unusedVariables false
theorem dig_val {d : Nat} (h : d < 10) : Lib.digitVal (UInt8.ofNat (48 + d)) = some d := by
  have e : (UInt8.ofNat (48 + d)).toNat = 48 + d := by simp; omega
  unfold Lib.digitVal
  rw [e, if_pos (by omega)]
  congr 1; omega
theorem dig_of {b : UInt8} {d : Nat} (h : Lib.digitVal b = some d) : b.toNat = 48 + d ∧ d ≤ 9 := by
  unfold Lib.digitVal at h
  split at h
  · simp only [Option.some.injEq] at h; omega
  · cases h
theorem decFrom_app : ∀ (l : List UInt8) (acc n d : Nat) (b : UInt8), Lib.decFrom acc l = some n → Lib.digitVal b = some d → Lib.decFrom acc (l ++ [b]) = some (n * 10 + d)
  | [], acc, n, d, b, h, hb => by
    simp only [Lib.decFrom, Option.some.injEq] at h
    subst h
    simp [Lib.decFrom, hb]
  | a :: t, acc, n, d, b, h, hb => by
    simp only [List.cons_append, Lib.decFrom] at h ⊢
    cases e : Lib.digitVal a with
    | none => rw [e] at h; cases h
    | some x => rw [e] at h; exact decFrom_app t _ n d b h hb
theorem decFrom_digits (u : Nat) : Lib.decFrom 0 (Lib.decDigits u) = some u := by
  induction u using Nat.strongRecOn with
  | _ u ih =>
    by_cases h : u < 10
    · rw [decDigits_small h]; simp only [Lib.decFrom, dig_val h, Nat.zero_mul, Nat.zero_add]
    · rw [decDigits_big (by omega), decFrom_app _ _ _ _ _ (ih (u / 10) (by omega)) (dig_val (Nat.mod_lt _ (by omega)))]
      congr 1; omega
theorem decFrom_ge : ∀ (l : List UInt8) (acc n : Nat), Lib.decFrom acc l = some n → acc ≤ n
  | [], acc, n, h => by simp only [Lib.decFrom, Option.some.injEq] at h; omega
  | a :: t, acc, n, h => by
    simp only [Lib.decFrom] at h
    cases e : Lib.digitVal a with
    | none => rw [e] at h; cases h
    | some x => rw [e] at h; have := decFrom_ge t _ n h; omega
theorem decFrom_pre : ∀ (l : List UInt8) (acc n j : Nat), Lib.decFrom acc l = some n → ∃ v, Lib.decFrom acc (l.take j) = some v ∧ v ≤ n
  | l, acc, n, 0, h => ⟨acc, by simp [Lib.decFrom], decFrom_ge l acc n h⟩
  | [], acc, n, j + 1, h => by
    simp only [Lib.decFrom, Option.some.injEq] at h
    exact ⟨acc, by simp [Lib.decFrom], by omega⟩
  | a :: t, acc, n, j + 1, h => by
    simp only [List.take_succ_cons, Lib.decFrom] at h ⊢
    cases e : Lib.digitVal a with
    | none => rw [e] at h; cases h
    | some x => rw [e] at h; exact decFrom_pre t _ n j h
theorem dec_step {l : List UInt8} {u j v : Nat} (h : Lib.decFrom 0 l = some u) (hj : j < l.length) (hv : Lib.decFrom 0 (l.take j) = some v) : ∃ d, (l[j]).toNat = 48 + d ∧ d ≤ 9 ∧ Lib.decFrom 0 (l.take (j + 1)) = some (v * 10 + d) ∧ v * 10 + d ≤ u := by
  obtain ⟨d, hd⟩ := Lib.digit_of_decFrom l 0 u h j l[j] (List.getElem?_eq_getElem hj)
  have h1 := Lib.decFrom_take l j 0 v l[j] d hv (List.getElem?_eq_getElem hj) hd
  obtain ⟨x, hx, hxu⟩ := decFrom_pre l 0 u (j + 1) h
  rw [h1] at hx
  simp only [Option.some.injEq] at hx
  exact ⟨d, (dig_of hd).1, (dig_of hd).2, h1, by omega⟩
theorem pu_of : ∀ (l : List UInt8) (acc n : Nat), Lib.decFrom acc l = some n → n < 18446744073709551616 → Lib.parseUint10 acc l = .ok n
  | [], acc, n, h, _ => by
    simp only [Lib.decFrom, Option.some.injEq] at h
    simp [Lib.parseUint10, h]
  | a :: t, acc, n, h, hn => by
    simp only [Lib.decFrom] at h
    cases e : Lib.digitVal a with
    | none => rw [e] at h; cases h
    | some x =>
      rw [e] at h
      have h' : Lib.decFrom (acc * 10 + x) t = some n := h
      have hg := decFrom_ge t _ n h'
      obtain ⟨h1, h2⟩ := dig_of e
      have ex : a.toNat - 48 = x := by omega
      rw [Lib.parseUint10, if_pos ⟨by omega, by omega⟩, ex, if_neg (by omega), if_neg (by omega)]
      exact pu_of t _ n h' hn
theorem decDigits_ne (u : Nat) : Lib.decDigits u ≠ [] := fun e => by
  have h := congrArg List.length e
  rw [Lib.decDigits_length] at h
  have := Lib.nDigits_pos u
  simp at h; omega
theorem mag_of {u : Nat} (h : u < 18446744073709551616) : Lib.parseMag (Lib.decDigits u) = .ok u := by
  unfold Lib.parseMag
  rw [if_neg (decDigits_ne u)]
  exact pu_of _ _ _ (decFrom_digits u) h
theorem decDigits_dig (u : Nat) : ∀ b ∈ Lib.decDigits u, 48 ≤ b.toNat ∧ b.toNat ≤ 57 := fun b hb => by
  obtain ⟨j, hj, rfl⟩ := List.getElem_of_mem hb
  obtain ⟨v, hv, _⟩ := decFrom_pre (Lib.decDigits u) 0 u j (decFrom_digits u)
  obtain ⟨d, h1, h2, _⟩ := dec_step (decFrom_digits u) hj hv
  omega
theorem atoi_itoa {n : Int} (h0 : -9223372036854775808 ≤ n) (h1 : n ≤ 9223372036854775807) : Lib.atoiAll (Lib.itoa n) = .ok n := by
  by_cases hn : n < 0
  · have e : Lib.itoa n = 45 :: Lib.decDigits n.natAbs := by unfold Lib.itoa; rw [if_pos hn]
    have e45 : (45 : UInt8).toNat = 45 := rfl
    rw [e]
    unfold Lib.atoiAll
    simp only [e45]
    rw [if_pos (Or.inr trivial), mag_of (by omega)]
    simp only [not_true_eq_false, false_and, if_false, true_and]
    rw [if_neg (by omega)]
    simp only [if_true]
    congr 1; omega
  · have e : Lib.itoa n = Lib.decDigits n.toNat := by unfold Lib.itoa; rw [if_neg hn]
    rw [e]
    have hm := mag_of (u := n.toNat) (by omega)
    have hd := decDigits_dig n.toNat
    cases hl : Lib.decDigits n.toNat with
    | nil => exact absurd hl (decDigits_ne _)
    | cons c r =>
      rw [hl] at hm hd
      have hc := hd c (by simp)
      unfold Lib.atoiAll
      simp only []
      rw [if_neg (by omega), hm]
      simp only []
      rw [if_neg (by omega), if_neg (by omega), if_neg (by omega)]
      congr 1; omega
/-- the text s is the numeral of n -/
def IsNum (s : ByteArray) (n : Int) : Prop := (-9223372036854775808 ≤ n ∧ n ≤ 9223372036854775807) ∧ s = numB n
theorem IsNum.ok {s : ByteArray} {n : Int} (h : IsNum s n) : Lib.atoiAll s.data.toList = .ok n := by
  obtain ⟨⟨h0, h1⟩, rfl⟩ := h
  exact atoi_itoa h0 h1
theorem IsNum.uniq {s : ByteArray} {n m : Int} (h : IsNum s n) (h' : IsNum s m) : n = m := by
  have := h.ok.symm.trans h'.ok
  injection this
/-- what ParseInt hands back -/
def RetPI (s : ByteArray) (w : World) (e : Ending) (w' : World) : Prop := ∃ (n : Int) (b : Bool), e = .returned (.tuple #[.int .i64 n, .bool b]) ∧ ((b = true ∧ IsNum s n) ∨ (b = false ∧ n = 0 ∧ ∀ m, ¬ IsNum s m)) ∧ Below w.heap.size w w'
theorem RetPI.yes {s : ByteArray} {n : Int} {w w' : World} (h : IsNum s n) (hb : Below w.heap.size w w') : RetPI s w (.returned (.tuple #[.int .i64 n, .bool true])) w' := ⟨n, true, rfl, .inl ⟨rfl, h⟩, hb⟩
theorem RetPI.no {s : ByteArray} {w w' : World} (h : ∀ m, ¬ IsNum s m) (hb : Below w.heap.size w w') : RetPI s w (.returned (.tuple #[.int .i64 0, .bool false])) w' := ⟨0, false, rfl, .inr ⟨rfl, rfl, h⟩, hb⟩
theorem numB_nat (u : Nat) : numB (u : Int) = ⟨(Lib.decDigits u).toArray⟩ := by unfold numB; rw [itoa_nat]
theorem numB_neg {u : Nat} (h : 1 ≤ u) : numB (-(u : Int)) = ⟨(45 :: Lib.decDigits u).toArray⟩ := by unfold numB; rw [itoa_neg h]
end Go.Proofs.YtklbehapbchnaaaDoor
namespace Go.Proofs.YtklbehapbchnaaaDoor
open Go.RowKit
set_option linter.unusedVariables false
/-- the parts of a row of bytes between the bytes c -/
def parL (c : UInt8) : List UInt8 → List (List UInt8)
  | [] => [[]]
  | x :: t => if x = c then [] :: parL c t else match parL c t with
    | [] => [[x]]
    | p :: q => (x :: p) :: q
theorem parL_ne (c : UInt8) : ∀ l, parL c l ≠ []
  | [] => by simp [parL]
  | x :: t => by
    unfold parL
    split
    · simp
    · split <;> simp
theorem parL_app (c : UInt8) (b : List UInt8) : ∀ a, parL c (a ++ c :: b) = parL c a ++ parL c b
  | [] => by simp [parL]
  | x :: t => by
    have ih := parL_app c b t
    rw [List.cons_append, parL, parL]
    by_cases h : x = c
    · rw [if_pos h, if_pos h, ih]; rfl
    · rw [if_neg h, if_neg h, ih]
      cases e : parL c t with
      | nil => exact absurd e (parL_ne c t)
      | cons p q => rfl
theorem parL_no {c : UInt8} : ∀ {l : List UInt8}, c ∉ l → parL c l = [l]
  | [], _ => rfl
  | x :: t, h => by
    have hx : ¬ x = c := fun e => h (by simp [e])
    have ht : c ∉ t := fun e => h (by simp [e])
    rw [parL, if_neg hx, parL_no ht]
theorem parL_snoc {c x : UInt8} (hx : ¬ x = c) : ∀ {a : List UInt8} {q : List (List UInt8)} {p : List UInt8}, parL c a = q ++ [p] → parL c (a ++ [x]) = q ++ [p ++ [x]]
  | [], q, p, h => by
    cases q with
    | nil =>
      simp [parL] at h
      subst h
      simp [parL, hx]
    | cons y q => simp [parL] at h
  | y :: t, q, p, h => by
    rw [parL] at h
    rw [List.cons_append, parL]
    by_cases hy : y = c
    · rw [if_pos hy] at h ⊢
      cases q with
      | nil =>
        simp only [List.nil_append, List.cons.injEq] at h
        exact absurd h.2 (parL_ne c t)
      | cons z q =>
        simp only [List.cons_append, List.cons.injEq] at h
        rw [parL_snoc hx h.2, ← h.1]; rfl
    · rw [if_neg hy] at h ⊢
      cases e : parL c t with
      | nil => exact absurd e (parL_ne c t)
      | cons p' q' =>
        rw [e] at h
        simp only [] at h
        cases q with
        | nil =>
          simp only [List.nil_append, List.cons.injEq] at h
          obtain ⟨h1, h2⟩ := h
          subst h2
          have e' : parL c t = [] ++ [p'] := e
          rw [parL_snoc hx e', ← h1]; rfl
        | cons z q =>
          simp only [List.cons_append, List.cons.injEq] at h
          obtain ⟨h1, h2⟩ := h
          have e' : parL c t = (p' :: q) ++ [p] := by rw [e, h2]; rfl
          rw [parL_snoc hx e', ← h1]; rfl
theorem ext_list (s : ByteArray) (a b : Nat) : (s.extract a b).data.toList = (s.data.toList.take b).drop a := by
  rw [ByteArray.data_extract, Array.toList_extract, List.extract_eq_take_drop, List.drop_take]
def mkB (l : List UInt8) : ByteArray := ⟨l.toArray⟩
theorem mkB_data (s : ByteArray) : mkB s.data.toList = s := rfl
theorem data_mkB (l : List UInt8) : (mkB l).data.toList = l := rfl
theorem hitB_at {s : ByteArray} {c : UInt8} {i : Nat} (h : i < s.size) : hitB s c i = (s.data.toList[i]'(by simpa using h) == c) := by
  unfold hitB; rw [dif_pos h]; rfl
theorem spT_par (s : ByteArray) (c : UInt8) : ∀ i, i ≤ s.size → parL c (s.data.toList.take i) = (spT s c i).1.map (fun b => b.data.toList) ++ [(s.extract (spT s c i).2 i).data.toList]
  | 0, _ => by simp [parL, spT]
  | i + 1, hi => by
    have ih := spT_par s c i (by omega)
    have hle := (spT_le s c i).1
    have hlt : i < s.data.toList.length := by have h : s.data.toList.length = s.size := Array.length_toList; omega
    have et : s.data.toList.take (i + 1) = s.data.toList.take i ++ [s.data.toList[i]] := by rw [List.take_succ_eq_append_getElem hlt]
    cases e : spT s c i with
    | mk l fr =>
      rw [e] at ih hle
      simp only [] at ih hle
      cases hb : hitB s c i
      · have hx : ¬ s.data.toList[i] = c := fun e2 => by rw [hitB_at (by omega), e2] at hb; simp at hb
        rw [spT_no e hb, et, parL_snoc hx ih]
        simp only []
        congr 2
        rw [ext_list, ext_list, et, List.drop_append_of_le_length (by rw [List.length_take]; omega)]
      · have hx : s.data.toList[i] = c := by rw [hitB_at (by omega)] at hb; exact eq_of_beq hb
        rw [spT_hit e hb, et, hx, show ([c] : List UInt8) = c :: [] from rfl, parL_app, ih]
        simp only [List.map_append, List.map_cons, List.map_nil]
        congr 1
        rw [ext_list, List.drop_eq_nil_of_le (by rw [List.length_take]; omega)]
        rfl
theorem splitB_par (s : ByteArray) (c : UInt8) : splitB s c = (parL c s.data.toList).map mkB := by
  have h := spT_par s c s.size (Nat.le_refl _)
  rw [List.take_of_length_le (by simp)] at h
  rw [h]
  unfold splitB
  rw [List.map_append, List.map_map, List.map_cons, List.map_nil, mkB_data]
  congr 1
  exact (List.map_id _).symm
theorem index_cases (l : List UInt8) (c : UInt8) : (Lib.indexByte l c = -1 ∧ c ∉ l) ∨ ∃ i : Nat, Lib.indexByte l c = (i : Int) ∧ i < l.length ∧ l = l.take i ++ c :: l.drop (i + 1) ∧ c ∉ l.take i := by
  have h1 := Lib.indexByte_ge l c
  by_cases h : Lib.indexByte l c = -1
  · refine .inl ⟨h, fun hm => ?_⟩
    obtain ⟨k, hk, e⟩ := List.getElem_of_mem hm
    exact Lib.indexByte_none h k (by rw [List.getElem?_eq_getElem hk, e])
  · obtain ⟨i, hi⟩ : ∃ i : Nat, Lib.indexByte l c = (i : Int) := ⟨(Lib.indexByte l c).toNat, by omega⟩
    obtain ⟨ha, hb⟩ := Lib.indexByte_some hi
    have hlt := (List.getElem?_eq_some_iff.1 ha).1
    have he := (List.getElem?_eq_some_iff.1 ha).2
    refine .inr ⟨i, hi, hlt, ?_, fun hm => ?_⟩
    · rw [← he, ← List.drop_eq_getElem_cons hlt, List.take_append_drop]
    · obtain ⟨k, hk, e⟩ := List.getElem_of_mem hm
      rw [List.length_take] at hk
      rw [List.getElem_take] at e
      exact hb k (by omega) (by rw [List.getElem?_eq_getElem (by omega), e])
/-- the next part of the rest r -/
theorem split_next (r : ByteArray) (c : UInt8) : (Lib.indexByte r.data.toList c = -1 ∧ splitB r c = [r]) ∨ ∃ i : Nat, Lib.indexByte r.data.toList c = (i : Int) ∧ i < r.size ∧ splitB r c = r.extract 0 i :: splitB (r.extract (i + 1) r.size) c := by
  rcases index_cases r.data.toList c with ⟨h1, h2⟩ | ⟨i, h1, h2, h3, h4⟩
  · exact .inl ⟨h1, by rw [splitB_par, parL_no h2]; rfl⟩
  · refine .inr ⟨i, h1, by simpa using h2, ?_⟩
    rw [splitB_par, splitB_par, ext_list, List.take_of_length_le (l := r.data.toList) (by simp)]
    conv => lhs; rw [h3]
    rw [parL_app, parL_no h4]
    simp only [List.map_cons, List.singleton_append]
    congr 1
    show mkB _ = mkB (r.extract 0 i).data.toList
    rw [ext_list, List.drop_zero]
/-- strings.Cut at one byte -/
def cutB (s : ByteArray) (c : UInt8) : ByteArray × ByteArray × Bool := if Lib.indexByte s.data.toList c < 0 then (s, ⟨#[]⟩, false) else (s.extract 0 (Lib.indexByte s.data.toList c).toNat, s.extract ((Lib.indexByte s.data.toList c).toNat + 1) s.size, true)
theorem cutB_app {a b : List UInt8} {c : UInt8} (h : c ∉ a) : (cutB (mkB (a ++ c :: b)) c).1 = mkB a ∧ (cutB (mkB (a ++ c :: b)) c).2.1 = mkB b := by
  have e0 : (mkB (a ++ c :: b)).data.toList = a ++ c :: b := rfl
  rcases index_cases (a ++ c :: b) c with ⟨h1, h2⟩ | ⟨i, h1, h2, h3, h4⟩
  · exact absurd (by simp) h2
  · have hi : i = a.length := by
      obtain ⟨ha, hb⟩ := Lib.indexByte_some h1
      rcases Nat.lt_trichotomy i a.length with hl | hl | hl
      · rw [List.getElem?_append_left hl] at ha
        exact absurd (List.mem_of_getElem? ha) h
      · exact hl
      · exact absurd (by rw [List.getElem?_append_right (Nat.le_refl _), Nat.sub_self]; rfl) (hb a.length hl)
    subst hi
    unfold cutB
    rw [e0, h1, if_neg (by omega)]
    simp only [Int.toNat_natCast]
    constructor
    · rw [← mkB_data (ByteArray.extract _ _ _), ext_list, e0, List.drop_zero, List.take_left']
      rfl
    · rw [← mkB_data (ByteArray.extract _ _ _), ext_list, e0, List.take_of_length_le (by show _ ≤ (mkB _).data.size; rw [← Array.length_toList]; exact Nat.le_refl _)]
      rw [show a.length + 1 = (a ++ [c]).length by simp, show a ++ c :: b = (a ++ [c]) ++ b by simp, List.drop_left']
      rfl
/-! ### a link -/
abbrev LkZ := Int × Int × Bool
theorem itoa_free {n : Int} {c : UInt8} (h : c.toNat < 45 ∨ 57 < c.toNat) : c ∉ Lib.itoa n := fun hm => by
  unfold Lib.itoa at hm
  split at hm
  · rcases List.mem_cons.1 hm with e | hm
    · have : c.toNat = 45 := by rw [e]; rfl
      omega
    · have := decDigits_dig _ c hm; omega
  · have := decDigits_dig _ c hm; omega
def signL (b : Bool) : UInt8 := if b = true then 45 else 43
theorem linkB_list (x : LkZ) : (linkB x).data.toList = signL x.2.2 :: (Lib.itoa x.1 ++ 64 :: Lib.itoa x.2.1) := by
  obtain ⟨r, p, b⟩ := x
  unfold linkB signB signL numB
  cases b <;> simp [ByteArray.data_append]
theorem linkB_free (x : LkZ) : (32 : UInt8) ∉ (linkB x).data.toList := fun hm => by
  rw [linkB_list] at hm
  rcases List.mem_cons.1 hm with e | hm
  · unfold signL at e; split at e <;> simp at e
  · rcases List.mem_append.1 hm with hm | hm
    · exact itoa_free (by simp) hm
    · rcases List.mem_cons.1 hm with e | hm
      · simp at e
      · exact itoa_free (by simp) hm
theorem linkB_pos (x : LkZ) : 0 < (linkB x).size := by
  have e : (linkB x).size = (linkB x).data.toList.length := Array.length_toList.symm
  rw [e, linkB_list]; simp
theorem linkB_tail (x : LkZ) : (linkB x).extract 1 (linkB x).size = mkB (Lib.itoa x.1 ++ 64 :: Lib.itoa x.2.1) := by
  have e : (linkB x).data.toList.length = (linkB x).size := Array.length_toList
  rw [← mkB_data (ByteArray.extract _ _ _), ext_list, List.take_of_length_le (Nat.le_of_eq e), linkB_list]; rfl
theorem linkB_split (x : LkZ) : splitB ((linkB x).extract 1 (linkB x).size) 64 = [numB x.1, numB x.2.1] := by
  rw [linkB_tail, splitB_par, data_mkB, parL_app, parL_no (itoa_free (by simp)), parL_no (itoa_free (by simp))]; rfl
theorem linkB_cut (x : LkZ) : (cutB ((linkB x).extract 1 (linkB x).size) 64).1 = numB x.1 ∧ (cutB ((linkB x).extract 1 (linkB x).size) 64).2.1 = numB x.2.1 := by
  rw [linkB_tail]; exact cutB_app (itoa_free (by simp))
theorem linkB_head (x : LkZ) (h : 0 < (linkB x).size) : (((((linkB x)[0]'h).toNat : Nat) : Int) == 45) = x.2.2 := by
  have e : (linkB x).data.toList[0]? = some (signL x.2.2) := by rw [linkB_list]; rfl
  rw [Array.getElem?_toList, Array.getElem?_eq_getElem (by exact h)] at e
  have e2 : (linkB x)[0] = signL x.2.2 := Option.some.inj e
  rw [e2]; unfold signL; cases x.2.2 <;> rfl
/-- the parts of a text of links -/
theorem join_par {l : List ByteArray} {c : UInt8} (hf : ∀ s ∈ l, c ∉ s.data.toList) : ∀ j, j < l.length → parL c (joinTo l ⟨#[c]⟩ (j + 1)).data.toList = (l.take (j + 1)).map (fun s => s.data.toList)
  | 0, hj => by
    rw [joinTo_one, nthS_lt hj, parL_no (hf _ (List.getElem_mem hj)), List.take_succ_eq_append_getElem hj]; simp
  | j + 1, hj => by
    have ih := join_par hf j (by omega)
    rw [joinTo_succ _ _ (by omega), nthS_lt hj, List.take_succ_eq_append_getElem hj, List.map_append, ← ih]
    simp only [ByteArray.data_append, Array.toList_append]
    rw [List.append_assoc]
    show parL c (_ ++ ([c] ++ _)) = _
    rw [List.singleton_append, parL_app, parL_no (hf _ (List.getElem_mem hj))]
    rfl
theorem fmt_split {L : List LkZ} (h : 0 < L.length) : splitB (fmtLinks L) 32 = L.map linkB := by
  have e : linkTo L L.length = L.map linkB := by unfold linkTo; rw [List.take_length]
  rw [fmtLinks_pos h, splitB_par, e]
  have hl : (L.map linkB).length = L.length := List.length_map ..
  have hj := join_par (l := L.map linkB) (c := 32) (fun s hs => by obtain ⟨x, _, rfl⟩ := List.mem_map.1 hs; exact linkB_free x) (L.length - 1) (by rw [hl]; omega)
  rw [show L.length - 1 + 1 = L.length by omega, List.take_of_length_le (by rw [hl]; exact Nat.le_refl _)] at hj
  unfold joinF
  rw [hl, hj, List.map_map]
  exact (List.map_congr_left fun s _ => mkB_data s).trans (List.map_id _)
end Go.Proofs.YtklbehapbchnaaaDoor
