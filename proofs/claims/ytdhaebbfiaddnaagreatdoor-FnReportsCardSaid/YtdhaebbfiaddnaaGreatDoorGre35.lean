/-
  Links: slices of two integers and a bool; FormatLinks, of the program and of the reference.
-/
import Derived.Test.YtdhaebbfiaddnaaGreatDoorGre34
namespace Go.Proofs.YtdhaebbfiaddnaaGreatDoor
open Go.RowKit
set_option linter.unusedVariables false
/-- the cells of links -/
def linkCells : List (Int × Int × Bool) → List Value
  | [] => []
  | p :: l => .int .i64 p.1 :: .int .i64 p.2.1 :: .bool p.2.2 :: linkCells l
theorem linkCells_len : ∀ l : List (Int × Int × Bool), (linkCells l).length = l.length * 3
  | [] => rfl
  | p :: l => by simp only [linkCells, List.length_cons, linkCells_len l]; omega
/-- the link at a place -/
def nthK (l : List (Int × Int × Bool)) (j : Nat) : Int × Int × Bool := l.getD j (0, 0, false)
theorem linkCells_at : ∀ (l : List (Int × Int × Bool)) (j : Nat), j < l.length → (linkCells l)[j * 3]? = some (.int .i64 (nthK l j).1) ∧ (linkCells l)[j * 3 + 1]? = some (.int .i64 (nthK l j).2.1) ∧ (linkCells l)[j * 3 + 2]? = some (.bool (nthK l j).2.2)
  | [], j, h => by simp at h
  | p :: l, 0, _ => by simp [linkCells, nthK]
  | p :: l, j + 1, h => by
    have := linkCells_at l j (by simpa using h)
    rw [show (j + 1) * 3 = j * 3 + 3 by omega, show j * 3 + 3 + 1 = (j * 3 + 1) + 3 by omega, show j * 3 + 3 + 2 = (j * 3 + 2) + 3 by omega]
    have e1 : ∀ n, (linkCells (p :: l))[n + 3]? = (linkCells l)[n]? := fun n => rfl
    have e2 : nthK (p :: l) (j + 1) = nthK l j := rfl
    rw [e1, e1, e1, e2]
    exact this
/-- a slice of links -/
def LinksIn (w : World) (a : Option Addr) (l : List (Int × Int × Bool)) : Prop := CellsIn w a (linkCells l)
theorem LinksIn.later {w w' : World} {a : Option Addr} {l : List (Int × Int × Bool)} (h : LinksIn w a l) (hb : Below w.heap.size w w') : LinksIn w' a l := CellsIn.later h hb
theorem LinksIn.cell {w : World} {a : Option Addr} {l : List (Int × Int × Bool)} (h : LinksIn w a l) {i : Nat} (hi : i < l.length) :
    ∃ b off, a = some ⟨b, off, none⟩ ∧ b < w.heap.size ∧ ∀ j, j < l.length → w.cell? ⟨b, off + j * 3, none⟩ = some (.int .i64 (nthK l j).1) ∧ w.cell? ⟨b, off + j * 3 + 1, none⟩ = some (.int .i64 (nthK l j).2.1) ∧ w.cell? ⟨b, off + j * 3 + 2, none⟩ = some (.bool (nthK l j).2.2) := by
  rcases h with h | ⟨b, off, ha, hc⟩
  · have := linkCells_len l
    rw [h, List.length_nil] at this
    omega
  · have key : ∀ j, j < l.length → w.cell? ⟨b, off + j * 3, none⟩ = some (.int .i64 (nthK l j).1) ∧ w.cell? ⟨b, off + j * 3 + 1, none⟩ = some (.int .i64 (nthK l j).2.1) ∧ w.cell? ⟨b, off + j * 3 + 2, none⟩ = some (.bool (nthK l j).2.2) := fun j hj => by
      obtain ⟨h1, h2, h3⟩ := linkCells_at l j hj
      have hlen := linkCells_len l
      have c1 := hc (j * 3) (by omega)
      have c2 := hc (j * 3 + 1) (by omega)
      have c3 := hc (j * 3 + 2) (by omega)
      rw [List.getElem?_eq_getElem (by omega)] at h1 h2 h3
      rw [Option.some.inj h1] at c1
      rw [Option.some.inj h2] at c2
      rw [Option.some.inj h3] at c3
      exact ⟨c1, by rw [← Nat.add_assoc] at c2; exact c2, by rw [← Nat.add_assoc] at c3; exact c3⟩
    exact ⟨b, off, ha, World.block_lt_of_cell? w _ (key i hi).1, key⟩
theorem owns_links {w : World} {base : Nat} {T : TypeId} {size : Nat} {a : Option Addr} {n m cap : Nat} {l : List (Int × Int × Bool)} (h : w.ownsRow base T size (.slice a m cap) n (linkCells l)) : LinksIn w a l := owns_cells h
/-- the numbers are ints -/
def RngK (l : List (Int × Int × Bool)) : Prop := ∀ j, j < l.length → (-9223372036854775808 ≤ (nthK l j).1 ∧ (nthK l j).1 ≤ 9223372036854775807) ∧ (-9223372036854775808 ≤ (nthK l j).2.1 ∧ (nthK l j).2.1 ≤ 9223372036854775807)
def signB (b : Bool) : ByteArray := if b = true then ⟨#[45]⟩ else ⟨#[43]⟩
/-- the text of a link -/
def linkB (p : Int × Int × Bool) : ByteArray := signB p.2.2 ++ numB p.1 ++ ⟨#[64]⟩ ++ numB p.2.1
def linkTo (l : List (Int × Int × Bool)) (j : Nat) : List ByteArray := (l.take j).map linkB
theorem linkTo_len {l : List (Int × Int × Bool)} {j : Nat} (h : j ≤ l.length) : (linkTo l j).length = j := by simp [linkTo]; omega
theorem nthK_lt {l : List (Int × Int × Bool)} {j : Nat} (h : j < l.length) : nthK l j = l[j] := by simp [nthK, List.getD_eq_getElem?_getD, h]
theorem linkTo_succ {l : List (Int × Int × Bool)} {j : Nat} (h : j < l.length) : linkTo l (j + 1) = linkTo l j ++ [linkB (nthK l j)] := by
  unfold linkTo; rw [List.take_succ_eq_append_getElem h, nthK_lt h, List.map_append]; rfl
theorem signB_size (b : Bool) : (signB b).size = 1 := by cases b <;> rfl
theorem linkTo_sum {l : List (Int × Int × Bool)} (hr : RngK l) : ∀ j, j ≤ l.length → strSum (linkTo l j) ≤ 44 * j
  | 0, _ => by simp [linkTo, strSum]
  | j + 1, h => by
    have h1 := linkTo_sum hr j (by omega)
    have h2 := itoa_len (hr j (by omega)).1.1 (hr j (by omega)).1.2
    have h3 := itoa_len (hr j (by omega)).2.1 (hr j (by omega)).2.2
    have h4 := signB_size (nthK l j).2.2
    rw [linkTo_succ (by omega)]
    unfold strSum linkB at *
    rw [List.map_append, List.sum_append]
    simp only [List.map_cons, List.map_nil, List.sum_cons, List.sum_nil, Nat.add_zero, ByteArray.size_append]
    have : (ByteArray.mk #[64]).size = 1 := rfl
    omega
/-- FormatLinks as a function of plain data -/
def fmtLinks (l : List (Int × Int × Bool)) : ByteArray := if l.length = 0 then ⟨#[61]⟩ else joinF (linkTo l l.length) ⟨#[32]⟩
theorem fmtLinks_zero {l : List (Int × Int × Bool)} (h : l.length = 0) : fmtLinks l = ⟨#[61]⟩ := by simp [fmtLinks, h]
theorem fmtLinks_pos {l : List (Int × Int × Bool)} (h : 0 < l.length) : fmtLinks l = joinF (linkTo l l.length) ⟨#[32]⟩ := by simp only [fmtLinks, if_neg (show ¬ l.length = 0 by omega)]
theorem fmtLinks_size {l : List (Int × Int × Bool)} (hr : RngK l) (h : l.length ≤ 2 ^ 40) : (joinF (linkTo l l.length) ⟨#[32]⟩).size ≤ 2 ^ 46 := by
  have h1 := joinF_size (linkTo l l.length) ⟨#[32]⟩
  have h3 := linkTo_sum hr l.length (Nat.le_refl _)
  rw [linkTo_len (Nat.le_refl _)] at h1
  have : (ByteArray.mk #[32]).size = 1 := rfl
  rw [this] at h1
  omega
set_option maxRecDepth 20000 in
set_option maxHeartbeats 2000000 in
theorem implFormatLinks_any (l : List (Int × Int × Bool)) (a : Option Addr) (cap : Nat) (w : World) (hl : LinksIn w a l) (hlen : l.length ≤ 2 ^ 40) (hr : RngK l) (ht : Tab10 w) :
    Calls Tryz.prog 23 #[.slice a l.length cap] w fun e w' => e = .returned (.string (fmtLinks l)) ∧ Below w.heap.size w w' := by
  have HL := Lib.hid hl
  have HZ := Lib.hid (fmtLinks_size hr hlen)
  have HR := Lib.hid hr
  have HT := Lib.hid ht
  clear hl hr ht
  rcases Nat.eq_zero_or_pos l.length with h0 | h0
  · have F := Lib.hid (fmtLinks_zero h0)
    rw [h0]
    go_enter Tryz.func23, Tryz.ntmps23
    go_wp2_with fail
    go_ret
    exact ⟨ret_str F.out.symm, Below.refl _ _⟩
  have F := Lib.hid (fmtLinks_pos h0)
  have HS := Lib.hid (Bld.nil 9 1 (Below.refl w.heap.size w))
  have hn0 : ((l.length : Int) == 0) = false := by rw [beq_eq_false_iff_ne]; omega
  go_enter Tryz.func23, Tryz.ntmps23
  go_wp2_with fail
  go_loopw [3, 12] (fun v i wr => ∃ j : Nat, j ≤ l.length ∧ i = .int .i64 j ∧ Bld 9 1 w wr v j (strVals (linkTo l j))) (fun _ i _ => l.length - (intOf i).toNat)
  case atStart => exact ⟨0, Nat.zero_le _, rfl, HS.out⟩
  case round =>
    clear HS
    obtain ⟨j, hj, rfl, hbd⟩ := hrel
    obtain ⟨a3, c3, rfl⟩ := owns_form hbd.1
    have HB := Lib.hid hbd
    have hbw := hbd.2
    clear hbd
    by_cases hlt : j < l.length
    · obtain ⟨b, off, rfl, hb, hc⟩ := (HL.out.later hbw).cell hlt
      obtain ⟨c1, c2, d3⟩ := hc j hlt
      have F1 := Lib.hid (linkTo_succ hlt)
      have hr1 := (HR.out j hlt).1
      have hr2 := (HR.out j hlt).2
      have FS : Hid (linkB (nthK l j) = signB (nthK l j).2.2 ++ numB (nthK l j).1 ++ ⟨#[64]⟩ ++ numB (nthK l j).2.1) := Lib.hid rfl
      have hz1 := itoa_len hr1.1 hr1.2
      have hz2 := itoa_len hr2.1 hr2.2
      generalize (nthK l j).1 = p1 at *
      generalize (nthK l j).2.1 = p2 at *
      generalize (nthK l j).2.2 = bk at *
      have HR1 := Lib.hid hr1
      have HR2 := Lib.hid hr2
      have hA : ¬ 9223372036854775807 < 1 + (numB p1).size := by omega
      have hB : ¬ 9223372036854775807 < 1 + (numB p1).size + 1 := by omega
      have hC : ¬ 9223372036854775807 < 1 + (numB p1).size + 1 + (numB p2).size := by omega
      clear hc hr1 hr2
      cases bk
      · go_wp2_with fail
        obtain ⟨w0, hw0⟩ : ∃ w0, w0 = wr.alloc (.cells #[.int .i64 p1, .int .i64 p2, .bool false] 91) := ⟨_, rfl⟩
        have y0 : w0.cell? ⟨wr.heap.size, 0, none⟩ = some (.int .i64 p1) := by rw [hw0]; simp
        have y1 : w0.cell? ⟨wr.heap.size, 1, none⟩ = some (.int .i64 p2) := by rw [hw0]; simp
        have k0 : Below wr.heap.size wr w0 := by rw [hw0]; exact (Below.refl _ _).alloc (Nat.le_refl _) _
        have HB0 := Lib.hid (HB.out.later k0)
        have hbw0 := Lib.hid (Below.now hbw k0)
        have k := Below.refl w0.heap.size w0
        have hne : (Value.slice a3 j c3).ownBlock ≠ some wr.heap.size := fun e => by have := (HB.out.1.lt _ e).2; omega
        have HC1 : Hid (j + 1 ≤ maxLen) := Lib.hid (by unfold maxLen; omega)
        have HC2 : Hid ((j + 1) * 16 ≤ 140737488355328) := Lib.hid (by omega)
        have hone : ∀ s : ByteArray, ∀ u ∈ [Value.string s], u.oneCell' = true := fun s u hu => by rw [List.mem_singleton.1 hu]; rfl
        rw [← hw0]
        clear hw0 c1 c2 d3 hb k0 hbw HB

        go_region_held3 (fun w' => w'.cell? ⟨wr.heap.size, 0, none⟩ = some (.int .i64 p1) ∧ w'.cell? ⟨wr.heap.size, 1, none⟩ = some (.int .i64 p2)) (go_keep) (first
          | (go_at_call 16; refine (implFormatInt_any _ _ (by first | exact HR1.out.1 | exact HR2.out.1) (by first | exact HR1.out.2 | exact HR2.out.2) (HT.out.later (Below.now hbw0.out (by repeat (first | exact k | refine Below.drew ?_ | refine below_drewN ?_ _))))).mono ?_; rintro e w2 ⟨rfl, hb2⟩; replace k : Below w0.heap.size w0 w2 := Below.now (by repeat (first | exact k | refine Below.drew ?_ | refine below_drewN ?_ _)) hb2; have s0 := (k.cell (World.block_lt_of_cell? w0 _ y0)).trans y0; have s1 := (k.cell (World.block_lt_of_cell? w0 _ y1)).trans y1; clear hb2)
          | (refine step_app1g rfl _ _ (by rfl) Tryz.underlying52 Tryz.infoStr rfl (by decide) (by rfl) (HB0.out.later k) (by rfl) rfl (hone _) HC1.out HC2.out ?_; intro v2 w4 hb4 hgr; have t0 := far_cell hgr ((k.cell (World.block_lt_of_cell? w0 _ y0)).trans y0) hne; have t1 := far_cell hgr ((k.cell (World.block_lt_of_cell? w0 _ y1)).trans y1) hne; clear hgr))
        all_goals
          have F2 : Hid (Bld 9 1 w w4 v2 (j + 1) (strVals (linkTo l (j + 1)))) := by
            rw [F1.out, FS.out]; unfold strVals at *; rw [List.map_append]; exact Lib.hid hb4
          clear hb4 y0 y1 k hne
          go_wp2_with fail
          go_roundw
          case rel => exact ⟨j + 1, by omega, by go_num, F2.out⟩
          case measure => simp [intOf]; omega
      · go_wp2_with fail
        obtain ⟨w0, hw0⟩ : ∃ w0, w0 = wr.alloc (.cells #[.int .i64 p1, .int .i64 p2, .bool true] 91) := ⟨_, rfl⟩
        have y0 : w0.cell? ⟨wr.heap.size, 0, none⟩ = some (.int .i64 p1) := by rw [hw0]; simp
        have y1 : w0.cell? ⟨wr.heap.size, 1, none⟩ = some (.int .i64 p2) := by rw [hw0]; simp
        have k0 : Below wr.heap.size wr w0 := by rw [hw0]; exact (Below.refl _ _).alloc (Nat.le_refl _) _
        have HB0 := Lib.hid (HB.out.later k0)
        have hbw0 := Lib.hid (Below.now hbw k0)
        have k := Below.refl w0.heap.size w0
        have hne : (Value.slice a3 j c3).ownBlock ≠ some wr.heap.size := fun e => by have := (HB.out.1.lt _ e).2; omega
        have HC1 : Hid (j + 1 ≤ maxLen) := Lib.hid (by unfold maxLen; omega)
        have HC2 : Hid ((j + 1) * 16 ≤ 140737488355328) := Lib.hid (by omega)
        have hone : ∀ s : ByteArray, ∀ u ∈ [Value.string s], u.oneCell' = true := fun s u hu => by rw [List.mem_singleton.1 hu]; rfl
        rw [← hw0]
        clear hw0 c1 c2 d3 hb k0 hbw HB

        go_region_held3 (fun w' => w'.cell? ⟨wr.heap.size, 0, none⟩ = some (.int .i64 p1) ∧ w'.cell? ⟨wr.heap.size, 1, none⟩ = some (.int .i64 p2)) (go_keep) (first
          | (go_at_call 16; refine (implFormatInt_any _ _ (by first | exact HR1.out.1 | exact HR2.out.1) (by first | exact HR1.out.2 | exact HR2.out.2) (HT.out.later (Below.now hbw0.out (by repeat (first | exact k | refine Below.drew ?_ | refine below_drewN ?_ _))))).mono ?_; rintro e w2 ⟨rfl, hb2⟩; replace k : Below w0.heap.size w0 w2 := Below.now (by repeat (first | exact k | refine Below.drew ?_ | refine below_drewN ?_ _)) hb2; have s0 := (k.cell (World.block_lt_of_cell? w0 _ y0)).trans y0; have s1 := (k.cell (World.block_lt_of_cell? w0 _ y1)).trans y1; clear hb2)
          | (refine step_app1g rfl _ _ (by rfl) Tryz.underlying52 Tryz.infoStr rfl (by decide) (by rfl) (HB0.out.later k) (by rfl) rfl (hone _) HC1.out HC2.out ?_; intro v2 w4 hb4 hgr; have t0 := far_cell hgr ((k.cell (World.block_lt_of_cell? w0 _ y0)).trans y0) hne; have t1 := far_cell hgr ((k.cell (World.block_lt_of_cell? w0 _ y1)).trans y1) hne; clear hgr))
        all_goals
          have F2 : Hid (Bld 9 1 w w4 v2 (j + 1) (strVals (linkTo l (j + 1)))) := by
            rw [F1.out, FS.out]; unfold strVals at *; rw [List.map_append]; exact Lib.hid hb4
          clear hb4 y0 y1 k hne
          go_wp2_with fail
          go_roundw
          case rel => exact ⟨j + 1, by omega, by go_num, F2.out⟩
          case measure => simp [intOf]; omega
    · obtain rfl : j = l.length := by omega
      have hdl := linkTo_len (l := l) (Nat.le_refl _)
      go_wp2_with fail
      have hJ := implJoin_any (linkTo l l.length) ⟨#[32]⟩ a3 c3 wr (owns_strs HB.out.1) (by decide) (by decide) (by omega) (by rw [hdl]; exact owns_capS HB.out.1) HZ.out
      rw [hdl] at hJ
      refine hJ.mono ?_
      rintro e w5 ⟨rfl, hb5⟩
      replace hbw := Below.now hbw hb5
      clear hb5 hJ
      go_wp2_with fail
      go_ret
      exact ⟨ret_str F.out.symm, hbw⟩
end Go.Proofs.YtdhaebbfiaddnaaGreatDoor
