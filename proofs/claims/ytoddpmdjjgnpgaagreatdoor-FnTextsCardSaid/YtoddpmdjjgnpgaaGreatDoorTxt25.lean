/-
  A region that draws its order, inside a round of a range over a function: by the rule of XRegTail.
-/
import Derived.Test.YtoddpmdjjgnpgaaGreatDoorTxt03
import Derived.Test.YtoddpmdjjgnpgaaGreatDoorTxt04
import Derived.Test.YtoddpmdjjgnpgaaGreatDoorTxt14
import Derived.Test.YtoddpmdjjgnpgaaGreatDoorTxt15
import Derived.Test.YtoddpmdjjgnpgaaGreatDoorTxt11
namespace Go.Proofs.YtoddpmdjjgnpgaaGreatDoor
open Go.RowKit Go.Shelf
set_option linter.unusedVariables false
abbrev OrdD := ByteArray × ByteArray × Bool
/-- the cells of orders -/
def ordCells : List OrdD → List Value
  | [] => []
  | p :: l => .string p.1 :: .string p.2.1 :: .bool p.2.2 :: ordCells l
theorem ordCells_len : ∀ l : List OrdD, (ordCells l).length = l.length * 3
  | [] => rfl
  | p :: l => by simp only [ordCells, List.length_cons, ordCells_len l]; omega
/-- the order at a place -/
def nthO (l : List OrdD) (j : Nat) : OrdD := l.getD j (⟨#[]⟩, ⟨#[]⟩, false)
theorem ordCells_at : ∀ (l : List OrdD) (j : Nat), j < l.length → (ordCells l)[j * 3]? = some (.string (nthO l j).1) ∧ (ordCells l)[j * 3 + 1]? = some (.string (nthO l j).2.1) ∧ (ordCells l)[j * 3 + 2]? = some (.bool (nthO l j).2.2)
  | [], j, h => by simp at h
  | p :: l, 0, _ => by simp [ordCells, nthO]
  | p :: l, j + 1, h => by
    have := ordCells_at l j (by simpa using h)
    rw [show (j + 1) * 3 = j * 3 + 3 by omega, show j * 3 + 3 + 1 = (j * 3 + 1) + 3 by omega, show j * 3 + 3 + 2 = (j * 3 + 2) + 3 by omega]
    have e1 : ∀ n, (ordCells (p :: l))[n + 3]? = (ordCells l)[n]? := fun n => rfl
    have e2 : nthO (p :: l) (j + 1) = nthO l j := rfl
    rw [e1, e1, e1, e2]
    exact this
/-- a slice of orders -/
def OrdsIn (w : World) (a : Option Addr) (l : List OrdD) : Prop := CellsIn w a (ordCells l)
theorem OrdsIn.later {w w' : World} {a : Option Addr} {l : List OrdD} (h : OrdsIn w a l) (hb : Below w.heap.size w w') : OrdsIn w' a l := CellsIn.later h hb
theorem OrdsIn.cell {w : World} {a : Option Addr} {l : List OrdD} (h : OrdsIn w a l) {i : Nat} (hi : i < l.length) :
    ∃ b off, a = some ⟨b, off, none⟩ ∧ b < w.heap.size ∧ ∀ j, j < l.length → w.cell? ⟨b, off + j * 3, none⟩ = some (.string (nthO l j).1) ∧ w.cell? ⟨b, off + j * 3 + 1, none⟩ = some (.string (nthO l j).2.1) ∧ w.cell? ⟨b, off + j * 3 + 2, none⟩ = some (.bool (nthO l j).2.2) := by
  rcases h with h | ⟨b, off, ha, hc⟩
  · have := ordCells_len l
    rw [h, List.length_nil] at this
    omega
  · have key : ∀ j, j < l.length → w.cell? ⟨b, off + j * 3, none⟩ = some (.string (nthO l j).1) ∧ w.cell? ⟨b, off + j * 3 + 1, none⟩ = some (.string (nthO l j).2.1) ∧ w.cell? ⟨b, off + j * 3 + 2, none⟩ = some (.bool (nthO l j).2.2) := fun j hj => by
      obtain ⟨h1, h2, h3⟩ := ordCells_at l j hj
      have hlen := ordCells_len l
      have c1 := hc (j * 3) (by omega)
      have c2 := hc (j * 3 + 1) (by omega)
      have c3 := hc (j * 3 + 2) (by omega)
      rw [List.getElem?_eq_getElem (by omega)] at h1 h2 h3
      rw [Option.some.inj h1] at c1
      rw [Option.some.inj h2] at c2
      rw [Option.some.inj h3] at c3
      exact ⟨c1, by rw [← Nat.add_assoc] at c2; exact c2, by rw [← Nat.add_assoc] at c3; exact c3⟩
    exact ⟨b, off, ha, World.block_lt_of_cell? w _ (key i hi).1, key⟩
theorem owns_ords {w : World} {base : Nat} {T : TypeId} {size : Nat} {a : Option Addr} {n m cap : Nat} {l : List OrdD} (h : w.ownsRow base T size (.slice a m cap) n (ordCells l)) : OrdsIn w a l := owns_cells h
theorem Tryz.infoOrd : (Tryz.prog.info? 76).map (fun i => (i.zero, i.size, i.bytes)) = some (some (.agg #[.string ⟨#[]⟩, .string ⟨#[]⟩, .bool false]), 3, 40) := by kernel_rfl
def markB (b : Bool) : ByteArray := if b = true then ⟨#[33]⟩ else ⟨#[62]⟩
/-- the text of an order -/
def ordB (p : OrdD) : ByteArray := dotB p.1 ++ markB p.2.2 ++ dotB p.2.1
def ordTo (l : List OrdD) (j : Nat) : List ByteArray := (l.take j).map ordB
theorem ordTo_len {l : List OrdD} {j : Nat} (h : j ≤ l.length) : (ordTo l j).length = j := by simp [ordTo]; omega
theorem nthO_lt {l : List OrdD} {j : Nat} (h : j < l.length) : nthO l j = l[j] := by simp [nthO, List.getD_eq_getElem?_getD, h]
theorem ordTo_succ {l : List OrdD} {j : Nat} (h : j < l.length) : ordTo l (j + 1) = ordTo l j ++ [ordB (nthO l j)] := by
  unfold ordTo
  rw [List.take_succ_eq_append_getElem h, List.map_append, nthO_lt h]; rfl
theorem nthO_mem {l : List OrdD} {j : Nat} (h : j < l.length) : nthO l j ∈ l := by rw [nthO_lt h]; exact List.getElem_mem h
theorem mem_nthO {l : List OrdD} {r : OrdD} (h : r ∈ l) : ∃ i, i < l.length ∧ nthO l i = r := by
  obtain ⟨i, hi, he⟩ := List.getElem_of_mem h
  exact ⟨i, hi, by rw [nthO_lt hi, he]⟩
def ordsT (l : List OrdD) : ByteArray := joinF (ordTo l l.length) ⟨#[32]⟩
theorem ordB_size (p : OrdD) (h : p.1.size ≤ 100 ∧ p.2.1.size ≤ 100) : (ordB p).size ≤ 203 := by
  unfold ordB
  rw [ByteArray.size_append, ByteArray.size_append]
  have h1 := dotB_size p.1
  have h2 := dotB_size p.2.1
  have h3 : (markB p.2.2).size = 1 := by unfold markB; split <;> rfl
  omega
theorem ordsT_size {l : List OrdD} (hl : l.length ≤ 12) (h : ∀ p ∈ l, p.1.size ≤ 100 ∧ p.2.1.size ≤ 100) : (ordsT l).size ≤ 10000 := by
  have h1 := joinF_size (ordTo l l.length) ⟨#[32]⟩
  have h2 : strSum (ordTo l l.length) ≤ 203 * (ordTo l l.length).length := strSum_few (fun p hp => by
    unfold ordTo at hp
    obtain ⟨q, hq, rfl⟩ := List.mem_map.1 hp
    rw [List.take_length] at hq
    exact ordB_size q (h q hq))
  rw [ordTo_len (Nat.le_refl _)] at h1 h2
  have h5 : (⟨#[32]⟩ : ByteArray).size = 1 := rfl
  rw [h5] at h1
  unfold ordsT
  omega
set_option maxRecDepth 20000 in
set_option maxHeartbeats 4000000 in
theorem implFormatOrders_any (l : List OrdD) (a : Option Addr) (cap : Nat) (w : World) (hl : OrdsIn w a l) (h0 : 0 < l.length) (h12 : l.length ≤ 12) (hz : ∀ p ∈ l, p.1.size ≤ 100 ∧ p.2.1.size ≤ 100) :
    Calls Tryz.prog 32 #[.slice a l.length cap] w fun e w' => e = .returned (.string (ordsT l)) ∧ Below w.heap.size w w' := by
  have HL := Lib.hid hl
  have HZ := Lib.hid (ordsT_size h12 hz)
  have HS := Lib.hid (Bld.nil 9 1 (Below.refl w.heap.size w))
  have HZS := Lib.hid hz
  have hn0 : ((l.length : Int) == 0) = false := by rw [beq_eq_false_iff_ne]; omega
  have F : Hid (ordsT l = joinF (ordTo l l.length) ⟨#[32]⟩) := Lib.hid rfl
  clear hl hz
  go_enter Tryz.func32, Tryz.ntmps32
  go_wp2_with fail
  go_loopw [3, 12] (fun v i wr => ∃ j : Nat, j ≤ l.length ∧ i = .int .i64 j ∧ Bld 9 1 w wr v j (strVals (ordTo l j))) (fun _ i _ => l.length - (intOf i).toNat)
  case atStart => exact ⟨0, Nat.zero_le _, rfl, HS.out⟩
  case round =>
    clear HS
    obtain ⟨j, hj, rfl, hbd⟩ := hrel
    obtain ⟨a3, c3, rfl⟩ := owns_form hbd.1
    have HB := Lib.hid hbd
    have hbw := Lib.hid hbd.2
    clear hbd
    by_cases hlt : j < l.length
    · obtain ⟨b, off, rfl, hb, hc⟩ := (HL.out.later hbw.out).cell hlt
      obtain ⟨c1, c2, d3⟩ := hc j hlt
      have F1 := Lib.hid (ordTo_succ hlt)
      have FS : Hid (ordB (nthO l j) = dotB (nthO l j).1 ++ markB (nthO l j).2.2 ++ dotB (nthO l j).2.1) := Lib.hid rfl
      have hz2 := HZS.out _ (nthO_mem hlt)
      generalize (nthO l j).1 = x at *
      generalize (nthO l j).2.1 = y at *
      generalize (nthO l j).2.2 = bk at *
      have hd1 := dotB_size x
      have hd2 := dotB_size y
      have HD1 := Lib.hid (fun W => dotted_any x W)
      have HD2 := Lib.hid (fun W => dotted_any y W)
      generalize dotB x = dx at *
      generalize dotB y = dy at *
      obtain ⟨hzx, hzy⟩ := hz2
      have hA : ¬ 9223372036854775807 < dx.size + 1 := by omega
      have hB : ¬ 9223372036854775807 < dx.size + 1 + dy.size := by omega
      clear hc
      cases bk
      · go_wp2_with fail
        obtain ⟨w0, hw0⟩ : ∃ w0, w0 = wr.alloc (.cells #[.string x, .string y, .bool false] 76) := ⟨_, rfl⟩
        have k0 : Below wr.heap.size wr w0 := by rw [hw0]; exact alloc_belowS _ _
        have Y0 : Hid (w0.cell? ⟨wr.heap.size, 0, none⟩ = some (.string x)) := Lib.hid (by rw [hw0]; simp)
        have Y1 : Hid (w0.cell? ⟨wr.heap.size, 1, none⟩ = some (.string y)) := Lib.hid (by rw [hw0]; simp)
        have HB0 := Lib.hid (HB.out.later k0)
        rw [← hw0]
        clear hw0 c1 c2 d3 hb k0 HB
        refine region_tail 11 (fun W => Below w0.heap.size w0 W) (fun W W2 => Below W.heap.size W W2) (fun u => by simp only [List.take_succ_cons, List.take_zero, fPut, Act.put, List.setIfInBounds_toArray, List.set_cons_succ, List.set_cons_zero, Nat.zero_add, Nat.reduceAdd]; rfl) (by kernel_rfl) (by kernel_rfl) (by kernel_rfl) (by kernel_rfl) (by kernel_rfl) (by kernel_rfl) (by kernel_rfl) (Below.drew (Below.refl _ _)) ?_
        conv => arg 7; simp only [List.take_succ_cons, List.take_zero]
        apply each_read (fun _ => Below.refl _ _) rfl
        · intro u wv hC hf
          have z0 := (hC.cell (World.block_lt_of_cell? w0 _ Y0.out)).trans Y0.out
          have z1 := (hC.cell (World.block_lt_of_cell? w0 _ Y1.out)).trans Y1.out
          clear hf
          go_simp
          try rfl
        apply each_read (fun _ => Below.refl _ _) rfl
        · intro u wv hC hf
          have z0 := (hC.cell (World.block_lt_of_cell? w0 _ Y0.out)).trans Y0.out
          have z1 := (hC.cell (World.block_lt_of_cell? w0 _ Y1.out)).trans Y1.out
          clear hf
          go_simp
          try rfl
        conv => arg 8; simp only [List.cons_append, List.nil_append]
        apply each_read (fun _ => Below.refl _ _) rfl
        · intro u wv hC hf
          have z0 := (hC.cell (World.block_lt_of_cell? w0 _ Y0.out)).trans Y0.out
          have z1 := (hC.cell (World.block_lt_of_cell? w0 _ Y1.out)).trans Y1.out
          obtain ⟨d1_0, -⟩ := hf
          have e1 : u 1 = _ := d1_0 rfl
          clear d1_0
          go_simp
          try rfl
        conv => arg 8; simp only [List.cons_append, List.nil_append]
        apply each_callR rfl
        · intro u wv hC hf
          have z0 := (hC.cell (World.block_lt_of_cell? w0 _ Y0.out)).trans Y0.out
          have z1 := (hC.cell (World.block_lt_of_cell? w0 _ Y1.out)).trans Y1.out
          obtain ⟨d2_0, -⟩ := hf
          have e2 : u 2 = _ := d2_0 rfl
          clear d2_0
          apply Exists.intro; apply Exists.intro; apply And.intro
          · go_simp; exact ⟨rfl, rfl⟩
          · refine (HD1.out _).mono ?_
            rintro e w9 ⟨rfl, rfl⟩
            exact ⟨rfl, hC, Below.refl _ _⟩
        conv => arg 8; simp only [List.cons_append, List.nil_append]
        apply each_read (fun _ => Below.refl _ _) rfl
        · intro u wv hC hf
          have z0 := (hC.cell (World.block_lt_of_cell? w0 _ Y0.out)).trans Y0.out
          have z1 := (hC.cell (World.block_lt_of_cell? w0 _ Y1.out)).trans Y1.out
          clear hf
          go_simp
          try rfl
        conv => arg 8; simp only [List.cons_append, List.nil_append]
        apply each_read (fun _ => Below.refl _ _) rfl
        · intro u wv hC hf
          have z0 := (hC.cell (World.block_lt_of_cell? w0 _ Y0.out)).trans Y0.out
          have z1 := (hC.cell (World.block_lt_of_cell? w0 _ Y1.out)).trans Y1.out
          obtain ⟨d3_0, d4_1, -⟩ := hf
          have e3 : u 3 = _ := d3_0 rfl
          clear d3_0
          have e4 : u 4 = _ := d4_1 rfl
          clear d4_1
          go_simp
          try rfl
        conv => arg 8; simp only [List.cons_append, List.nil_append]
        apply each_read (fun _ => Below.refl _ _) rfl
        · intro u wv hC hf
          have z0 := (hC.cell (World.block_lt_of_cell? w0 _ Y0.out)).trans Y0.out
          have z1 := (hC.cell (World.block_lt_of_cell? w0 _ Y1.out)).trans Y1.out
          clear hf
          go_simp
          try rfl
        conv => arg 8; simp only [List.cons_append, List.nil_append]
        apply each_read (fun _ => Below.refl _ _) rfl
        · intro u wv hC hf
          have z0 := (hC.cell (World.block_lt_of_cell? w0 _ Y0.out)).trans Y0.out
          have z1 := (hC.cell (World.block_lt_of_cell? w0 _ Y1.out)).trans Y1.out
          obtain ⟨d6_0, -⟩ := hf
          have e6 : u 6 = _ := d6_0 rfl
          clear d6_0
          go_simp
          try rfl
        conv => arg 8; simp only [List.cons_append, List.nil_append]
        apply each_callR rfl
        · intro u wv hC hf
          have z0 := (hC.cell (World.block_lt_of_cell? w0 _ Y0.out)).trans Y0.out
          have z1 := (hC.cell (World.block_lt_of_cell? w0 _ Y1.out)).trans Y1.out
          obtain ⟨d7_0, d3_1, -⟩ := hf
          have e7 : u 7 = _ := d7_0 rfl
          clear d7_0
          have e3 : u 3 = _ := d3_1 rfl
          clear d3_1
          apply Exists.intro; apply Exists.intro; apply And.intro
          · go_simp; exact ⟨rfl, rfl⟩
          · refine (HD2.out _).mono ?_
            rintro e w9 ⟨rfl, rfl⟩
            exact ⟨rfl, hC, Below.refl _ _⟩
        conv => arg 8; simp only [List.cons_append, List.nil_append]
        apply each_read (fun _ => Below.refl _ _) rfl
        · intro u wv hC hf
          have z0 := (hC.cell (World.block_lt_of_cell? w0 _ Y0.out)).trans Y0.out
          have z1 := (hC.cell (World.block_lt_of_cell? w0 _ Y1.out)).trans Y1.out
          obtain ⟨d5_0, d8_1, -⟩ := hf
          have e5 : u 5 = _ := d5_0 rfl
          clear d5_0
          have e8 : u 8 = _ := d8_1 rfl
          clear d8_1
          go_simp
          try rfl
        conv => arg 8; simp only [List.cons_append, List.nil_append]
        refine each_do (fun v wv => ∃ g4, v = .slice (some ⟨g4, 0, none⟩) 1 1 ∧ wv.heap[g4]? = some (.cells #[.string (dx ++ ⟨#[62]⟩ ++ dy)] 9 (0, 0))) (fun v w w2 _ hR ⟨g, h1, h2⟩ => ⟨g, h1, (hR.block g (Array.getElem?_eq_some_iff.1 h2).1).trans h2⟩) rfl ?_ ?_
        · intro u wv hC hf
          have z0 := (hC.cell (World.block_lt_of_cell? w0 _ Y0.out)).trans Y0.out
          have z1 := (hC.cell (World.block_lt_of_cell? w0 _ Y1.out)).trans Y1.out
          obtain ⟨d9_0, -⟩ := hf
          have e9 : u 9 = _ := d9_0 rfl
          clear d9_0
          refine ⟨.slice (some ⟨wv.heap.size, 0, none⟩) 1 1, wv.alloc (.cells #[.string (dx ++ ⟨#[62]⟩ ++ dy)] 9), ?_, Below.alloc hC hC.size _, alloc_belowS _ _, wv.heap.size, rfl, alloc_at wv _⟩
          go_simp
          try rfl
        intro u w7 d7 hall
        obtain ⟨a0, a1, a2, a3, a4, a5, a6, a7, a8, a9, a10, -⟩ := hall
        have e0 : u 0 = _ := a0
        clear a0
        have e1 : u 1 = _ := a1
        clear a1
        have e2 : u 2 = _ := a2
        clear a2
        have e3 : u 3 = _ := a3
        clear a3
        have e4 : u 4 = _ := a4
        clear a4
        have e5 : u 5 = _ := a5
        clear a5
        have e6 : u 6 = _ := a6
        clear a6
        have e7 : u 7 = _ := a7
        clear a7
        have e8 : u 8 = _ := a8
        clear a8
        have e9 : u 9 = _ := a9
        clear a9
        obtain ⟨g4, e10, b4⟩ := a10
        replace e10 : u 10 = _ := e10
        change wpList _ _ _ (List.drop 11 _) _ _
        simp only [List.drop_succ_cons, List.drop_zero]
        simp only [e0, e1, e2, e3, e4, e5, e6, e7, e8, e9, e10]
        clear e0 e1 e2 e3 e4 e5 e6 e7 e8 e9 e10
        have HB7 := Lib.hid (HB0.out.later d7)
        clear d7
        refine wpList_appB rfl (.tmp 18) (.tmp 28) rfl Tryz.underlying47 Tryz.infoStr rfl (by decide) rfl HB7.out.1 HB7.out.2.size rfl (m := 1) (news := [.string (dx ++ ⟨#[62]⟩ ++ dy)]) (fun i u hu => by
          match i, hu with
          | 0, hu =>
            obtain rfl := Option.some.inj hu
            rw [add_off]
            simp [World.cell?, b4]
          | i + 1, hu => cases hu) rfl (by decide) (fun u hu => by rw [List.mem_singleton.1 hu]; rfl) (by unfold maxLen; omega) (by omega) ?_
        intro g5 c5 w9 hn9 hg9 _
        have F2 : Hid (Bld 9 1 w w9 (.slice (some ⟨g5, 0, none⟩) (j + 1) c5) (j + 1) (strVals (ordTo l (j + 1)))) := Lib.hid (by
          rw [F1.out, FS.out]
          refine ⟨?_, HB7.out.2.grown hg9 HB7.out.2.size (fun k hk => (HB7.out.1.lt k hk).1)⟩
          unfold strVals at *; rw [List.map_append]; exact hn9)
        clear hn9 hg9 b4
        go_wp2_with fail
        go_roundw
        case rel => exact ⟨j + 1, by omega, by go_num, F2.out⟩
        case measure => simp [intOf]; omega
      · go_wp2_with fail
        obtain ⟨w0, hw0⟩ : ∃ w0, w0 = wr.alloc (.cells #[.string x, .string y, .bool true] 76) := ⟨_, rfl⟩
        have k0 : Below wr.heap.size wr w0 := by rw [hw0]; exact alloc_belowS _ _
        have Y0 : Hid (w0.cell? ⟨wr.heap.size, 0, none⟩ = some (.string x)) := Lib.hid (by rw [hw0]; simp)
        have Y1 : Hid (w0.cell? ⟨wr.heap.size, 1, none⟩ = some (.string y)) := Lib.hid (by rw [hw0]; simp)
        have HB0 := Lib.hid (HB.out.later k0)
        rw [← hw0]
        clear hw0 c1 c2 d3 hb k0 HB
        refine region_tail 11 (fun W => Below w0.heap.size w0 W) (fun W W2 => Below W.heap.size W W2) (fun u => by simp only [List.take_succ_cons, List.take_zero, fPut, Act.put, List.setIfInBounds_toArray, List.set_cons_succ, List.set_cons_zero, Nat.zero_add, Nat.reduceAdd]; rfl) (by kernel_rfl) (by kernel_rfl) (by kernel_rfl) (by kernel_rfl) (by kernel_rfl) (by kernel_rfl) (by kernel_rfl) (Below.drew (Below.refl _ _)) ?_
        conv => arg 7; simp only [List.take_succ_cons, List.take_zero]
        apply each_read (fun _ => Below.refl _ _) rfl
        · intro u wv hC hf
          have z0 := (hC.cell (World.block_lt_of_cell? w0 _ Y0.out)).trans Y0.out
          have z1 := (hC.cell (World.block_lt_of_cell? w0 _ Y1.out)).trans Y1.out
          clear hf
          go_simp
          try rfl
        apply each_read (fun _ => Below.refl _ _) rfl
        · intro u wv hC hf
          have z0 := (hC.cell (World.block_lt_of_cell? w0 _ Y0.out)).trans Y0.out
          have z1 := (hC.cell (World.block_lt_of_cell? w0 _ Y1.out)).trans Y1.out
          clear hf
          go_simp
          try rfl
        conv => arg 8; simp only [List.cons_append, List.nil_append]
        apply each_read (fun _ => Below.refl _ _) rfl
        · intro u wv hC hf
          have z0 := (hC.cell (World.block_lt_of_cell? w0 _ Y0.out)).trans Y0.out
          have z1 := (hC.cell (World.block_lt_of_cell? w0 _ Y1.out)).trans Y1.out
          obtain ⟨d1_0, -⟩ := hf
          have e1 : u 1 = _ := d1_0 rfl
          clear d1_0
          go_simp
          try rfl
        conv => arg 8; simp only [List.cons_append, List.nil_append]
        apply each_callR rfl
        · intro u wv hC hf
          have z0 := (hC.cell (World.block_lt_of_cell? w0 _ Y0.out)).trans Y0.out
          have z1 := (hC.cell (World.block_lt_of_cell? w0 _ Y1.out)).trans Y1.out
          obtain ⟨d2_0, -⟩ := hf
          have e2 : u 2 = _ := d2_0 rfl
          clear d2_0
          apply Exists.intro; apply Exists.intro; apply And.intro
          · go_simp; exact ⟨rfl, rfl⟩
          · refine (HD1.out _).mono ?_
            rintro e w9 ⟨rfl, rfl⟩
            exact ⟨rfl, hC, Below.refl _ _⟩
        conv => arg 8; simp only [List.cons_append, List.nil_append]
        apply each_read (fun _ => Below.refl _ _) rfl
        · intro u wv hC hf
          have z0 := (hC.cell (World.block_lt_of_cell? w0 _ Y0.out)).trans Y0.out
          have z1 := (hC.cell (World.block_lt_of_cell? w0 _ Y1.out)).trans Y1.out
          clear hf
          go_simp
          try rfl
        conv => arg 8; simp only [List.cons_append, List.nil_append]
        apply each_read (fun _ => Below.refl _ _) rfl
        · intro u wv hC hf
          have z0 := (hC.cell (World.block_lt_of_cell? w0 _ Y0.out)).trans Y0.out
          have z1 := (hC.cell (World.block_lt_of_cell? w0 _ Y1.out)).trans Y1.out
          obtain ⟨d3_0, d4_1, -⟩ := hf
          have e3 : u 3 = _ := d3_0 rfl
          clear d3_0
          have e4 : u 4 = _ := d4_1 rfl
          clear d4_1
          go_simp
          try rfl
        conv => arg 8; simp only [List.cons_append, List.nil_append]
        apply each_read (fun _ => Below.refl _ _) rfl
        · intro u wv hC hf
          have z0 := (hC.cell (World.block_lt_of_cell? w0 _ Y0.out)).trans Y0.out
          have z1 := (hC.cell (World.block_lt_of_cell? w0 _ Y1.out)).trans Y1.out
          clear hf
          go_simp
          try rfl
        conv => arg 8; simp only [List.cons_append, List.nil_append]
        apply each_read (fun _ => Below.refl _ _) rfl
        · intro u wv hC hf
          have z0 := (hC.cell (World.block_lt_of_cell? w0 _ Y0.out)).trans Y0.out
          have z1 := (hC.cell (World.block_lt_of_cell? w0 _ Y1.out)).trans Y1.out
          obtain ⟨d6_0, -⟩ := hf
          have e6 : u 6 = _ := d6_0 rfl
          clear d6_0
          go_simp
          try rfl
        conv => arg 8; simp only [List.cons_append, List.nil_append]
        apply each_callR rfl
        · intro u wv hC hf
          have z0 := (hC.cell (World.block_lt_of_cell? w0 _ Y0.out)).trans Y0.out
          have z1 := (hC.cell (World.block_lt_of_cell? w0 _ Y1.out)).trans Y1.out
          obtain ⟨d7_0, d3_1, -⟩ := hf
          have e7 : u 7 = _ := d7_0 rfl
          clear d7_0
          have e3 : u 3 = _ := d3_1 rfl
          clear d3_1
          apply Exists.intro; apply Exists.intro; apply And.intro
          · go_simp; exact ⟨rfl, rfl⟩
          · refine (HD2.out _).mono ?_
            rintro e w9 ⟨rfl, rfl⟩
            exact ⟨rfl, hC, Below.refl _ _⟩
        conv => arg 8; simp only [List.cons_append, List.nil_append]
        apply each_read (fun _ => Below.refl _ _) rfl
        · intro u wv hC hf
          have z0 := (hC.cell (World.block_lt_of_cell? w0 _ Y0.out)).trans Y0.out
          have z1 := (hC.cell (World.block_lt_of_cell? w0 _ Y1.out)).trans Y1.out
          obtain ⟨d5_0, d8_1, -⟩ := hf
          have e5 : u 5 = _ := d5_0 rfl
          clear d5_0
          have e8 : u 8 = _ := d8_1 rfl
          clear d8_1
          go_simp
          try rfl
        conv => arg 8; simp only [List.cons_append, List.nil_append]
        refine each_do (fun v wv => ∃ g4, v = .slice (some ⟨g4, 0, none⟩) 1 1 ∧ wv.heap[g4]? = some (.cells #[.string (dx ++ ⟨#[33]⟩ ++ dy)] 9 (0, 0))) (fun v w w2 _ hR ⟨g, h1, h2⟩ => ⟨g, h1, (hR.block g (Array.getElem?_eq_some_iff.1 h2).1).trans h2⟩) rfl ?_ ?_
        · intro u wv hC hf
          have z0 := (hC.cell (World.block_lt_of_cell? w0 _ Y0.out)).trans Y0.out
          have z1 := (hC.cell (World.block_lt_of_cell? w0 _ Y1.out)).trans Y1.out
          obtain ⟨d9_0, -⟩ := hf
          have e9 : u 9 = _ := d9_0 rfl
          clear d9_0
          refine ⟨.slice (some ⟨wv.heap.size, 0, none⟩) 1 1, wv.alloc (.cells #[.string (dx ++ ⟨#[33]⟩ ++ dy)] 9), ?_, Below.alloc hC hC.size _, alloc_belowS _ _, wv.heap.size, rfl, alloc_at wv _⟩
          go_simp
          try rfl
        intro u w7 d7 hall
        obtain ⟨a0, a1, a2, a3, a4, a5, a6, a7, a8, a9, a10, -⟩ := hall
        have e0 : u 0 = _ := a0
        clear a0
        have e1 : u 1 = _ := a1
        clear a1
        have e2 : u 2 = _ := a2
        clear a2
        have e3 : u 3 = _ := a3
        clear a3
        have e4 : u 4 = _ := a4
        clear a4
        have e5 : u 5 = _ := a5
        clear a5
        have e6 : u 6 = _ := a6
        clear a6
        have e7 : u 7 = _ := a7
        clear a7
        have e8 : u 8 = _ := a8
        clear a8
        have e9 : u 9 = _ := a9
        clear a9
        obtain ⟨g4, e10, b4⟩ := a10
        replace e10 : u 10 = _ := e10
        change wpList _ _ _ (List.drop 11 _) _ _
        simp only [List.drop_succ_cons, List.drop_zero]
        simp only [e0, e1, e2, e3, e4, e5, e6, e7, e8, e9, e10]
        clear e0 e1 e2 e3 e4 e5 e6 e7 e8 e9 e10
        have HB7 := Lib.hid (HB0.out.later d7)
        clear d7
        refine wpList_appB rfl (.tmp 18) (.tmp 28) rfl Tryz.underlying47 Tryz.infoStr rfl (by decide) rfl HB7.out.1 HB7.out.2.size rfl (m := 1) (news := [.string (dx ++ ⟨#[33]⟩ ++ dy)]) (fun i u hu => by
          match i, hu with
          | 0, hu =>
            obtain rfl := Option.some.inj hu
            rw [add_off]
            simp [World.cell?, b4]
          | i + 1, hu => cases hu) rfl (by decide) (fun u hu => by rw [List.mem_singleton.1 hu]; rfl) (by unfold maxLen; omega) (by omega) ?_
        intro g5 c5 w9 hn9 hg9 _
        have F2 : Hid (Bld 9 1 w w9 (.slice (some ⟨g5, 0, none⟩) (j + 1) c5) (j + 1) (strVals (ordTo l (j + 1)))) := Lib.hid (by
          rw [F1.out, FS.out]
          refine ⟨?_, HB7.out.2.grown hg9 HB7.out.2.size (fun k hk => (HB7.out.1.lt k hk).1)⟩
          unfold strVals at *; rw [List.map_append]; exact hn9)
        clear hn9 hg9 b4
        go_wp2_with fail
        go_roundw
        case rel => exact ⟨j + 1, by omega, by go_num, F2.out⟩
        case measure => simp [intOf]; omega
    · obtain rfl : j = l.length := by omega
      have hdl := ordTo_len (l := l) (Nat.le_refl _)
      go_wp2_with fail
      have hJ := implJoin_any (ordTo l l.length) ⟨#[32]⟩ a3 c3 wr (owns_strs HB.out.1) (by decide) (by decide) (by omega) (by rw [hdl]; exact owns_capS HB.out.1) (Nat.le_trans (by rw [← F.out]; exact HZ.out) (by decide))
      rw [hdl] at hJ
      refine hJ.mono ?_
      rintro e w5 ⟨rfl, hb5⟩
      have hbw5 := Lib.hid (Below.now hbw.out hb5)
      clear hb5 hJ
      go_wp2_with fail
      go_ret
      exact ⟨ret_str F.out.symm, hbw5.out⟩
/-- a function value that tells q of each rule, in every world that is as w below block B -/
def PredO (B : Nat) (g : Nat) (caps : Array Value) (q : OrdD → Prop) (l : List OrdD) (w : World) : Prop :=
  ∀ j, j < l.length → ∀ W, Below B w W → Calls Tryz.prog g (#[.agg #[.string (nthO l j).1, .string (nthO l j).2.1, .bool (nthO l j).2.2]] ++ caps) W (RetP (q (nthO l j)) W)
def RetIxO (P : Prop) (w : World) (e : Ending) (w' : World) : Prop := ∃ i : Int, (0 ≤ i ↔ P) ∧ e = .returned (.int .i64 i) ∧ Below w.heap.size w w'
set_option maxHeartbeats 400000 in
theorem indexFuncO_any (g : Nat) (caps : Array Value) (q : OrdD → Prop) (l : List OrdD) (a : Option Addr) (cap : Nat) (w : World) (hl : OrdsIn w a l) (hlen : l.length ≤ 2 ^ 40)
    (B : Nat) (hB : B ≤ w.heap.size) (hf : PredO B g caps q l w) (eg : ∀ args w, (callFunc g args).run Tryz.prog w = .ok (.enter g args) w) :
    Calls Tryz.prog 172 #[.slice a l.length cap, .func (.func g) #[] caps] w (RetIxO (∃ r ∈ l, q r) w) := by
  have HF := Lib.hid hf
  have HL := Lib.hid hl
  clear hf hl
  go_enter Tryz.func172, Tryz.ntmps172
  go_wp2
  go_loopw [8] (fun i wr => ∃ j : Nat, j ≤ l.length ∧ i = .int .i64 j ∧ Hid (∀ j', j' < j → ¬ q (nthO l j')) ∧ Below w.heap.size w wr) (fun i _ => l.length - (intOf i).toNat)
  case atStart => exact ⟨0, Nat.zero_le _, rfl, Lib.hid (fun j' h => absurd h (Nat.not_lt_zero _)), Below.refl _ _⟩
  case round =>
    obtain ⟨j, hj, rfl, hno, hbel⟩ := hrel
    by_cases hlt : j < l.length
    · obtain ⟨b, off, rfl, hb, hc⟩ := (HL.out.later hbel).cell hlt
      obtain ⟨c1, c2, c3⟩ := hc j hlt
      have HP := Lib.hid (HF.out j hlt _ (hbel.mono hB))
      have HY : Hid (q (nthO l j) → ∃ r ∈ l, q r) := Lib.hid (fun h => ⟨_, nthO_mem hlt, h⟩)
      have HN : Hid (¬ q (nthO l j) → ∀ j', j' < j + 1 → ¬ q (nthO l j')) := Lib.hid (fun h j' hj' => by
        by_cases e : j' = j
        · rw [e]; exact h
        · exact hno.out j' (by omega))
      clear hc
      generalize q (nthO l j) = qq at *
      generalize nthO l j = v at *
      go_wp2_with fail
      refine HP.out.mono ?_
      rintro e w2 ⟨bb, hbb, rfl, hb2⟩
      have HBB := Lib.hid hbb
      have HB2 := Lib.hid (Below.now hbel hb2)
      clear hbb hb2 HP
      cases bb
      · have F := Lib.hid (HN.out (fun h => by have := HBB.out.2 h; cases this))
        go_wp2_with fail
        go_roundw
        case rel => exact ⟨j + 1, by omega, by go_num, F, HB2.out⟩
        case measure => simp [intOf]; omega
      · have F : Hid (RetIxO (∃ r ∈ l, q r) w (.returned (.int .i64 (j : Nat))) w2) := Lib.hid ⟨(j : Nat), ⟨fun _ => HY.out (HBB.out.1 rfl), fun _ => by omega⟩, rfl, HB2.out⟩
        go_wp2_with fail
        go_ret
        exact F.out
    · have F : Hid (RetIxO (∃ r ∈ l, q r) w (.returned (.int .i64 (-1))) wr) := Lib.hid ⟨-1, ⟨fun h => by omega, fun ⟨r, h1, h2⟩ => by
        obtain ⟨i, hi, rfl⟩ := mem_nthO h1
        exact absurd h2 (hno.out i (by omega))⟩, rfl, hbel⟩
      go_wp2_with fail
      go_ret
      exact F.out
set_option maxHeartbeats 400000 in
theorem containsFuncO_any (g : Nat) (caps : Array Value) (q : OrdD → Prop) (l : List OrdD) (a : Option Addr) (cap : Nat) (w : World) (hl : OrdsIn w a l) (hlen : l.length ≤ 2 ^ 40)
    (B : Nat) (hB : B ≤ w.heap.size) (hf : PredO B g caps q l w) (eg : ∀ args w, (callFunc g args).run Tryz.prog w = .ok (.enter g args) w) :
    Calls Tryz.prog 130 #[.slice a l.length cap, .func (.func g) #[] caps] w (RetP (∃ r ∈ l, q r) w) := by
  have HC := Lib.hid (indexFuncO_any g caps q l a cap w hl hlen B hB hf eg)
  clear hf eg hl
  go_enter Tryz.func130, Tryz.ntmps130
  go_wp2_with fail
  refine HC.out.mono ?_
  rintro e w2 ⟨i, hi, rfl, hb2⟩
  have F : Hid (RetP (∃ r ∈ l, q r) w (.returned (.bool (decide (0 ≤ i)))) w2) := Lib.hid ⟨decide (0 ≤ i), by rw [decide_eq_true_iff]; exact hi, rfl, hb2⟩
  clear hi hb2 HC
  go_wp2_with fail
  go_ret
  exact F.out
set_option maxHeartbeats 400000 in
theorem algOk1_any (x y : ByteArray) (b : Bool) (w : World) (hx : x.size ≤ maxLen) (hy : y.size ≤ maxLen) :
    Calls Tryz.prog 131 #[.agg #[.string x, .string y, .bool b]] w (RetP (¬ sideP 4 (x, y)) w) := by
  have HS := Lib.hid (fun W => implSidesOk_any 4 x y W hx hy)
  have HA := Lib.hid (fun o => alloc_belowS w o)
  generalize sideP 4 (x, y) = sp at *
  go_enter Tryz.func131, Tryz.ntmps131
  go_wp2_with fail
  refine (HS.out _).mono ?_
  rintro e w2 ⟨bb, hbb, rfl, hb2⟩
  have F : Hid (RetP (¬ sp) w (.returned (.bool !bb)) w2) := Lib.hid (by
    cases bb
    · exact RetP.yes (fun h => by have := hbb.2 h; cases this) (Below.now (HA.out _) hb2)
    · exact RetP.no (fun h => h (hbb.1 rfl)) (Below.now (HA.out _) hb2))
  clear hbb hb2 HS
  go_wp2_with fail
  go_ret
  exact F.out
set_option maxHeartbeats 1000000 in
theorem implAlgorithmOk_yes (l : List OrdD) (a : Option Addr) (cap : Nat) (w : World) (hl : OrdsIn w a l) (h12 : l.length ≤ 12) (hs : ∀ p ∈ l, sideP 4 (p.1, p.2.1)) :
    Calls Tryz.prog 82 #[.slice a l.length cap] w fun e w' => e = .returned (.bool true) ∧ Below w.heap.size w w' := by
  have HC := Lib.hid (containsFuncO_any 131 #[] (fun r => ¬ sideP 4 (r.1, r.2.1)) l a cap w hl (by omega) w.heap.size (Nat.le_refl _) (fun j hj W hW => algOk1_any _ _ _ W (by have := (hs _ (nthO_mem hj)).2.1; simp only [] at this; unfold maxLen; omega) (by have := (hs _ (nthO_mem hj)).2.2; simp only [] at this; unfold maxLen; omega)) (enters_of Tryz.func131 (by kernel_rfl) rfl))
  have HN : Hid (¬ ∃ r ∈ l, ¬ sideP 4 (r.1, r.2.1)) := Lib.hid (fun ⟨r, hr, hn⟩ => hn (hs r hr))
  have n1 : (l.length : Int) ≤ 12 := by omega
  clear hl hs
  go_enter Tryz.func82, Tryz.ntmps82
  go_wp2_with fail
  refine HC.out.mono ?_
  rintro e w2 ⟨bb, hbb, rfl, hb2⟩
  have HB2 := Lib.hid hb2
  obtain rfl : bb = false := by
    cases bb
    · rfl
    · exact absurd (hbb.1 rfl) HN.out
  clear hbb hb2 HC
  go_wp2_with fail
  go_ret
  exact ⟨rfl, HB2.out⟩
/-- the algorithm that doubles -/
def dblL : List OrdD := [(⟨#[99, 97]⟩, ⟨#[97, 97, 99]⟩, false), (⟨#[99]⟩, ⟨#[]⟩, true), (⟨#[]⟩, ⟨#[99]⟩, false)]
theorem dblL_side : ∀ p ∈ dblL, sideP 4 (p.1, p.2.1) := by
  intro p hp
  unfold dblL at hp
  simp only [List.mem_cons, List.not_mem_nil, or_false] at hp
  rcases hp with rfl | rfl | rfl <;> exact ⟨⟨by decide +kernel, by decide +kernel⟩, by decide, by decide⟩
theorem ords_lit (w : World) (l : List OrdD) : OrdsIn (w.alloc (.cells (ordCells l).toArray 76)) (some ⟨w.heap.size, 0, none⟩) l := by
  refine .inr ⟨_, _, rfl, fun i hi => ?_⟩
  rw [Nat.zero_add, World.cell?_alloc_new]
  show (ordCells l).toArray[i]? = some _
  rw [List.getElem?_toArray, List.getElem?_eq_getElem hi]
set_option maxHeartbeats 1000000 in
theorem implDoubling_any (w : World) : Calls Tryz.prog 33 #[] w fun e w' => ∃ a c, e = .returned (.slice a 3 c) ∧ OrdsIn w' a dblL ∧ Below w.heap.size w w' := by
  have F : Hid (∃ a c, Ending.returned (.slice (some ⟨w.heap.size, 0, none⟩) 3 3) = .returned (.slice a 3 c) ∧ OrdsIn (w.alloc (.cells (ordCells dblL).toArray 76)) a dblL ∧ Below w.heap.size w (w.alloc (.cells (ordCells dblL).toArray 76))) :=
    Lib.hid ⟨_, _, rfl, ords_lit w dblL, alloc_belowS _ _⟩
  go_enter Tryz.func33, Tryz.ntmps33
  go_wp2_with fail
  go_ret
  exact F.out
end Go.Proofs.YtoddpmdjjgnpgaaGreatDoor
namespace Go.Proofs.YtoddpmdjjgnpgaaGreatDoor
open Go.RowKit
set_option linter.unusedVariables false
section
variable {P : Program} {Q : Exit → Act → World → Prop} {E : Act → World → Prop}
/-- the walk of a region that draws its order and ends in a forced tail of operations, from number n on -/
theorem any_tail {a : Act} {w : World} {l : List Oper} {Fr : (Nat → Value) → Act} (n : Nat) (C : World → Prop) (R : World → World → Prop) (hF : ∀ u, fPut (l.take n) 0 a u = Fr u) (hd : dstsB (l.take n) = true) (hb : backB (l.take n) 0 = true)
    (hn : decide (n < l.length) = true) (hs : Region.sinkB .any l.toArray n = true) (hch : Region.chainB .any l.toArray n = true) (hq : Region.seqB .any l.toArray (l.length - n) n (List.replicate n true ++ List.replicate (l.length - n) false).toArray = true)
    (hC : C { w with drawn := w.drawn + 1 }) (h : eachOf P (endQ Q (wpList P l.toArray Q (l.drop n))) l Fr C R (l.take n) []) : wpAny P .any l.toArray Q l.toArray.size (Array.replicate l.toArray.size false) a { w with drawn := w.drawn + 1 } := by
  have hFr : Fr = fPut (l.take n) 0 a := funext fun u => (hF u).symm
  have hn' : n < l.length := of_decide_eq_true hn
  subst hFr
  obtain ⟨F, _, hlen, hmono, hstep, hend⟩ := each_out (l.take n) [] hb (fun V hV => by cases hV) h
  simp only [List.length_nil, Nat.zero_add] at hlen hstep
  have htl : (l.take n).length = n := by rw [List.length_take]; omega
  rw [htl] at hlen
  have inv0 : HeadInv .any l.toArray n (Array.replicate l.toArray.size false) :=
    ⟨by simp, fun j oj _ hl => (by rw [getD_replicate_false] at hl; cases hl), fun t _ ht => getD_in (by simpa using ht) (getD_replicate_false _ _)⟩
  have H := wpAny_headTail (P := P) (Q := Q) hn' hs hch hb hq (fun listed a' w' => listed.size = l.length ∧ ∃ u, a' = fPut (l.take n) 0 a u ∧ C w' ∧ ∀ i, i < n → listed.getD i false = true → F.getD i (fun _ _ => True) (u i) w') ?_ ?_ n (Array.replicate l.toArray.size false) a { w with drawn := w.drawn + 1 } inv0 ?_ ?_
  · rw [show n + (l.length - n) = l.length by omega] at H
    simpa using H
  · rintro listed a' w' i ⟨hs, u, rfl, hc, hk⟩ hin hi
    obtain ⟨hun, o, ho, hall⟩ := mem_ready.1 hi
    have ho' : l[i]? = some o := by simpa using ho
    have hot : (l.take n)[i]? = some o := by rw [List.getElem?_take, if_pos hin]; exact ho'
    have hlt : i < listed.size := by rw [hs]; exact (List.getElem?_eq_some_iff.1 ho').1
    have hst := hstep i o hot u w' hc (factsOf_mk F _ u w' fun e he hbi => hk _ (by
      have := backB_at (l.take n) 0 i o hb hot e (by simpa using he) hbi
      omega) (hall e (by simpa using he) hbi))
    have hup : ∀ v, (fPut (l.take n) 0 a u).put o.dst v = fPut (l.take n) 0 a (updV u i v) := fun v => by
      have := fPut_upd (l.take n) 0 a u i o v hd hot
      rwa [Nat.zero_add] at this
    have hput : ∀ (v : Value) (w2 : World), C w2 → R w' w2 → F.getD i (fun _ _ => True) v w2 → (listed.setIfInBounds i true).size = l.length ∧ ∃ u', (fPut (l.take n) 0 a u).put o.dst v = fPut (l.take n) 0 a u' ∧ C w2 ∧ ∀ j, j < n → (listed.setIfInBounds i true).getD j false = true → F.getD j (fun _ _ => True) (u' j) w2 := fun v w2 hc2 hr hv => by
      refine ⟨by simpa using hs, updV u i v, hup v, hc2, fun j hjn hj => ?_⟩
      by_cases hji : j = i
      · subst hji; unfold updV; rw [if_pos rfl]; exact hv
      · rw [getD_set_ne false (fun e => hji e.symm)] at hj
        unfold updV; rw [if_neg hji]
        have hjk := hk j hjn hj
        have hjl : j < F.length := by omega
        rw [List.getD_eq_getElem?_getD, List.getElem?_eq_getElem hjl] at hjk ⊢
        exact hmono _ (List.getElem_mem hjl) _ _ _ hc2 hr hjk
    unfold wpOp
    rw [ho]
    simp only
    split at hst
    · rename_i hw
      rw [if_pos hw]
      exact .inl (wp_endQ (hst _ hput))
    · rename_i hw
      rw [if_neg hw]
      refine ⟨by simpa using hs, updV u i undef, hup undef, hc, fun j hjn hj => ?_⟩
      by_cases hji : j = i
      · subst hji; unfold updV; rw [if_pos rfl]; exact hst
      · rw [getD_set_ne false (fun e => hji e.symm)] at hj
        unfold updV; rw [if_neg hji]
        exact hk j hjn hj
  · rintro a' w' ⟨_, u, rfl, hc, hk⟩
    refine hend u w' hc (allOf_mk F 0 u w' fun i hi => ?_)
    rw [Nat.zero_add]
    refine hk i (by omega) ?_
    have hin : i < n := by omega
    simp [Array.getD_eq_getD_getElem?, List.getElem?_append, hin]
  · refine ⟨by simp, fun i => match (l.take n)[i]? with | some o => (match o.dst with | some d => a.tmps.getD d undef | none => undef) | none => undef, ?_, hC, fun i _ hi => ?_⟩
    · refine (fPut_self (l.take n) 0 a _ fun i o d hi hd' => ?_).symm
      simp only [Nat.zero_add, hi, hd']
    · rw [getD_replicate_false] at hi; cases hi
  · simp [List.count_replicate]
theorem rowsIn_wideR {l n : Nat} {row : String} {args : Array Value} {w : World} {R : Value → World → Prop} (h : Rows P row args w R) : Go.RowsIn (Fence.wide.inRound l) n P row args w R :=
  fun c cs _ => let ⟨v, w', r, s⟩ := h c cs; ⟨v, w', r, stepsIn_wide.2 s⟩
theorem opIn_of_op {l n : Nat} {o : Oper} {a : Act} {w : World} {K : Act → World → Prop} (hd : ∀ c, o.op ≠ .defer c) (h : o.wp P a w K Q) : o.wpIn (Fence.wide.inRound l) n P a w K Q := by
  unfold Oper.wpIn
  refine ⟨fun f _ => trivial, ?_⟩
  rw [Oper.semAt_eq _ _ _ hd]
  unfold Oper.wp at h
  generalize (execOp a.eval o).run P w = r at *
  cases r with
  | ok x w' =>
    cases x with
    | value v => exact h
    | skip => exact h
    | defer d => exact h
    | enter f args => exact ⟨fun h => by simp [Fence.wide] at h, CallsIn.inRound l (callsIn_wide.2 h)⟩
    | row row args => exact ⟨fun h => by simp [Fence.wide] at h, rowsIn_wideR h⟩
    | _ => exact False.elim h
  | halt x w' =>
    cases x with
    | panic v => exact h
    | _ => exact False.elim h
theorem anyIn_of_any {l n : Nat} {md : Region.Mode} {ops : Array Oper} (hd : ∀ o ∈ ops.toList, ∀ c, o.op ≠ .defer c) (hQ : ¬ LetsOut Q) : ∀ (fuel : Nat) (listed : Array Bool) (a : Act) (w : World), wpAny P md ops Q fuel listed a w → wpAnyIn (Fence.wide.inRound l) n P md ops Q fuel listed a w
  | 0, _, _, _, h => h
  | fuel + 1, listed, a, w, h => by
    refine ⟨h.1, fun i hi => ?_⟩
    have h2 := h.2 i hi
    unfold wpOp at h2
    unfold wpOpIn
    cases ho : ops[i]? with
    | none =>
      rw [ho] at h2
      exact anyIn_of_any hd hQ fuel _ a w h2
    | some o =>
      rw [ho] at h2
      simp only at h2 ⊢
      have hm : o ∈ ops.toList := by
        obtain ⟨hl, he⟩ := Array.getElem?_eq_some_iff.1 ho
        rw [← he]
        exact Array.getElem_mem_toList hl
      split at h2
      · rename_i hw
        rw [if_pos hw]
        rcases h2 with h2 | h2
        · exact opIn_of_op (hd o hm) (Oper.wp_mono (fun a w => anyIn_of_any hd hQ fuel _ a w) h2)
        · exact absurd h2.2 hQ
      · rename_i hw
        rw [if_neg hw]
        exact ⟨fun f _ => trivial, anyIn_of_any hd hQ fuel _ _ w h2⟩
/-- no operation of the list defers -/
def noDefB (l : List Oper) : Bool := l.all fun o => match o.op with
  | .defer _ => false
  | _ => true
theorem noDef_of {l : List Oper} (h : noDefB l = true) : ∀ o ∈ l.toArray.toList, ∀ c, o.op ≠ .defer c := fun o ho c e => by
  have h1 := List.all_eq_true.1 h o (by simpa using ho)
  rw [e] at h1
  cases h1
theorem region_tailIn {id lp m : Nat} {a : Act} {w : World} {l : List Oper} {Fr : (Nat → Value) → Act} (n : Nat) (C : World → Prop) (R : World → World → Prop) (hQ : ¬ LetsOut Q) (hF : ∀ u, fPut (l.take n) 0 a u = Fr u) (hm : P.follows .mixedOrders = true) (hdf : noDefB l = true) (hd : dstsB (l.take n) = true) (hb : backB (l.take n) 0 = true)
    (hn : decide (n < l.length) = true) (hs : Region.sinkB .any l.toArray n = true) (hch : Region.chainB .any l.toArray n = true) (hq : Region.seqB .any l.toArray (l.length - n) n (List.replicate n true ++ List.replicate (l.length - n) false).toArray = true)
    (hC : C { w with drawn := w.drawn + 1 }) (h : eachOf P (endQ Q (wpList P l.toArray Q (l.drop n))) l Fr C R (l.take n) []) : (Code.region id l.toArray true).wpIn (Fence.wide.inRound lp) m P Q a w :=
  wpIn_region_any hm (anyIn_of_any (noDef_of hdf) hQ _ _ _ _ (any_tail n C R hF hd hb hn hs hch hq hC h))
end
end Go.Proofs.YtoddpmdjjgnpgaaGreatDoor
