/-
  SmallestOf, SameLanguage of the program. Printed by sami.py.
-/
import Derived.Test.YtoddpmdjjgnpgaaGreatDoorGra26
import Derived.Test.YtoddpmdjjgnpgaaGreatDoorGra30
import Derived.Test.YtoddpmdjjgnpgaaGreatDoorGra03
namespace Go.Proofs.YtoddpmdjjgnpgaaGreatDoor
open Go.RowKit
set_option linter.unusedVariables false
theorem take_same {α : Type _} {d : α} {l m : List α} {j : Nat} (h : l.take j = m.take j) (hl : j < l.length) (hm : j < m.length) (e : l.getD j d = m.getD j d) : l.take (j + 1) = m.take (j + 1) := by
  rw [List.take_succ_eq_append_getElem hl, List.take_succ_eq_append_getElem hm, h]
  rw [List.getD_eq_getElem?_getD, List.getD_eq_getElem?_getD, List.getElem?_eq_getElem hl, List.getElem?_eq_getElem hm] at e
  have e2 : l[j] = m[j] := by simpa using e
  rw [e2]
set_option maxRecDepth 20000 in
set_option maxHeartbeats 2000000 in
theorem equalB_any (l m : List Bool) (a a2 : Option Addr) (cap cap2 : Nat) (w : World) (hl : BoolsIn w a l) (hl2 : BoolsIn w a2 m) (hlen : l.length ≤ 1000000) (hlen2 : m.length ≤ 1000000) :
    Calls Tryz.prog 55 #[.slice a l.length cap, .slice a2 m.length cap2] w (RetP (l = m) w) := by
  have HL := Lib.hid hl
  have HL2 := Lib.hid hl2
  by_cases hn : l.length = m.length
  · have hni : (((l.length : Nat) : Int) != ((m.length : Nat) : Int)) = false := by rw [hn]; simp
    have HNN := Lib.hid hn
    clear hl hl2 hn
    go_enter Tryz.func55, Tryz.ntmps55
    go_wp2_with fail
    clear hni
    go_loopw [13] (fun i wr => ∃ j : Nat, j ≤ l.length ∧ i = .int .i64 (j : Nat) ∧ Hid (l.take j = m.take j) ∧ Hid (Below w.heap.size w wr)) (fun i _ => l.length - (intOf i).toNat)
    case atStart => exact ⟨0, Nat.zero_le _, rfl, Lib.hid (by simp), Lib.hid (Below.refl _ _)⟩
    case round =>
      obtain ⟨j, hj, rfl, HT, HB⟩ := hrel
      by_cases hlt : j < l.length
      · have hji : (j : Int) < (l.length : Int) := by omega
        have hlm : j < m.length := by rw [← HNN.out]; exact hlt
        have hjm : (j : Int) < (m.length : Int) := by omega
        obtain ⟨b1, o1, rfl, hb1, hc1⟩ := HL.out.cell hlt
        obtain ⟨b2, o2, rfl, hb2, hc2⟩ := HL2.out.cell hlm
        have C1 := Lib.hid (hc1 j hlt)
        have C2 := Lib.hid (hc2 j hlm)
        have HST : Hid (l.getD j false = m.getD j false → l.take (j + 1) = m.take (j + 1)) := Lib.hid (fun e => take_same HT.out hlt hlm e)
        have HNE : Hid (l.getD j false ≠ m.getD j false → l ≠ m) := Lib.hid (fun h e => h (by rw [e]))
        have hbel := HB.out
        clear hc1 hc2 hlm HL HL2
        generalize l.getD j false = x at *
        generalize m.getD j false = y at *
        go_upto_region 6 with fail
        refine region_each (fun W => Below w.heap.size w W) (fun W1 W2 => Below W1.heap.size W1 W2) (fun u => by simp only [fPut, Act.put, List.setIfInBounds_toArray, List.set_cons_succ, List.set_cons_zero, Nat.zero_add, Nat.reduceAdd]; rfl) (by kernel_rfl) (by kernel_rfl) (by kernel_rfl) ((Below.drew hbel)) ?_
        apply each_read (fun _ => Below.refl _ _) rfl
        · intro u wv hC hf
          have z1 := (hC.cell hb1).trans C1.out
          have z2 := (hC.cell hb2).trans C2.out
          clear hf
          go_simp
          try rfl
        apply each_read (fun _ => Below.refl _ _) rfl
        · intro u wv hC hf
          have z1 := (hC.cell hb1).trans C1.out
          have z2 := (hC.cell hb2).trans C2.out
          clear hf
          go_simp
          try rfl
        conv => arg 8; simp only [List.cons_append, List.nil_append]
        apply each_read (fun _ => Below.refl _ _) rfl
        · intro u wv hC hf
          have z1 := (hC.cell hb1).trans C1.out
          have z2 := (hC.cell hb2).trans C2.out
          obtain ⟨d0_0, d1_1, -⟩ := hf
          have e0 : u 0 = _ := d0_0 rfl
          clear d0_0
          have e1 : u 1 = _ := d1_1 rfl
          clear d1_1
          go_simp
          try rfl
        conv => arg 8; simp only [List.cons_append, List.nil_append]
        apply each_read (fun _ => Below.refl _ _) rfl
        · intro u wv hC hf
          have z1 := (hC.cell hb1).trans C1.out
          have z2 := (hC.cell hb2).trans C2.out
          obtain ⟨d2_0, -⟩ := hf
          have e2 : u 2 = _ := d2_0 rfl
          clear d2_0
          go_simp
          try rfl
        conv => arg 8; simp only [List.cons_append, List.nil_append]
        apply each_read (fun _ => Below.refl _ _) rfl
        · intro u wv hC hf
          have z1 := (hC.cell hb1).trans C1.out
          have z2 := (hC.cell hb2).trans C2.out
          clear hf
          go_simp
          try rfl
        conv => arg 8; simp only [List.cons_append, List.nil_append]
        apply each_read (fun _ => Below.refl _ _) rfl
        · intro u wv hC hf
          have z1 := (hC.cell hb1).trans C1.out
          have z2 := (hC.cell hb2).trans C2.out
          clear hf
          go_simp
          try rfl
        conv => arg 8; simp only [List.cons_append, List.nil_append]
        apply each_read (fun _ => Below.refl _ _) rfl
        · intro u wv hC hf
          have z1 := (hC.cell hb1).trans C1.out
          have z2 := (hC.cell hb2).trans C2.out
          obtain ⟨d4_0, d5_1, -⟩ := hf
          have e4 : u 4 = _ := d4_0 rfl
          clear d4_0
          have e5 : u 5 = _ := d5_1 rfl
          clear d5_1
          go_simp
          try rfl
        conv => arg 8; simp only [List.cons_append, List.nil_append]
        apply each_read (fun _ => Below.refl _ _) rfl
        · intro u wv hC hf
          have z1 := (hC.cell hb1).trans C1.out
          have z2 := (hC.cell hb2).trans C2.out
          obtain ⟨d6_0, -⟩ := hf
          have e6 : u 6 = _ := d6_0 rfl
          clear d6_0
          go_simp
          try rfl
        conv => arg 8; simp only [List.cons_append, List.nil_append]
        apply each_read (fun _ => Below.refl _ _) rfl
        · intro u wv hC hf
          have z1 := (hC.cell hb1).trans C1.out
          have z2 := (hC.cell hb2).trans C2.out
          obtain ⟨d3_0, d7_1, -⟩ := hf
          have e3 : u 3 = _ := d3_0 rfl
          clear d3_0
          have e7 : u 7 = _ := d7_1 rfl
          clear d7_1
          go_simp
          try rfl
        intro u w7 d7 hall
        obtain ⟨a0, a1, a2, a3, a4, a5, a6, a7, a8, -⟩ := hall
        have e0 : u 0 = _ := a0
        clear a0
        have e1 : u 1 = _ := a1
        clear a1
        have e2 : u 2 = _ := a2
        clear a2
        have e3 : u 3 = _ := a3
        clear a3
        have e4 : u 4 = _ := a4
        clear a4
        have e5 : u 5 = _ := a5
        clear a5
        have e6 : u 6 = _ := a6
        clear a6
        have e7 : u 7 = _ := a7
        clear a7
        have e8 : u 8 = _ := a8
        clear a8
        simp only [e0, e1, e2, e3, e4, e5, e6, e7, e8]
        clear e0 e1 e2 e3 e4 e5 e6 e7 e8
        have HD := Lib.hid d7
        clear d7 hbel C1 C2 hb1 hb2
        by_cases hxy : x = y
        · have HT2 := Lib.hid (HST.out hxy)
          subst hxy
          clear HST HNE
          cases x
          case false =>
            go_wp2_with fail
            go_roundw
            case rel => exact ⟨j + 1, by omega, by go_num, HT2, HD⟩
            case measure => simp [intOf]; omega
          case true =>
            go_wp2_with fail
            go_roundw
            case rel => exact ⟨j + 1, by omega, by go_num, HT2, HD⟩
            case measure => simp [intOf]; omega
        · have HN2 := Lib.hid (HNE.out hxy)
          clear HST HNE
          cases x
          case false =>
            cases y
            case false => exact absurd rfl hxy
            case true =>
              go_wp2_with fail
              go_ret
              exact RetP.no HN2.out HD.out
          case true =>
            cases y
            case true => exact absurd rfl hxy
            case false =>
              go_wp2_with fail
              go_ret
              exact RetP.no HN2.out HD.out
      · have hji : ¬ (j : Int) < (l.length : Int) := by omega
        have HE : Hid (l = m) := Lib.hid (by
          have h := HT.out
          rw [List.take_of_length_le (by omega), List.take_of_length_le (by have := HNN.out; omega)] at h
          exact h)
        go_wp2_with fail
        go_ret
        exact RetP.yes HE.out HB.out
  · have hni : (((l.length : Nat) : Int) != ((m.length : Nat) : Int)) = true := by simp; omega
    have HNN : Hid (l ≠ m) := Lib.hid (fun e => hn (by rw [e]))
    clear hl hl2 hn
    go_enter Tryz.func55, Tryz.ntmps55
    go_wp2_with fail
    go_ret
    exact RetP.no HNN.out (Below.refl _ _)
set_option maxRecDepth 20000 in
set_option maxHeartbeats 2000000 in
theorem equalZ_any (l m : List Int) (a a2 : Option Addr) (cap cap2 : Nat) (w : World) (hl : IntsIn w a l) (hl2 : IntsIn w a2 m) (hlen : l.length ≤ 1000000) (hlen2 : m.length ≤ 1000000) :
    Calls Tryz.prog 54 #[.slice a l.length cap, .slice a2 m.length cap2] w (RetP (l = m) w) := by
  have HL := Lib.hid hl
  have HL2 := Lib.hid hl2
  by_cases hn : l.length = m.length
  · have hni : (((l.length : Nat) : Int) != ((m.length : Nat) : Int)) = false := by rw [hn]; simp
    have HNN := Lib.hid hn
    clear hl hl2 hn
    go_enter Tryz.func54, Tryz.ntmps54
    go_wp2_with fail
    clear hni
    go_loopw [13] (fun i wr => ∃ j : Nat, j ≤ l.length ∧ i = .int .i64 (j : Nat) ∧ Hid (l.take j = m.take j) ∧ Hid (Below w.heap.size w wr)) (fun i _ => l.length - (intOf i).toNat)
    case atStart => exact ⟨0, Nat.zero_le _, rfl, Lib.hid (by simp), Lib.hid (Below.refl _ _)⟩
    case round =>
      obtain ⟨j, hj, rfl, HT, HB⟩ := hrel
      by_cases hlt : j < l.length
      · have hji : (j : Int) < (l.length : Int) := by omega
        have hlm : j < m.length := by rw [← HNN.out]; exact hlt
        have hjm : (j : Int) < (m.length : Int) := by omega
        obtain ⟨b1, o1, rfl, hb1, hc1⟩ := HL.out.cell hlt
        obtain ⟨b2, o2, rfl, hb2, hc2⟩ := HL2.out.cell hlm
        have C1 := Lib.hid (hc1 j hlt)
        have C2 := Lib.hid (hc2 j hlm)
        have HST : Hid (nthZ l j = nthZ m j → l.take (j + 1) = m.take (j + 1)) := Lib.hid (fun e => take_same HT.out hlt hlm e)
        have HNE : Hid (nthZ l j ≠ nthZ m j → l ≠ m) := Lib.hid (fun h e => h (by rw [e]))
        have hbel := HB.out
        clear hc1 hc2 hlm HL HL2
        generalize nthZ l j = x at *
        generalize nthZ m j = y at *
        go_upto_region 6 with fail
        refine region_each (fun W => Below w.heap.size w W) (fun W1 W2 => Below W1.heap.size W1 W2) (fun u => by simp only [fPut, Act.put, List.setIfInBounds_toArray, List.set_cons_succ, List.set_cons_zero, Nat.zero_add, Nat.reduceAdd]; rfl) (by kernel_rfl) (by kernel_rfl) (by kernel_rfl) ((Below.drew hbel)) ?_
        apply each_read (fun _ => Below.refl _ _) rfl
        · intro u wv hC hf
          have z1 := (hC.cell hb1).trans C1.out
          have z2 := (hC.cell hb2).trans C2.out
          clear hf
          go_simp
          try rfl
        apply each_read (fun _ => Below.refl _ _) rfl
        · intro u wv hC hf
          have z1 := (hC.cell hb1).trans C1.out
          have z2 := (hC.cell hb2).trans C2.out
          clear hf
          go_simp
          try rfl
        conv => arg 8; simp only [List.cons_append, List.nil_append]
        apply each_read (fun _ => Below.refl _ _) rfl
        · intro u wv hC hf
          have z1 := (hC.cell hb1).trans C1.out
          have z2 := (hC.cell hb2).trans C2.out
          obtain ⟨d0_0, d1_1, -⟩ := hf
          have e0 : u 0 = _ := d0_0 rfl
          clear d0_0
          have e1 : u 1 = _ := d1_1 rfl
          clear d1_1
          go_simp
          try rfl
        conv => arg 8; simp only [List.cons_append, List.nil_append]
        apply each_read (fun _ => Below.refl _ _) rfl
        · intro u wv hC hf
          have z1 := (hC.cell hb1).trans C1.out
          have z2 := (hC.cell hb2).trans C2.out
          obtain ⟨d2_0, -⟩ := hf
          have e2 : u 2 = _ := d2_0 rfl
          clear d2_0
          go_simp
          try rfl
        conv => arg 8; simp only [List.cons_append, List.nil_append]
        apply each_read (fun _ => Below.refl _ _) rfl
        · intro u wv hC hf
          have z1 := (hC.cell hb1).trans C1.out
          have z2 := (hC.cell hb2).trans C2.out
          clear hf
          go_simp
          try rfl
        conv => arg 8; simp only [List.cons_append, List.nil_append]
        apply each_read (fun _ => Below.refl _ _) rfl
        · intro u wv hC hf
          have z1 := (hC.cell hb1).trans C1.out
          have z2 := (hC.cell hb2).trans C2.out
          clear hf
          go_simp
          try rfl
        conv => arg 8; simp only [List.cons_append, List.nil_append]
        apply each_read (fun _ => Below.refl _ _) rfl
        · intro u wv hC hf
          have z1 := (hC.cell hb1).trans C1.out
          have z2 := (hC.cell hb2).trans C2.out
          obtain ⟨d4_0, d5_1, -⟩ := hf
          have e4 : u 4 = _ := d4_0 rfl
          clear d4_0
          have e5 : u 5 = _ := d5_1 rfl
          clear d5_1
          go_simp
          try rfl
        conv => arg 8; simp only [List.cons_append, List.nil_append]
        apply each_read (fun _ => Below.refl _ _) rfl
        · intro u wv hC hf
          have z1 := (hC.cell hb1).trans C1.out
          have z2 := (hC.cell hb2).trans C2.out
          obtain ⟨d6_0, -⟩ := hf
          have e6 : u 6 = _ := d6_0 rfl
          clear d6_0
          go_simp
          try rfl
        conv => arg 8; simp only [List.cons_append, List.nil_append]
        apply each_read (fun _ => Below.refl _ _) rfl
        · intro u wv hC hf
          have z1 := (hC.cell hb1).trans C1.out
          have z2 := (hC.cell hb2).trans C2.out
          obtain ⟨d3_0, d7_1, -⟩ := hf
          have e3 : u 3 = _ := d3_0 rfl
          clear d3_0
          have e7 : u 7 = _ := d7_1 rfl
          clear d7_1
          go_simp
          try rfl
        intro u w7 d7 hall
        obtain ⟨a0, a1, a2, a3, a4, a5, a6, a7, a8, -⟩ := hall
        have e0 : u 0 = _ := a0
        clear a0
        have e1 : u 1 = _ := a1
        clear a1
        have e2 : u 2 = _ := a2
        clear a2
        have e3 : u 3 = _ := a3
        clear a3
        have e4 : u 4 = _ := a4
        clear a4
        have e5 : u 5 = _ := a5
        clear a5
        have e6 : u 6 = _ := a6
        clear a6
        have e7 : u 7 = _ := a7
        clear a7
        have e8 : u 8 = _ := a8
        clear a8
        simp only [e0, e1, e2, e3, e4, e5, e6, e7, e8]
        clear e0 e1 e2 e3 e4 e5 e6 e7 e8
        have HD := Lib.hid d7
        clear d7 hbel C1 C2 hb1 hb2
        by_cases hxy : x = y
        · have HT2 := Lib.hid (HST.out hxy)
          have hne : (x != y) = false := by rw [hxy]; simp
          clear hxy HST HNE
          go_wp2_with fail
          go_roundw
          case rel => exact ⟨j + 1, by omega, by go_num, HT2, HD⟩
          case measure => simp [intOf]; omega
        · have hne : (x != y) = true := by simpa using hxy
          have HN2 := Lib.hid (HNE.out hxy)
          clear hxy HST HNE
          go_wp2_with fail
          go_ret
          exact RetP.no HN2.out HD.out
      · have hji : ¬ (j : Int) < (l.length : Int) := by omega
        have HE : Hid (l = m) := Lib.hid (by
          have h := HT.out
          rw [List.take_of_length_le (by omega), List.take_of_length_le (by have := HNN.out; omega)] at h
          exact h)
        go_wp2_with fail
        go_ret
        exact RetP.yes HE.out HB.out
  · have hni : (((l.length : Nat) : Int) != ((m.length : Nat) : Int)) = true := by simp; omega
    have HNN : Hid (l ≠ m) := Lib.hid (fun e => hn (by rw [e]))
    clear hl hl2 hn
    go_enter Tryz.func54, Tryz.ntmps54
    go_wp2_with fail
    go_ret
    exact RetP.no HNN.out (Below.refl _ _)
def RetSO (k : Nat) (N : List Int) (F : List Bool) (w : World) (e : Ending) (w' : World) : Prop := ∃ (aN : Option Addr) (nx : List Int) (cN : Nat) (aF : Option Addr) (fin : List Bool) (cF : Nat),
  e = .returned (.tuple #[.agg #[.int .i64 (k : Nat), .slice aN nx.length cN, .slice aF fin.length cF], .bool true]) ∧ CanIs k (accA k N F 0) nx fin ∧ fin.length ≤ F.length ∧ OwnA w' w.heap.size aN nx cN aF fin cF ∧ Below w.heap.size w w'
set_option maxRecDepth 20000 in
set_option maxHeartbeats 4000000 in
theorem implSmallestOf_any (k : Nat) (N : List Int) (F : List Bool) (aN aF : Option Addr) (cN cF : Nat) (w : World) (hN : IntsIn w aN N) (hF : BoolsIn w aF F) (h : AutP k N F) (ht : Tab10 w) :
    Calls Tryz.prog 15 #[.agg #[.int .i64 (k : Nat), .slice aN N.length cN, .slice aF F.length cF]] w (RetSO k N F w) := by
  obtain ⟨w1, hw1⟩ : ∃ w1, (w.alloc (.cells #[.int .i64 (k : Nat), .slice aN N.length cN, .slice aF F.length cF] 30)).alloc (.cells #[.int .i64 0, .slice none 0 0, .slice none 0 0] 30) = w1 := ⟨_, rfl⟩
  have HB1 : Hid (Below w.heap.size w w1) := Lib.hid (by rw [← hw1]; exact ((Below.refl _ _).alloc (Nat.le_refl _) _).alloc (by simp) _)
  have HX1 : Hid (w1.heap[w.heap.size]? = some (.cells #[.int .i64 (k : Nat), .slice aN N.length cN, .slice aF F.length cF] 30 (0, 0))) := Lib.hid (by
    rw [← hw1, (alloc_belowS _ _).block _ (by simp)]; exact alloc_at _ _)
  have HZ1 : Hid (w1.heap[w.heap.size + 1]? = some (.cells #[.int .i64 0, .slice none 0 0, .slice none 0 0] 30 (0, 0))) := Lib.hid (by
    rw [← hw1]; have h := alloc_at (w.alloc (.cells #[.int .i64 (k : Nat), .slice aN N.length cN, .slice aF F.length cF] 30)) (.cells #[.int .i64 0, .slice none 0 0, .slice none 0 0] 30); simpa using h)
  have HOK := Lib.hid (implAutOk_yes k N F aN aF cN cF w1 (hN.later HB1.out) h)
  have HSM : Hid (∀ W, Below w1.heap.size w1 W → Calls Tryz.prog 53 #[.agg #[.int .i64 (k : Nat), .slice aN N.length cN, .slice aF F.length cF]] W (RetSma k N F W)) := Lib.hid (fun W hW => implSmallest_any k N F aN aF cN cF W ((hN.later HB1.out).later hW) ((hF.later HB1.out).later hW) h ((ht.later HB1.out).later hW))
  clear hN hF h ht
  obtain ⟨x0, x1, x2⟩ := aut_cells HX1.out
  go_enter Tryz.func15, Tryz.ntmps15
  go_upto_region 1 with fail
  generalize (w.alloc (.cells #[.int .i64 (k : Nat), .slice aN N.length cN, .slice aF F.length cF] 30)).alloc (.cells #[.int .i64 0, .slice none 0 0, .slice none 0 0] 30) = wg at *
  subst hw1
  go_wp2_with fail
  refine HOK.out.mono ?_
  rintro e w2 ⟨rfl, hb2⟩
  have HB2 := Lib.hid hb2
  clear hb2 x0 x1 x2
  obtain ⟨x0, x1, x2⟩ := aut_cells (blk_later HX1.out HB2.out)
  go_wp2_with fail
  refine (HSM.out _ HB2.out).mono ?_
  rintro e w3 ⟨bN, nx, cb, bF, fin, cf, rfl, hca, hle, ho, hb3⟩
  have HZ3 := Lib.hid (blk_later HZ1.out (Below.now HB2.out hb3))
  have hz2 : w.heap.size + 1 < w2.heap.size := by
    have h1 := (Array.getElem?_eq_some_iff.1 (blk_later HZ1.out HB2.out)).1
    exact h1
  have HO := Lib.hid ((ho.set3 hz2 (.int .i64 (k : Nat)) (.slice bN nx.length cb) (.slice bF fin.length cf)).mono (show w.heap.size ≤ _ by omega))
  have HBW := Lib.hid ((((Below.now HB1.out (Below.now HB2.out hb3)).setCell (p := ⟨w.heap.size + 1, 0, none⟩) (show w.heap.size ≤ w.heap.size + 1 by omega) (.int .i64 (k : Nat))).setCell (p := ⟨w.heap.size + 1, 1, none⟩) (show w.heap.size ≤ w.heap.size + 1 by omega) (.slice bN nx.length cb)).setCell (p := ⟨w.heap.size + 1, 2, none⟩) (show w.heap.size ≤ w.heap.size + 1 by omega) (.slice bF fin.length cf))
  have FR : Hid (RetSO k N F w (.returned (.tuple #[.agg #[.int .i64 (k : Nat), .slice bN nx.length cb, .slice bF fin.length cf], .bool true])) (((w3.setCell ⟨w.heap.size + 1, 0, none⟩ (.int .i64 (k : Nat))).setCell ⟨w.heap.size + 1, 1, none⟩ (.slice bN nx.length cb)).setCell ⟨w.heap.size + 1, 2, none⟩ (.slice bF fin.length cf))) := Lib.hid ⟨_, _, _, _, _, _, rfl, hca, hle, HO.out, HBW.out⟩
  clear hca hle ho hb3 x0 x1 x2 hz2
  obtain ⟨m0, m1, m2, mf0, mf1, mf2⟩ := aut_facts HZ3.out
  obtain ⟨u0, u1, u2⟩ := aut_cells (aut_three HZ3.out (.int .i64 (k : Nat)) (.slice bN nx.length cb) (.slice bF fin.length cf))
  go_wp2_with fail
  refine bodyPost_ret (v := .tuple #[.agg #[.int .i64 (k : Nat), .slice bN nx.length cb, .slice bF fin.length cf], .bool true]) ?_ rfl FR.out
  simp [results, Tryz.results15, go_sem, u0, u1, u2]
/-- a row lies apart from a box of another type -/
theorem row_ne {W : World} {H size n z : Nat} {T T' : TypeId} {v : Value} {xs : List Value} {ys : Array Value} {fz : Nat × Nat} (h : W.ownsRow H T size v n xs) (hz : W.heap[z]? = some (.cells ys T' fz)) (hT : T ≠ T') : v.ownBlock = none ∨ v.ownBlock ≠ some z := by
  rcases h.2 with ⟨rfl, _⟩ | ⟨g, cap, cur, rfl, _, hg, _⟩
  · exact .inl rfl
  · refine .inr fun e => ?_
    obtain rfl : g = z := by simpa [Value.ownBlock] using e
    rw [hg] at hz
    simp only [Option.some.injEq, Obj.cells.injEq] at hz
    exact hT hz.2.1
theorem OwnA.setBox {W : World} {H z : Nat} {aN : Option Addr} {N : List Int} {cN : Nat} {aF : Option Addr} {F : List Bool} {cF : Nat} {x y t : Value} (h : OwnA W H aN N cN aF F cF) (hz : W.heap[z]? = some (.cells #[x, y, t] 30 (0, 0))) (x' y' t' : Value) :
    OwnA (((W.setCell ⟨z, 0, none⟩ x').setCell ⟨z, 1, none⟩ y').setCell ⟨z, 2, none⟩ t') H aN N cN aF F cF := by
  have step : ∀ {W : World} {ys : Array Value} (o : Nat) (v : Value), OwnA W H aN N cN aF F cF → W.heap[z]? = some (.cells ys 30 (0, 0)) → OwnA (W.setCell ⟨z, o, none⟩ v) H aN N cN aF F cF := fun {W ys} o v h hz => ⟨h.1.kept (set_grownA W z o v) (row_ne h.1 hz (by decide)), h.2.kept (set_grownA W z o v) (row_ne h.2 hz (by decide))⟩
  exact step _ _ (step _ _ (step _ _ h hz) (set_hitA hz _)) (set_hitA (set_hitA hz _) _)
theorem three_miss {W : World} {g b : Nat} (h : g ≠ b) (x y t : Value) : (((W.setCell ⟨g, 0, none⟩ x).setCell ⟨g, 1, none⟩ y).setCell ⟨g, 2, none⟩ t).heap[b]? = W.heap[b]? := by
  rw [set_missA h, set_missA h, set_missA h]
theorem alloc_aut {o : Oper} {ρ : Operand → Value} {W w2 : World} {nx : Next} (ho : o.op = .alloc 30) (h : (execOp ρ o).run Tryz.prog W = .ok nx w2) : ∃ v, nx = .value v ∧ v = .pointer (some ⟨W.heap.size, 0, none⟩) ∧ W.heap.size < w2.heap.size := by
  have h2 : (execOp ρ o).run Tryz.prog W = .ok (.value (.pointer (some ⟨W.heap.size, 0, none⟩))) (W.alloc (.cells #[.int .i64 0, .slice none 0 0, .slice none 0 0] 30)) := by
    unfold execOp
    rw [ho]
    go_simp
    try rfl
  rw [h2] at h
  cases h
  exact ⟨_, rfl, rfl, by simp⟩
theorem can_len {k : Nat} {L : Lang} {nx : List Int} {fin : List Bool} (h : CanIs k L nx fin) (hk : k ≤ 4) (hf : fin.length ≤ 80) : nx.length ≤ 1000 := by
  obtain ⟨D, i, x, h, _⟩ := h
  have h1 := h.ok.nlen
  have h2 := h.ok.flen
  have h3 := h.ok.xle
  have h4 : i * k ≤ 80 * 4 := Nat.mul_le_mul (by omega) hk
  omega
/-- the smallest automata are the same exactly where the languages are -/
theorem can_same {k : Nat} {N N2 : List Int} {F F2 : List Bool} {nx nx2 : List Int} {fin fin2 : List Bool} (h : CanIs k (accA k N F 0) nx fin) (h2 : CanIs k (accA k N2 F2 0) nx2 fin2) : (nx = nx2 ∧ fin = fin2) ↔ accA k N F 0 = accA k N2 F2 0 := by
  constructor
  · rintro ⟨rfl, rfl⟩
    rw [← (h.acc (fun w hw => lang_in w 0 hw)).1, ← (h2.acc (fun w hw => lang_in w 0 hw)).1]
  · intro e
    rw [e] at h
    exact h.uniq h2
set_option maxRecDepth 20000 in
set_option maxHeartbeats 8000000 in
theorem implSame_any (k : Nat) (N N2 : List Int) (F F2 : List Bool) (aN aF aN2 aF2 : Option Addr) (cN cF cN2 cF2 : Nat) (w : World) (hN : IntsIn w aN N) (hF : BoolsIn w aF F) (h : AutP k N F) (hN2 : IntsIn w aN2 N2) (hF2 : BoolsIn w aF2 F2) (h2 : AutP k N2 F2) (ht : Tab10 w) :
    Calls Tryz.prog 16 #[.agg #[.int .i64 (k : Nat), .slice aN N.length cN, .slice aF F.length cF], .agg #[.int .i64 (k : Nat), .slice aN2 N2.length cN2, .slice aF2 F2.length cF2]] w (RetP (accA k N F 0 = accA k N2 F2 0) w) := by
  obtain ⟨w1, hw1⟩ : ∃ w1, (w.alloc (.cells #[.int .i64 (k : Nat), .slice aN N.length cN, .slice aF F.length cF] 30)).alloc (.cells #[.int .i64 (k : Nat), .slice aN2 N2.length cN2, .slice aF2 F2.length cF2] 30) = w1 := ⟨_, rfl⟩
  have HB1 : Hid (Below w.heap.size w w1) := Lib.hid (by rw [← hw1]; exact ((Below.refl _ _).alloc (Nat.le_refl _) _).alloc (by simp) _)
  have HX1 : Hid (w1.heap[w.heap.size]? = some (.cells #[.int .i64 (k : Nat), .slice aN N.length cN, .slice aF F.length cF] 30 (0, 0))) := Lib.hid (by
    rw [← hw1, (alloc_belowS _ _).block _ (by simp)]; exact alloc_at _ _)
  have HY1 : Hid (w1.heap[w.heap.size + 1]? = some (.cells #[.int .i64 (k : Nat), .slice aN2 N2.length cN2, .slice aF2 F2.length cF2] 30 (0, 0))) := Lib.hid (by
    rw [← hw1]; have h := alloc_at (w.alloc (.cells #[.int .i64 (k : Nat), .slice aN N.length cN, .slice aF F.length cF] 30)) (.cells #[.int .i64 (k : Nat), .slice aN2 N2.length cN2, .slice aF2 F2.length cF2] 30); simpa using h)
  have HOK := Lib.hid (implAutOk_yes k N F aN aF cN cF w1 (hN.later HB1.out) h)
  have HOK2 : Hid (∀ W, Below w1.heap.size w1 W → Calls Tryz.prog 45 #[.agg #[.int .i64 (k : Nat), .slice aN2 N2.length cN2, .slice aF2 F2.length cF2]] W fun e w' => e = .returned (.bool true) ∧ Below W.heap.size W w') := Lib.hid (fun W hW => implAutOk_yes k N2 F2 aN2 aF2 cN2 cF2 W ((hN2.later HB1.out).later hW) h2)
  have HSM1 : Hid (∀ W, Below w1.heap.size w1 W → Calls Tryz.prog 53 #[.agg #[.int .i64 (k : Nat), .slice aN N.length cN, .slice aF F.length cF]] W (RetSma k N F W)) := Lib.hid (fun W hW => implSmallest_any k N F aN aF cN cF W ((hN.later HB1.out).later hW) ((hF.later HB1.out).later hW) h ((ht.later HB1.out).later hW))
  have HSM12 : Hid (∀ W, Below w1.heap.size w1 W → Calls Tryz.prog 53 #[.agg #[.int .i64 (k : Nat), .slice aN2 N2.length cN2, .slice aF2 F2.length cF2]] W (RetSma k N2 F2 W)) := Lib.hid (fun W hW => implSmallest_any k N2 F2 aN2 aF2 cN2 cF2 W ((hN2.later HB1.out).later hW) ((hF2.later HB1.out).later hW) h2 ((ht.later HB1.out).later hW))
  have hF80 := h.1.2.2
  have hF280 := h2.1.2.2
  have hk4 := h.1.1.2
  clear hN hF h ht hN2 hF2 h2
  obtain ⟨x0, x1, x2⟩ := aut_cells HX1.out
  have hkk : ((k : Int) != (k : Int)) = false := by simp
  go_enter Tryz.func16, Tryz.ntmps16
  go_upto_region 1 with fail
  generalize (w.alloc (.cells #[.int .i64 (k : Nat), .slice aN N.length cN, .slice aF F.length cF] 30)).alloc (.cells #[.int .i64 (k : Nat), .slice aN2 N2.length cN2, .slice aF2 F2.length cF2] 30) = wg at *
  subst hw1
  go_wp2_with fail
  refine HOK.out.mono ?_
  rintro e w2 ⟨rfl, hb2⟩
  have HB2 := Lib.hid hb2
  clear hb2 x0 x1 x2
  obtain ⟨y0, y1, y2⟩ := aut_cells (blk_later HY1.out HB2.out)
  go_wp2_with fail
  refine (HOK2.out _ HB2.out).mono ?_
  rintro e w3 ⟨rfl, hb3⟩
  have HB3 := Lib.hid (Below.now HB2.out hb3)
  clear hb3 y0 y1 y2
  have HX3 := Lib.hid (blk_later HX1.out HB3.out)
  have HY3 := Lib.hid (blk_later HY1.out HB3.out)
  have HSM := Lib.hid (fun W hW => HSM1.out W (Below.now HB3.out hW))
  have HSM2 := Lib.hid (fun W hW => HSM12.out W (Below.now HB3.out hW))
  obtain ⟨x0, -, -⟩ := aut_cells HX3.out
  obtain ⟨y0, -, -⟩ := aut_cells HY3.out
  go_upto_region 3 with fail
  clear x0 y0 hkk
  refine region_tailNe 6 4 5 (fun W => Below w3.heap.size w3 W) (fun W W2 => Below W.heap.size W W2) (fun u => by simp only [List.take_succ_cons, List.take_zero, fPut, Act.put, List.setIfInBounds_toArray, List.set_cons_succ, List.set_cons_zero, Nat.zero_add, Nat.reduceAdd]; rfl) (by kernel_rfl) (by kernel_rfl) (by kernel_rfl) (by kernel_rfl) (by kernel_rfl) (by kernel_rfl) (by kernel_rfl) (Below.drew (Below.refl _ _)) (fun W W2 h => h.size) (by decide) (by intro i o hi ho y; rcases hi with rfl | rfl <;> (obtain rfl := Option.some.inj ho; rfl)) (by intro i hi; rcases hi with rfl | rfl <;> exact ⟨_, _, rfl, rfl, by simp, by decide, fun ρ W nx w2 h => alloc_aut rfl h⟩) ?_
  conv => arg 7; simp only [List.take_succ_cons, List.take_zero]
  apply each_read (fun _ => Below.refl _ _) rfl
  · intro u wv hC hf
    obtain ⟨z0, z1, z2⟩ := aut_cells (blk_later HX3.out hC)
    obtain ⟨y0, y1, y2⟩ := aut_cells (blk_later HY3.out hC)
    clear hf
    go_simp
    try rfl
  refine each_call (fun v wv => ∃ (b : Option Addr) (nx : List Int) (cN : Nat) (d : Option Addr) (fin : List Bool) (cF : Nat), v = .agg #[.int .i64 (k : Nat), .slice b nx.length cN, .slice d fin.length cF] ∧ CanIs k (accA k N F 0) nx fin ∧ OwnA wv w3.heap.size b nx cN d fin cF ∧ (nx.length ≤ 1000 ∧ fin.length ≤ 1000)) (fun v w w2 _ hR ⟨b, nx, cN, d, fin, cF, h1, h2, h3, h4⟩ => ⟨b, nx, cN, d, fin, cF, h1, h2, h3.later hR, h4⟩) rfl ?_ ?_
  · intro u wv hC hf
    obtain ⟨z0, z1, z2⟩ := aut_cells (blk_later HX3.out hC)
    obtain ⟨y0, y1, y2⟩ := aut_cells (blk_later HY3.out hC)
    obtain ⟨d0_0, -⟩ := hf
    have e0 : u 0 = _ := d0_0 rfl
    clear d0_0
    apply Exists.intro; apply Exists.intro; apply And.intro
    · go_simp; exact ⟨rfl, rfl⟩
    · refine (HSM.out _ hC).mono ?_
      rintro e w9 ⟨b, nx, cN, d, fin, cF, rfl, hc, hle, ho, hb⟩
      exact ⟨_, rfl, Below.now hC hb, hb, b, nx, cN, d, fin, cF, rfl, hc, ho.mono hC.size, can_len hc hk4 (by omega), by omega⟩
  conv => arg 8; simp only [List.cons_append, List.nil_append]
  apply each_read (fun _ => Below.refl _ _) rfl
  · intro u wv hC hf
    obtain ⟨z0, z1, z2⟩ := aut_cells (blk_later HX3.out hC)
    obtain ⟨y0, y1, y2⟩ := aut_cells (blk_later HY3.out hC)
    clear hf
    go_simp
    try rfl
  conv => arg 8; simp only [List.cons_append, List.nil_append]
  refine each_call (fun v wv => ∃ (b : Option Addr) (nx : List Int) (cN : Nat) (d : Option Addr) (fin : List Bool) (cF : Nat), v = .agg #[.int .i64 (k : Nat), .slice b nx.length cN, .slice d fin.length cF] ∧ CanIs k (accA k N2 F2 0) nx fin ∧ OwnA wv w3.heap.size b nx cN d fin cF ∧ (nx.length ≤ 1000 ∧ fin.length ≤ 1000)) (fun v w w2 _ hR ⟨b, nx, cN, d, fin, cF, h1, h2, h3, h4⟩ => ⟨b, nx, cN, d, fin, cF, h1, h2, h3.later hR, h4⟩) rfl ?_ ?_
  · intro u wv hC hf
    obtain ⟨z0, z1, z2⟩ := aut_cells (blk_later HX3.out hC)
    obtain ⟨y0, y1, y2⟩ := aut_cells (blk_later HY3.out hC)
    obtain ⟨d2_0, d1_1, -⟩ := hf
    have e2 : u 2 = _ := d2_0 rfl
    clear d2_0
    obtain ⟨b1, nx1, cn1, d1, fin1, cf1, e1, q1, o1, s1⟩ := d1_1 rfl
    apply Exists.intro; apply Exists.intro; apply And.intro
    · go_simp; exact ⟨rfl, rfl⟩
    · refine (HSM2.out _ hC).mono ?_
      rintro e w9 ⟨b, nx, cN, d, fin, cF, rfl, hc, hle, ho, hb⟩
      exact ⟨_, rfl, Below.now hC hb, hb, b, nx, cN, d, fin, cF, rfl, hc, ho.mono hC.size, can_len hc hk4 (by omega), by omega⟩
  conv => arg 8; simp only [List.cons_append, List.nil_append]
  refine each_do (fun v wv => ∃ g, v = .pointer (some ⟨g, 0, none⟩) ∧ w3.heap.size ≤ g ∧ wv.heap[g]? = some (.cells #[.int .i64 0, .slice none 0 0, .slice none 0 0] 30 (0, 0))) (fun v w w2 _ hR ⟨g, h1, h2, h3⟩ => ⟨g, h1, h2, blk_later h3 hR⟩) rfl ?_ ?_
  · intro u wv hC hf
    obtain ⟨z0, z1, z2⟩ := aut_cells (blk_later HX3.out hC)
    obtain ⟨y0, y1, y2⟩ := aut_cells (blk_later HY3.out hC)
    clear hf
    refine ⟨.pointer (some ⟨wv.heap.size, 0, none⟩), wv.alloc (.cells #[.int .i64 0, .slice none 0 0, .slice none 0 0] 30), ?_, Below.alloc hC hC.size _, alloc_belowS _ _, wv.heap.size, rfl, hC.size, alloc_at _ _⟩
    go_simp
    try rfl
  conv => arg 8; simp only [List.cons_append, List.nil_append]
  refine each_do (fun v wv => ∃ g, v = .pointer (some ⟨g, 0, none⟩) ∧ w3.heap.size ≤ g ∧ wv.heap[g]? = some (.cells #[.int .i64 0, .slice none 0 0, .slice none 0 0] 30 (0, 0))) (fun v w w2 _ hR ⟨g, h1, h2, h3⟩ => ⟨g, h1, h2, blk_later h3 hR⟩) rfl ?_ ?_
  · intro u wv hC hf
    obtain ⟨z0, z1, z2⟩ := aut_cells (blk_later HX3.out hC)
    obtain ⟨y0, y1, y2⟩ := aut_cells (blk_later HY3.out hC)
    clear hf
    refine ⟨.pointer (some ⟨wv.heap.size, 0, none⟩), wv.alloc (.cells #[.int .i64 0, .slice none 0 0, .slice none 0 0] 30), ?_, Below.alloc hC hC.size _, alloc_belowS _ _, wv.heap.size, rfl, hC.size, alloc_at _ _⟩
    go_simp
    try rfl
  intro u w7 d7 hall
  obtain ⟨a0, a1, a2, a3, a4, a5, -⟩ := hall
  have e0 : u 0 = _ := a0
  clear a0
  obtain ⟨b1, nx1, cn1, d1, fin1, cf1, e1, q1, o1, s1⟩ := a1
  replace e1 : u 1 = _ := e1
  have e2 : u 2 = _ := a2
  clear a2
  obtain ⟨b3, nx3, cn3, d3, fin3, cf3, e3, q3, o3, s3⟩ := a3
  replace e3 : u 3 = _ := e3
  obtain ⟨g4, e4, l4, r4⟩ := a4
  replace e4 : u 4 = _ := e4
  obtain ⟨g5, e5, l5, r5⟩ := a5
  replace e5 : u 5 = _ := e5
  intro u' hu hne
  have hg4 : u 4 = u' 4 := Option.some.inj (congrArg (fun a : Act => a.tmps[5]?) hu)
  have hg5 : u 5 = u' 5 := Option.some.inj (congrArg (fun a : Act => a.tmps[6]?) hu)
  have hgg : g4 ≠ g5 := fun e => hne (by rw [← hg4, ← hg5, e4, e5, e])
  clear hne hg4 hg5 hu u'
  change wpList _ _ _ (List.drop 6 _) _ _
  simp only [List.drop_succ_cons, List.drop_zero]
  simp only [e0, e1, e2, e3, e4, e5]
  clear e0 e1 e2 e3 e4 e5
  obtain ⟨m0, m1, m2, mf0, mf1, mf2⟩ := aut_facts r4
  have r5b := (three_miss (W := w7) hgg (.int .i64 (k : Nat)) (.slice b1 nx1.length cn1) (.slice d1 fin1.length cf1)).trans r5
  obtain ⟨p0, p1, p2, pf0, pf1, pf2⟩ := aut_facts r5b
  have HA8 : Hid (((((((w7.setCell ⟨g4, 0, none⟩ (.int .i64 (k : Nat))).setCell ⟨g4, 1, none⟩ (.slice b1 nx1.length cn1)).setCell ⟨g4, 2, none⟩ (.slice d1 fin1.length cf1)).setCell ⟨g5, 0, none⟩ (.int .i64 (k : Nat))).setCell ⟨g5, 1, none⟩ (.slice b3 nx3.length cn3)).setCell ⟨g5, 2, none⟩ (.slice d3 fin3.length cf3)).heap[g4]? = some (.cells #[.int .i64 (k : Nat), .slice b1 nx1.length cn1, .slice d1 fin1.length cf1] 30 (0, 0))) := Lib.hid ((three_miss (fun e => hgg e.symm) _ _ _).trans (aut_three r4 _ _ _))
  have HC8 := Lib.hid (aut_three r5b (.int .i64 (k : Nat)) (.slice b3 nx3.length cn3) (.slice d3 fin3.length cf3))
  have HO1 := Lib.hid ((o1.setBox r4 (.int .i64 (k : Nat)) (.slice b1 nx1.length cn1) (.slice d1 fin1.length cf1)).setBox r5b (.int .i64 (k : Nat)) (.slice b3 nx3.length cn3) (.slice d3 fin3.length cf3))
  have HO3 := Lib.hid ((o3.setBox r4 (.int .i64 (k : Nat)) (.slice b1 nx1.length cn1) (.slice d1 fin1.length cf1)).setBox r5b (.int .i64 (k : Nat)) (.slice b3 nx3.length cn3) (.slice d3 fin3.length cf3))
  have HB8 := Lib.hid ((((((d7.setCell (p := ⟨g4, 0, none⟩) l4 (.int .i64 (k : Nat))).setCell (p := ⟨g4, 1, none⟩) l4 (.slice b1 nx1.length cn1)).setCell (p := ⟨g4, 2, none⟩) l4 (.slice d1 fin1.length cf1)).setCell (p := ⟨g5, 0, none⟩) l5 (.int .i64 (k : Nat))).setCell (p := ⟨g5, 1, none⟩) l5 (.slice b3 nx3.length cn3)).setCell (p := ⟨g5, 2, none⟩) l5 (.slice d3 fin3.length cf3))
  have HSA := Lib.hid (can_same q1 q3)
  have hnl : (nx1.length ≤ 1000 ∧ fin1.length ≤ 1000) ∧ nx3.length ≤ 1000 ∧ fin3.length ≤ 1000 := ⟨s1, s3⟩
  obtain ⟨⟨hl1, hl2⟩, hl3, hl4⟩ := hnl
  clear r4 r5 o1 o3 d7 l4 l5 q1 q3 r5b
  go_upto_region 4 with fail
  clear m0 m1 m2 mf0 mf1 mf2 p0 p1 p2 pf0 pf1 pf2
  generalize (((((w7.setCell ⟨g4, 0, none⟩ (.int .i64 (k : Nat))).setCell ⟨g4, 1, none⟩ (.slice b1 nx1.length cn1)).setCell ⟨g4, 2, none⟩ (.slice d1 fin1.length cf1)).setCell ⟨g5, 0, none⟩ (.int .i64 (k : Nat))).setCell ⟨g5, 1, none⟩ (.slice b3 nx3.length cn3)).setCell ⟨g5, 2, none⟩ (.slice d3 fin3.length cf3) = w8 at *
  have HEQ := Lib.hid (equalZ_any nx1 nx3 b1 b3 cn1 cn3 w8 HO1.out.ints HO3.out.ints (by omega) (by omega))
  have HEB : Hid (∀ W, Below w8.heap.size w8 W → Calls Tryz.prog 55 #[.slice d1 fin1.length cf1, .slice d3 fin3.length cf3] W (RetP (fin1 = fin3) W)) := Lib.hid (fun W hW => equalB_any fin1 fin3 d1 d3 cf1 cf3 W (HO1.out.bools.later hW) (HO3.out.bools.later hW) (by omega) (by omega))
  obtain ⟨u0, u1, u2⟩ := aut_cells HA8.out
  obtain ⟨v0, v1, v2⟩ := aut_cells HC8.out
  have HBA := Lib.hid (Below.now HB1.out (Below.now HB3.out HB8.out))
  go_wp2_with fail
  refine HEQ.out.mono ?_
  rintro e w9 ⟨bq, hbq, rfl, hb9⟩
  have HB9 := Lib.hid hb9
  clear hb9 u0 u1 u2 v0 v1 v2
  cases bq
  case true =>
    have he := hbq.1 rfl
    obtain ⟨-, -, u2⟩ := aut_cells (blk_later HA8.out HB9.out)
    obtain ⟨-, -, v2⟩ := aut_cells (blk_later HC8.out HB9.out)
    have HE := Lib.hid he
    clear he hbq
    go_wp2_with fail
    refine (HEB.out _ HB9.out).mono ?_
    rintro e w10 ⟨b, hb, rfl, hb10⟩
    have F : Hid (RetP (accA k N F 0 = accA k N2 F2 0) w (.returned (.bool b)) w10) := Lib.hid ⟨b, hb.trans ((⟨fun e => ⟨HE.out, e⟩, fun e => e.2⟩ : (fin1 = fin3) ↔ (nx1 = nx3 ∧ fin1 = fin3)).trans HSA.out), rfl, Below.now HBA.out (Below.now HB9.out hb10)⟩
    clear hb hb10
    go_wp2_with fail
    go_ret
    exact F.out
  case false =>
    have he : nx1 ≠ nx3 := fun e => by have := hbq.2 e; cases this
    have F : Hid (RetP (accA k N F 0 = accA k N2 F2 0) w (.returned (.bool false)) w9) := Lib.hid (RetP.no (fun e => he (HSA.out.2 e).1) (Below.now HBA.out HB9.out))
    clear he hbq
    go_wp2_with fail
    go_ret
    exact F.out
end Go.Proofs.YtoddpmdjjgnpgaaGreatDoor
