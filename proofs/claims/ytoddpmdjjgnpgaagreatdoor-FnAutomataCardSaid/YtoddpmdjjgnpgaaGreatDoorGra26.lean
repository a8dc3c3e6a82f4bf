/-
  The program's smallest automaton. Printed by smai.py.
-/
import Derived.Test.YtoddpmdjjgnpgaaGreatDoorGra20
import Derived.Test.YtoddpmdjjgnpgaaGreatDoorGra09
import Derived.Deep.QuietTactic
import Derived.BigQuiet
import Derived.Deep.Cut
namespace Go.Proofs.YtoddpmdjjgnpgaaGreatDoor
open Go.RowKit
set_option linter.unusedVariables false
theorem box1A {W : World} {b : Nat} {x : Value} {T : TypeId} (h : W.heap[b]? = some (.cells #[x] T (0, 0))) : W.cell? ⟨b, 0, none⟩ = some x ∧ W.frozen? ⟨b, 0, none⟩ = false := ⟨by simp [World.cell?, h], by simp [World.frozen?, h]⟩
set_option maxHeartbeats 2000000 in
theorem smaK (bc bt gC : Nat) (cl : List Int) (S : List Nat) (y n : Nat) (w1 : World) (h1 : w1.cell? ⟨bc, 0, none⟩ = some (.slice (some ⟨gC, 0, none⟩) n n)) (h2 : w1.cell? ⟨bt, 0, none⟩ = some (.int .i64 (y : Nat))) (hc : IntsIn w1 (some ⟨gC, 0, none⟩) cl)
    (hl : cl.length = n) (hS : ∀ s ∈ S, s < n) (hy : y < n) (hn : n ≤ 1000) :
    PredInts w1.heap.size 101 #[.pointer (some ⟨bc, 0, none⟩), .pointer (some ⟨bt, 0, none⟩)] (fun v => cl.getD v.toNat 0 == cl.getD y 0) (S.map Int.ofNat) w1 := by
  intro j hj W hW
  have hj' : j < S.length := by simpa using hj
  have hnn : nthZ (S.map Int.ofNat) j = ((S[j] : Nat) : Int) := by rw [nthZ_lt hj]; simp
  rw [hnn]
  have hfm : S[j] < n := hS _ (List.getElem_mem hj')
  simp only [Int.toNat_natCast]
  have g1 := (hW.cell (World.block_lt_of_cell? w1 _ h1)).trans h1
  have g2 := (hW.cell (World.block_lt_of_cell? w1 _ h2)).trans h2
  have g3 := intAt0 (hc.later hW) (j := S[j]) (by rw [hl]; exact hfm)
  have g4 := intAt0 (hc.later hW) (j := y) (by rw [hl]; exact hy)
  generalize S[j] = f at *
  have hfi : (f : Int) < (n : Int) := by omega
  have hyi : (y : Int) < (n : Int) := by omega
  generalize cl.getD f 0 = a at *
  generalize cl.getD y 0 = b at *
  clear h1 h2 hW hnn hc hS hj' hj
  go_enter Tryz.func101, Tryz.ntmps101
  go_upto_region 1 with fail
  refine region_each (fun W2 => Below W.heap.size W W2) (fun W1 W2 => Below W1.heap.size W1 W2) (fun u => by simp only [fPut, Act.put, List.setIfInBounds_toArray, List.set_cons_succ, List.set_cons_zero, Nat.zero_add, Nat.reduceAdd]; rfl) (by kernel_rfl) (by kernel_rfl) (by kernel_rfl) (Below.drew (Below.refl _ _)) ?_
  apply each_read (fun _ => Below.refl _ _) rfl
  · intro u wv hC hf
    have z1 := (hC.cell (World.block_lt_of_cell? _ _ g1)).trans g1
    have z2 := (hC.cell (World.block_lt_of_cell? _ _ g2)).trans g2
    have z3 := (hC.cell (World.block_lt_of_cell? _ _ g3)).trans g3
    have z4 := (hC.cell (World.block_lt_of_cell? _ _ g4)).trans g4
    clear hf
    go_simp
    try rfl
  apply each_read (fun _ => Below.refl _ _) rfl
  · intro u wv hC hf
    have z1 := (hC.cell (World.block_lt_of_cell? _ _ g1)).trans g1
    have z2 := (hC.cell (World.block_lt_of_cell? _ _ g2)).trans g2
    have z3 := (hC.cell (World.block_lt_of_cell? _ _ g3)).trans g3
    have z4 := (hC.cell (World.block_lt_of_cell? _ _ g4)).trans g4
    clear hf
    go_simp
    try rfl
  conv => arg 8; simp only [List.cons_append, List.nil_append]
  apply each_read (fun _ => Below.refl _ _) rfl
  · intro u wv hC hf
    have z1 := (hC.cell (World.block_lt_of_cell? _ _ g1)).trans g1
    have z2 := (hC.cell (World.block_lt_of_cell? _ _ g2)).trans g2
    have z3 := (hC.cell (World.block_lt_of_cell? _ _ g3)).trans g3
    have z4 := (hC.cell (World.block_lt_of_cell? _ _ g4)).trans g4
    obtain ⟨d0_0, d1_1, -⟩ := hf
    have e0 : u 0 = _ := d0_0 rfl
    clear d0_0
    have e1 : u 1 = _ := d1_1 rfl
    clear d1_1
    go_simp
    try rfl
  conv => arg 8; simp only [List.cons_append, List.nil_append]
  apply each_read (fun _ => Below.refl _ _) rfl
  · intro u wv hC hf
    have z1 := (hC.cell (World.block_lt_of_cell? _ _ g1)).trans g1
    have z2 := (hC.cell (World.block_lt_of_cell? _ _ g2)).trans g2
    have z3 := (hC.cell (World.block_lt_of_cell? _ _ g3)).trans g3
    have z4 := (hC.cell (World.block_lt_of_cell? _ _ g4)).trans g4
    obtain ⟨d2_0, -⟩ := hf
    have e2 : u 2 = _ := d2_0 rfl
    clear d2_0
    go_simp
    try rfl
  conv => arg 8; simp only [List.cons_append, List.nil_append]
  apply each_read (fun _ => Below.refl _ _) rfl
  · intro u wv hC hf
    have z1 := (hC.cell (World.block_lt_of_cell? _ _ g1)).trans g1
    have z2 := (hC.cell (World.block_lt_of_cell? _ _ g2)).trans g2
    have z3 := (hC.cell (World.block_lt_of_cell? _ _ g3)).trans g3
    have z4 := (hC.cell (World.block_lt_of_cell? _ _ g4)).trans g4
    clear hf
    go_simp
    try rfl
  conv => arg 8; simp only [List.cons_append, List.nil_append]
  apply each_read (fun _ => Below.refl _ _) rfl
  · intro u wv hC hf
    have z1 := (hC.cell (World.block_lt_of_cell? _ _ g1)).trans g1
    have z2 := (hC.cell (World.block_lt_of_cell? _ _ g2)).trans g2
    have z3 := (hC.cell (World.block_lt_of_cell? _ _ g3)).trans g3
    have z4 := (hC.cell (World.block_lt_of_cell? _ _ g4)).trans g4
    clear hf
    go_simp
    try rfl
  conv => arg 8; simp only [List.cons_append, List.nil_append]
  apply each_read (fun _ => Below.refl _ _) rfl
  · intro u wv hC hf
    have z1 := (hC.cell (World.block_lt_of_cell? _ _ g1)).trans g1
    have z2 := (hC.cell (World.block_lt_of_cell? _ _ g2)).trans g2
    have z3 := (hC.cell (World.block_lt_of_cell? _ _ g3)).trans g3
    have z4 := (hC.cell (World.block_lt_of_cell? _ _ g4)).trans g4
    obtain ⟨d4_0, d5_1, -⟩ := hf
    have e4 : u 4 = _ := d4_0 rfl
    clear d4_0
    have e5 : u 5 = _ := d5_1 rfl
    clear d5_1
    go_simp
    try rfl
  conv => arg 8; simp only [List.cons_append, List.nil_append]
  apply each_read (fun _ => Below.refl _ _) rfl
  · intro u wv hC hf
    have z1 := (hC.cell (World.block_lt_of_cell? _ _ g1)).trans g1
    have z2 := (hC.cell (World.block_lt_of_cell? _ _ g2)).trans g2
    have z3 := (hC.cell (World.block_lt_of_cell? _ _ g3)).trans g3
    have z4 := (hC.cell (World.block_lt_of_cell? _ _ g4)).trans g4
    obtain ⟨d6_0, -⟩ := hf
    have e6 : u 6 = _ := d6_0 rfl
    clear d6_0
    go_simp
    try rfl
  conv => arg 8; simp only [List.cons_append, List.nil_append]
  apply each_read (fun _ => Below.refl _ _) rfl
  · intro u wv hC hf
    have z1 := (hC.cell (World.block_lt_of_cell? _ _ g1)).trans g1
    have z2 := (hC.cell (World.block_lt_of_cell? _ _ g2)).trans g2
    have z3 := (hC.cell (World.block_lt_of_cell? _ _ g3)).trans g3
    have z4 := (hC.cell (World.block_lt_of_cell? _ _ g4)).trans g4
    obtain ⟨d3_0, d7_1, -⟩ := hf
    have e3 : u 3 = _ := d3_0 rfl
    clear d3_0
    have e7 : u 7 = _ := d7_1 rfl
    clear d7_1
    go_simp
    try rfl
  conv => arg 8; simp only [List.cons_append, List.nil_append]
  apply each_read (fun _ => Below.refl _ _) rfl
  · intro u wv hC hf
    have z1 := (hC.cell (World.block_lt_of_cell? _ _ g1)).trans g1
    have z2 := (hC.cell (World.block_lt_of_cell? _ _ g2)).trans g2
    have z3 := (hC.cell (World.block_lt_of_cell? _ _ g3)).trans g3
    have z4 := (hC.cell (World.block_lt_of_cell? _ _ g4)).trans g4
    obtain ⟨d8_0, d0_1, d1_2, d2_3, d3_4, d4_5, d5_6, d6_7, d7_8, d8_9, -⟩ := hf
    have e8 : u 8 = _ := d8_0 rfl
    clear d8_0
    have e0 : u 0 = _ := d0_1 rfl
    clear d0_1
    have e1 : u 1 = _ := d1_2 rfl
    clear d1_2
    have e2 : u 2 = _ := d2_3 rfl
    clear d2_3
    have e3 : u 3 = _ := d3_4 rfl
    clear d3_4
    have e4 : u 4 = _ := d4_5 rfl
    clear d4_5
    have e5 : u 5 = _ := d5_6 rfl
    clear d5_6
    have e6 : u 6 = _ := d6_7 rfl
    clear d6_7
    have e7 : u 7 = _ := d7_8 rfl
    clear d7_8
    clear d8_9
    go_simp
    try rfl
  intro u w7 d7 hall
  obtain ⟨a0, a1, a2, a3, a4, a5, a6, a7, a8, a9, -⟩ := hall
  have e0 : u 0 = _ := a0
  clear a0
  have e1 : u 1 = _ := a1
  clear a1
  have e2 : u 2 = _ := a2
  clear a2
  have e3 : u 3 = _ := a3
  clear a3
  have e4 : u 4 = _ := a4
  clear a4
  have e5 : u 5 = _ := a5
  clear a5
  have e6 : u 6 = _ := a6
  clear a6
  have e7 : u 7 = _ := a7
  clear a7
  have e8 : u 8 = _ := a8
  clear a8
  have e9 : u 9 = _ := a9
  clear a9
  simp only [e0, e1, e2, e3, e4, e5, e6, e7, e8, e9]
  clear e0 e1 e2 e3 e4 e5 e6 e7 e8 e9
  go_wp2_with fail
  go_ret
  exact ⟨rfl, d7⟩
def RetSma (k : Nat) (N : List Int) (F : List Bool) (w : World) (e : Ending) (w' : World) : Prop := ∃ (aN : Option Addr) (nx : List Int) (cN : Nat) (aF : Option Addr) (fin : List Bool) (cF : Nat),
  e = .returned (.agg #[.int .i64 (k : Nat), .slice aN nx.length cN, .slice aF fin.length cF]) ∧ CanIs k (accA k N F 0) nx fin ∧ fin.length ≤ F.length ∧ OwnA w' w.heap.size aN nx cN aF fin cF ∧ Below w.heap.size w w'
theorem lang_in {k : Nat} {N : List Int} {F : List Bool} : ∀ (w : List Nat) (s : Nat), accA k N F s w → ∀ y ∈ w, y < k
  | [], _, _, y, hy => by cases hy
  | x :: w, s, h, y, hy => by
    rw [accA] at h
    rcases List.mem_cons.1 hy with rfl | hy
    · exact h.1
    · exact lang_in w _ h.2.2 y hy
set_option maxRecDepth 20000 in
set_option maxHeartbeats 8000000 in
theorem implSmallest_any (k : Nat) (N : List Int) (F : List Bool) (aN aF : Option Addr) (cN cF : Nat) (w : World) (hN : IntsIn w aN N) (hF : BoolsIn w aF F) (h : AutP k N F) (ht : Tab10 w) :
    Calls Tryz.prog 53 #[.agg #[.int .i64 (k : Nat), .slice aN N.length cN, .slice aF F.length cF]] w (RetSma k N F w) := by
  obtain ⟨w1, hw1⟩ : ∃ w1, (w.alloc (.cells #[.int .i64 (k : Nat), .slice aN N.length cN, .slice aF F.length cF] 30)).alloc (.cells #[.int .i64 0, .slice none 0 0, .slice none 0 0] 30) = w1 := ⟨_, rfl⟩
  have HB1 : Hid (Below w.heap.size w w1) := Lib.hid (by rw [← hw1]; exact ((Below.refl _ _).alloc (Nat.le_refl _) _).alloc (by simp) _)
  have HX1 : Hid (w1.heap[w.heap.size]? = some (.cells #[.int .i64 (k : Nat), .slice aN N.length cN, .slice aF F.length cF] 30 (0, 0))) := Lib.hid (by
    rw [← hw1, (alloc_belowS _ _).block _ (by simp)]; exact alloc_at _ _)
  have HZ1 : Hid (w1.heap[w.heap.size + 1]? = some (.cells #[.int .i64 0, .slice none 0 0, .slice none 0 0] 30 (0, 0))) := Lib.hid (by
    rw [← hw1]; have h := alloc_at (w.alloc (.cells #[.int .i64 (k : Nat), .slice aN N.length cN, .slice aF F.length cF] 30)) (.cells #[.int .i64 0, .slice none 0 0, .slice none 0 0] 30); simpa using h)
  have HN1 := Lib.hid (hN.later HB1.out)
  have HF1 := Lib.hid (hF.later HB1.out)
  have HCC := Lib.hid (implClasses_any k N F aN aF cN cF w1 HN1.out HF1.out h (ht.later HB1.out))
  have HAP := Lib.hid h
  have hsm := h.small
  have hk4 := h.1.1.2
  have hn1 := h.1.2.1
  have hn80 := h.1.2.2
  have HNX := Lib.hid (fun W st x hW hst => autNext_any k N F.length aN aF cN cF st x W hW hk4 hst (by omega))
  have HIB : Hid (∀ b : Bool, ∀ u ∈ [Value.bool b], u.oneCell' = true) := Lib.hid (fun b u hu => by rw [List.mem_singleton.1 hu]; rfl)
  clear hN hF h ht
  obtain ⟨x0, x1, x2⟩ := aut_cells HX1.out
  go_enter Tryz.func53, Tryz.ntmps53
  go_upto_region 1 with fail
  generalize (w.alloc (.cells #[.int .i64 (k : Nat), .slice aN N.length cN, .slice aF F.length cF] 30)).alloc (.cells #[.int .i64 0, .slice none 0 0, .slice none 0 0] 30) = wg at *
  subst hw1
  go_wp2_with fail
  refine HCC.out.mono ?_
  rintro e w2 ⟨gC, cl, rfl, hcl, hcs, hci, hb2⟩
  have HCL := Lib.hid hcl
  have HCS := Lib.hid hcs
  have HB2 := Lib.hid hb2
  have HCI := Lib.hid hci
  clear hb2 hcl hcs hci x0 x1 x2 HCC
  go_upto_region 2 with fail
  have hb3 := alloc_belowS w2 (.cells #[.slice (some ⟨gC, 0, none⟩) F.length F.length] 27)
  have HB13 := Lib.hid (Below.now HB2.out hb3)
  have HB3 := Lib.hid (Below.now HB1.out HB13.out)
  have HX3 := Lib.hid (blk_later HX1.out HB13.out)
  have HZ3 := Lib.hid (blk_later HZ1.out HB13.out)
  have HN3 := Lib.hid (HN1.out.later HB13.out)
  have HF3 := Lib.hid (HF1.out.later HB13.out)
  have HC3 := Lib.hid (HCI.out.later hb3)
  have HK3 := Lib.hid (alloc_at w2 (.cells #[.slice (some ⟨gC, 0, none⟩) F.length F.length] 27))
  have hz3 := (Array.getElem?_eq_some_iff.1 HZ3.out).1
  generalize w2.alloc (.cells #[.slice (some ⟨gC, 0, none⟩) F.length F.length] 27) = w3 at *
  generalize w2.heap.size = bc at HK3 ⊢
  have HGZ : Hid (w.heap.size + 1 < w3.heap.size) := Lib.hid hz3
  clear hb3 HB2 HB13 HX1 HZ1 HN1 HF1 HCI hz3
  have HA0 : Hid (AutS w3 ((w3.alloc (.cells #[.int .i64 0] 3)).alloc (.cells #[.int .i64 (k : Nat), .slice none 0 0, .slice none 0 0] 30)) (w3.heap.size + 1) (k : Nat) (.slice none 0 0) (.slice none 0 0) [] [] 3 1 (.slice (some ⟨w3.heap.size, 0, none⟩) 1 1) [0].length (intVals ([0].map Int.ofNat))) := Lib.hid (AutS.start w3 #[.int .i64 0] 3 1 rfl _)
  have y0 := (aut_cells (blk_later HX3.out (alloc_belowS w3 (.cells #[.int .i64 0] 3)))).1
  obtain ⟨x0, -, -⟩ := aut_cells HX3.out
  go_upto_region 5 with fail
  clear x0 y0
  generalize (w3.alloc (.cells #[.int .i64 0] 3)).alloc (.cells #[.int .i64 (k : Nat), .slice none 0 0, .slice none 0 0] 30) = w4 at *
  go_wp2_with fail
  go_loopw [4, 6] (fun vs vi wr => ∃ (i : Nat) (S : List Nat) (v uF : Value) (nx : List Int) (fin : List Bool), vi = .int .i64 (i : Nat) ∧ i ≤ S.length ∧ Hid (SmaP k N F S nx fin i 0) ∧ Hid (AutS w3 wr (w3.heap.size + 1) (k : Nat) v uF nx fin 3 1 vs S.length (intVals (S.map Int.ofNat)))) (fun _ vi _ => F.length - (intOf vi).toNat)
  case atStart => exact ⟨0, [0], _, _, [], [], rfl, by simp, Lib.hid (SmaP.start hn1), HA0⟩
  case round =>
    clear HA0
    obtain ⟨i, S, v, uF, nx, fin, rfl, hiS, HP, HS⟩ := hrel
    obtain ⟨aS, cS, rfl⟩ := owns_form HS.out.st
    have hfew := HP.out.few
    by_cases hlt : i < S.length
    · have hii : (i : Int) < (S.length : Int) := by omega
      have x0 := (aut_cells (blk_later HX3.out HS.out.aut.bel)).1
      generalize hW : wr = wr0 at *
      clear hW
      go_wp2_with fail
      clear x0
      go_loopw [4, 24] (fun vs vx wr => ∃ (x : Nat) (S : List Nat) (v : Value) (nx : List Int), vx = .int .i64 (x : Nat) ∧ x ≤ k ∧ i < S.length ∧ Hid (SmaP k N F S nx fin i x) ∧ Hid (AutS w3 wr (w3.heap.size + 1) (k : Nat) v uF nx fin 3 1 vs S.length (intVals (S.map Int.ofNat)))) (fun _ vx _ => k - (intOf vx).toNat)
      case atStart => exact ⟨0, S, v, nx, rfl, Nat.zero_le _, hlt, HP, HS⟩
      case round =>
        clear HP HS hfew hii hlt hiS
        obtain ⟨x, S, v, nx, rfl, hx, hiS, HP, HS⟩ := hrel
        obtain ⟨aS, cS, rfl⟩ := owns_form HS.out.st
        obtain ⟨a5, c5, rfl⟩ := owns_form HS.out.aut.nx
        have hfew := HP.out.few
        have hii : (i : Int) < (S.length : Int) := by omega
        have HBW := Lib.hid HS.out.aut.bel
        have HSL : Hid ((S.map Int.ofNat).length = S.length) := Lib.hid (by simp)
        obtain ⟨bS, oS, rfl, hbS, hcS⟩ := (owns_ints (l := S.map Int.ofNat) HS.out.st).cell (i := i) (by rw [HSL.out]; exact hiS)
        have cS0 := hcS i (by rw [HSL.out]; exact hiS)
        have hnn : nthZ (S.map Int.ofNat) i = ((S.getD i 0 : Nat) : Int) := by rw [nthZ_lt (by rw [HSL.out]; exact hiS)]; simp [List.getD_eq_getElem?_getD, hiS]
        rw [hnn] at cS0
        have hsn := (HP.out.getD hiS).2
        have hnl : nx.length ≤ 400 ∧ fin.length ≤ 80 := by
          have h1 := HP.out.can.ok.nlen
          have h2 := HP.out.can.ok.flen
          have h3 : i * k ≤ 80 * 4 := Nat.mul_le_mul (by omega) hk4
          omega
        obtain ⟨hnl1, hnl2⟩ := hnl
        have HSG : Hid (S.getD i 0 = S.getD i 0) := Lib.hid rfl
        clear hcS hnn
        by_cases hlx : x < k
        · have hxi : (x : Int) < (k : Int) := by omega
          have HPD := Lib.hid (HP.out.dead hiS hlx)
          have HPG := Lib.hid (fun y hy hl hyn p hp => HP.out.pick (y := y) (p := p) hiS hlx hy hl hyn hp)
          have HNQ := Lib.hid (fun W hW => HNX.out W (S.getD i 0) x hW (HAP.out.slot hsn hlx))
          have hnx := HAP.out.next hsn hlx
          generalize S.getD i 0 = s at *
          generalize nxI k N s x = y at *
          go_upto_region 10 with fail
          refine region_tail 8 (fun W => Below wr.heap.size wr W) (fun W W2 => Below W.heap.size W W2) (fun u => by simp only [List.take_succ_cons, List.take_zero, fPut, Act.put, List.setIfInBounds_toArray, List.set_cons_succ, List.set_cons_zero, Nat.zero_add, Nat.reduceAdd]; rfl) (by kernel_rfl) (by kernel_rfl) (by kernel_rfl) (by kernel_rfl) (by kernel_rfl) (by kernel_rfl) (by kernel_rfl) (Below.drew (Below.refl _ _)) ?_
          conv => arg 7; simp only [List.take_succ_cons, List.take_zero]
          apply each_read (fun _ => Below.refl _ _) rfl
          · intro u wv hC hf
            obtain ⟨z0, z1, z2⟩ := aut_cells (blk_later HX3.out (Below.now HBW.out hC))
            have zs := (hC.cell hbS).trans cS0
            clear hf
            go_simp
            try rfl
          apply each_read (fun _ => Below.refl _ _) rfl
          · intro u wv hC hf
            obtain ⟨z0, z1, z2⟩ := aut_cells (blk_later HX3.out (Below.now HBW.out hC))
            have zs := (hC.cell hbS).trans cS0
            clear hf
            go_simp
            try rfl
          conv => arg 8; simp only [List.cons_append, List.nil_append]
          apply each_read (fun _ => Below.refl _ _) rfl
          · intro u wv hC hf
            obtain ⟨z0, z1, z2⟩ := aut_cells (blk_later HX3.out (Below.now HBW.out hC))
            have zs := (hC.cell hbS).trans cS0
            clear hf
            go_simp
            try rfl
          conv => arg 8; simp only [List.cons_append, List.nil_append]
          apply each_read (fun _ => Below.refl _ _) rfl
          · intro u wv hC hf
            obtain ⟨z0, z1, z2⟩ := aut_cells (blk_later HX3.out (Below.now HBW.out hC))
            have zs := (hC.cell hbS).trans cS0
            obtain ⟨d1_0, d2_1, -⟩ := hf
            have e1 : u 1 = _ := d1_0 rfl
            clear d1_0
            have e2 : u 2 = _ := d2_1 rfl
            clear d2_1
            go_simp
            try rfl
          conv => arg 8; simp only [List.cons_append, List.nil_append]
          apply each_read (fun _ => Below.refl _ _) rfl
          · intro u wv hC hf
            obtain ⟨z0, z1, z2⟩ := aut_cells (blk_later HX3.out (Below.now HBW.out hC))
            have zs := (hC.cell hbS).trans cS0
            obtain ⟨d3_0, -⟩ := hf
            have e3 : u 3 = _ := d3_0 rfl
            clear d3_0
            go_simp
            try rfl
          conv => arg 8; simp only [List.cons_append, List.nil_append]
          apply each_read (fun _ => Below.refl _ _) rfl
          · intro u wv hC hf
            obtain ⟨z0, z1, z2⟩ := aut_cells (blk_later HX3.out (Below.now HBW.out hC))
            have zs := (hC.cell hbS).trans cS0
            clear hf
            go_simp
            try rfl
          conv => arg 8; simp only [List.cons_append, List.nil_append]
          apply each_callR rfl
          · intro u wv hC hf
            obtain ⟨z0, z1, z2⟩ := aut_cells (blk_later HX3.out (Below.now HBW.out hC))
            have zs := (hC.cell hbS).trans cS0
            obtain ⟨d0_0, d4_1, d5_2, -⟩ := hf
            have e0 : u 0 = _ := d0_0 rfl
            clear d0_0
            have e4 : u 4 = _ := d4_1 rfl
            clear d4_1
            have e5 : u 5 = _ := d5_2 rfl
            clear d5_2
            apply Exists.intro; apply Exists.intro; apply And.intro
            · go_simp; exact ⟨rfl, rfl⟩
            · refine (HNQ.out _ ((HN3.out.later HBW.out).later hC)).mono ?_
              rintro e w9 ⟨rfl, hb9⟩
              exact ⟨rfl, Below.now hC hb9, hb9⟩
          conv => arg 8; simp only [List.cons_append, List.nil_append]
          refine each_do (fun v wv => ∃ gt, v = .pointer (some ⟨gt, 0, none⟩) ∧ wr.heap.size ≤ gt ∧ wv.heap[gt]? = some (.cells #[.int .i64 0] 3 (0, 0))) (fun v w w2 _ hR ⟨gt, e, h1, h2⟩ => ⟨gt, e, h1, blk_later h2 hR⟩) rfl ?_ ?_
          · intro u wv hC hf
            obtain ⟨z0, z1, z2⟩ := aut_cells (blk_later HX3.out (Below.now HBW.out hC))
            have zs := (hC.cell hbS).trans cS0
            clear hf
            refine ⟨.pointer (some ⟨wv.heap.size, 0, none⟩), wv.alloc (.cells #[.int .i64 0] 3), ?_, Below.alloc hC hC.size _, alloc_belowS _ _, wv.heap.size, rfl, hC.size, alloc_at _ _⟩
            go_simp
            try rfl
          intro u w7 d7 hall
          obtain ⟨a0, a1, a2, a3, a4, a5, a6, a7, -⟩ := hall
          have e0 : u 0 = _ := a0
          clear a0
          have e1 : u 1 = _ := a1
          clear a1
          have e2 : u 2 = _ := a2
          clear a2
          have e3 : u 3 = _ := a3
          clear a3
          have e4 : u 4 = _ := a4
          clear a4
          have e5 : u 5 = _ := a5
          clear a5
          have e6 : u 6 = _ := a6
          clear a6
          obtain ⟨gt, e7, l7, r7⟩ := a7
          replace e7 : u 7 = _ := e7
          change wpList _ _ _ (List.drop 8 _) _ _
          simp only [List.drop_succ_cons, List.drop_zero]
          simp only [e0, e1, e2, e3, e4, e5, e6, e7]
          clear e0 e1 e2 e3 e4 e5 e6 e7
          have HB8 := Lib.hid (Below.setCell (p := ⟨gt, 0, none⟩) d7 l7 (.int .i64 y))
          have HT8 : Hid ((w7.setCell ⟨gt, 0, none⟩ (.int .i64 y)).heap[gt]? = some (.cells #[.int .i64 y] 3 (0, 0))) := Lib.hid ((set_hitA r7 (.int .i64 y)).trans rfl)
          obtain ⟨t0, t1⟩ := box1A r7
          clear r7 d7 l7
          go_upto_region 11 with fail
          clear t0 t1
          generalize w7.setCell ⟨gt, 0, none⟩ (.int .i64 y) = w8 at *
          have HS8 := Lib.hid (HS.out.later HB8.out)
          have HBW8 := Lib.hid (Below.now HBW.out HB8.out)
          obtain ⟨c8, -⟩ := box1A HT8.out
          obtain ⟨cb, -⟩ := box1A (blk_later HK3.out HBW8.out)
          go_cut [42] (fun v wx => ∃ b : Bool, v = .bool b ∧ (b = true ↔ ¬ (0 ≤ y ∧ LiveA k N F y.toNat)) ∧ wx = w8)
          case first =>
            by_cases h0 : 0 ≤ y
            · obtain ⟨q, rfl⟩ : ∃ q : Nat, y = (q : Int) := ⟨y.toNat, by omega⟩
              have hq : q < F.length := by omega
              have hqi : (q : Int) < (F.length : Int) := by omega
              have hq0 : ¬ (q : Int) < 0 := by omega
              have c9 := intAt0 (HC3.out.later HBW8.out) (j := q) (by rw [HCL.out]; exact hq)
              have HNG := Lib.hid (HCS.out.neg hq)
              by_cases h1 : cl.getD q 0 < 0
              · have HFN : Hid (true = true ↔ ¬ (0 ≤ (q : Int) ∧ LiveA k N F (q : Int).toNat)) := Lib.hid ⟨fun _ hh => HNG.out.1 h1 (by simpa using hh.2), fun _ => rfl⟩
                clear HNG h0
                generalize cl.getD q 0 = cq at *
                go_wp2_with fail
                go_meet
                exact ⟨true, rfl, ⟨fun _ => HFN.out.1 (by trivial), fun _ => rfl⟩, rfl⟩
              · have HFN : Hid (false = true ↔ ¬ (0 ≤ (q : Int) ∧ LiveA k N F (q : Int).toNat)) := Lib.hid ⟨fun hh => (by cases hh), fun hh => absurd ⟨h0, Classical.byContradiction fun hl => h1 (HNG.out.2 (by simpa using hl))⟩ hh⟩
                clear HNG h0
                generalize cl.getD q 0 = cq at *
                go_wp2_with fail
                go_meet
                exact ⟨false, rfl, HFN.out, rfl⟩
            · have hy0 : y < 0 := by omega
              have HFN : Hid (true = true ↔ ¬ (0 ≤ y ∧ LiveA k N F y.toNat)) := Lib.hid ⟨fun _ hh => h0 hh.1, fun _ => rfl⟩
              clear h0
              go_wp2_with fail
              go_meet
              exact ⟨true, rfl, ⟨fun _ => HFN.out.1 (by trivial), fun _ => rfl⟩, rfl⟩
          case rest =>
            obtain ⟨b, rfl, hbd, rfl⟩ := hcut
            have HBD := Lib.hid hbd
            clear hbd cb
            have HA := Lib.hid HS8.out.aut
            have HNXT := Lib.hid HS8.out.aut.nx
            cases b
            · have hL : 0 ≤ y ∧ LiveA k N F y.toNat := Classical.byContradiction fun hc => by have := HBD.out.2 hc; cases this
              obtain ⟨q, rfl⟩ : ∃ q : Nat, y = (q : Int) := ⟨y.toNat, by omega⟩
              rw [Int.toNat_natCast] at hL
              have hq : q < F.length := by omega
              have hpk := smaK bc gt gC cl S q F.length wc (box1A (blk_later HK3.out HBW8.out)).1 (box1A HT8.out).1 (HC3.out.later HBW8.out) HCL.out HP.out.small hq (by omega)
              have hC := indexFuncInts_any 101 #[.pointer (some ⟨bc, 0, none⟩), .pointer (some ⟨gt, 0, none⟩)] (fun v => cl.getD v.toNat 0 == cl.getD q 0) (S.map Int.ofNat) (some ⟨bS, oS, none⟩) cS wc (owns_ints (l := S.map Int.ofNat) HS8.out.st) (by rw [HSL.out]; omega) _ (Nat.le_refl _) hpk (enters_of Tryz.func101 (by kernel_rfl) rfl)
              rw [HSL.out] at hC
              have HC := Lib.hid hC
              have HIX := Lib.hid (HPG.out q rfl hL.2 hq (fun v => cl.getD v.toNat 0 == cl.getD q 0) (fun s hs => by
                rw [beq_iff_eq, Int.toNat_natCast]
                exact HCS.out.lang (HP.out.small s hs) hq hL.2))
              clear hpk hC hL HBD HPD HPG
              generalize idxZ (fun v => cl.getD v.toNat 0 == cl.getD q 0) (S.map Int.ofNat) = ix at *
              go_wp2_with fail
              refine HC.out.mono ?_
              rintro e w10 ⟨rfl, hb10⟩
              have HS10 := Lib.hid (HS8.out.later hb10)
              obtain ⟨t8, -⟩ := box1A (blk_later HT8.out hb10)
              clear hb10 c8 HA HNXT HC
              rcases HIX.out with ⟨j, hix, hpn⟩ | ⟨hix, hpn⟩
              · have HPN := Lib.hid hpn
                clear hpn HIX
                subst hix
                have hj0 : ¬ (j : Int) < 0 := by omega
                have HA := Lib.hid HS10.out.aut
                have HNXT := Lib.hid HS10.out.aut.nx
                go_upto_region 17 with fail
                have HN1 : Hid ([Value.int .i64 (j : Int)].length = 1) := Lib.hid rfl
                have HN2 : Hid (∀ v ∈ [Value.int .i64 (j : Int)], v.oneCell' = true) := Lib.hid (fun v hv => by simp at hv; rcases hv with rfl; rfl)
                obtain ⟨z0, z1, z2⟩ := HA.out.cells
                have zf := HA.out.frz 1
                go_wp2_with (at_builtin; refine wpList_appH (n := nx.length) (wr := w10) (news := [Value.int .i64 (j : Int)]) rfl (.tmp 60) (.tmp 62) rfl Tryz.underlying27 Tryz.infoInt rfl (by decide) rfl HNXT.out HA.out.lt rfl HN1.out HN2.out (by unfold maxLen; omega) (by omega) ?_; intro g4 c4 w5 ho4 hg4 hr4; obtain ⟨q0, q1, q2, qf0, qf1, qf2⟩ := aut_facts ((HA.out.later (alloc_belowS w10 _)).grownN hg4))
                have HQ := Lib.hid ((HS10.out.later (alloc_belowS w10 _)).putN (x := (j : Int)) hg4 ho4 hr4)
                clear ho4 hg4 hr4 z0 z1 z2 zf
                go_wp2_with fail
                go_roundw
                case rel => exact ⟨x + 1, S, _, _, by go_num, by omega, hiS, HPN, HQ⟩
                case measure => simp [intOf]; omega
              · have HPN := Lib.hid hpn
                clear hpn HIX
                subst hix
                go_upto_region 16 with fail
                have HM1 : Hid ([Value.int .i64 (q : Int)].length = 1) := Lib.hid rfl
                have HM2 : Hid (∀ v ∈ [Value.int .i64 (q : Int)], v.oneCell' = true) := Lib.hid (fun v hv => by simp at hv; rcases hv with rfl; rfl)
                have HST := Lib.hid HS10.out.st
                have HSZ3 : Hid (w3.heap.size ≤ w10.heap.size) := Lib.hid HS10.out.aut.bel.size
                go_upto_region 17 with (at_builtin; refine wpList_appH (n := S.length) (wr := w10) (news := [Value.int .i64 (q : Int)]) rfl (.tmp 55) (.tmp 57) rfl Tryz.underlying27 Tryz.infoInt rfl (by decide) rfl HST.out HSZ3.out rfl HM1.out HM2.out (by unfold maxLen; omega) (by omega) ?_; intro g6 c6 w11 ho6 hg6 hr6)
                have HSA : Hid (intVals ((S ++ [q]).map Int.ofNat) = intVals (S.map Int.ofNat) ++ [Value.int .i64 (q : Int)]) := Lib.hid (by simp [intVals])
                have HSN : Hid ((S ++ [q]).length = S.length + 1) := Lib.hid (by simp)
                have HS11 : Hid (AutS w3 w11 (w3.heap.size + 1) (k : Nat) (.slice a5 nx.length c5) uF nx fin 3 1 (.slice (some ⟨g6, 0, none⟩) (S ++ [q]).length c6) (S ++ [q]).length (intVals ((S ++ [q]).map Int.ofNat))) := Lib.hid (by
                  rw [HSA.out, HSN.out]
                  exact (HS10.out.later (alloc_belowS w10 _)).putS hg6 ho6 hr6)
                clear ho6 hg6 hr6 HS10 t8
                rw [← HSN.out]
                have hiS2 : i < (S ++ [q]).length := by rw [HSN.out]; omega
                have HA := Lib.hid HS11.out.aut
                have HNXT := Lib.hid HS11.out.aut.nx
                have HN1 : Hid ([Value.int .i64 (S.length : Int)].length = 1) := Lib.hid rfl
                have HN2 : Hid (∀ v ∈ [Value.int .i64 (S.length : Int)], v.oneCell' = true) := Lib.hid (fun v hv => by simp at hv; rcases hv with rfl; rfl)
                obtain ⟨z0, z1, z2⟩ := HA.out.cells
                have zf := HA.out.frz 1
                go_wp2_with (at_builtin; refine wpList_appH (n := nx.length) (wr := w11) (news := [Value.int .i64 (S.length : Int)]) rfl (.tmp 60) (.tmp 62) rfl Tryz.underlying27 Tryz.infoInt rfl (by decide) rfl HNXT.out HA.out.lt rfl HN1.out HN2.out (by unfold maxLen; omega) (by omega) ?_; intro g4 c4 w5 ho4 hg4 hr4; obtain ⟨q0, q1, q2, qf0, qf1, qf2⟩ := aut_facts ((HA.out.later (alloc_belowS w11 _)).grownN hg4))
                have HQ := Lib.hid ((HS11.out.later (alloc_belowS w11 _)).putN (x := (S.length : Int)) hg4 ho4 hr4)
                clear ho4 hg4 hr4 z0 z1 z2 zf
                go_wp2_with fail
                go_roundw
                case rel => exact ⟨x + 1, S ++ [q], .slice (some ⟨g4, 0, none⟩) (nx.length + 1) c4, _, by go_num, by omega, hiS2, HPN, by rw [HSN.out] at HQ ⊢; exact HQ⟩
                case measure => simp [intOf]; omega
            · have HPN := Lib.hid (HPD.out (HBD.out.1 rfl))
              clear HPD HPG HBD c8
              go_upto_region 12 with fail
              have HN1 : Hid ([Value.int .i64 (-1)].length = 1) := Lib.hid rfl
              have HN2 : Hid (∀ v ∈ [Value.int .i64 (-1)], v.oneCell' = true) := Lib.hid (fun v hv => by simp at hv; rcases hv with rfl; rfl)
              obtain ⟨z0, z1, z2⟩ := HA.out.cells
              have zf := HA.out.frz 1
              go_wp2_with (at_builtin; refine wpList_appH (n := nx.length) (wr := wc) (news := [Value.int .i64 (-1)]) rfl (.tmp 44) (.tmp 45) rfl Tryz.underlying27 Tryz.infoInt rfl (by decide) rfl HNXT.out HA.out.lt rfl HN1.out HN2.out (by unfold maxLen; omega) (by omega) ?_; intro g4 c4 w5 ho4 hg4 hr4; obtain ⟨q0, q1, q2, qf0, qf1, qf2⟩ := aut_facts ((HA.out.later (alloc_belowS wc _)).grownN hg4))
              have HQ := Lib.hid ((HS8.out.later (alloc_belowS wc _)).putN (x := -1) hg4 ho4 hr4)
              clear ho4 hg4 hr4 z0 z1 z2 zf
              go_wp2_with fail
              go_roundw
              case rel => exact ⟨x + 1, S, _, _, by go_num, by omega, hiS, HPN, HQ⟩
              case measure => simp [intOf]; omega
        · have hxi : ¬ (x : Int) < (k : Int) := by omega
          obtain rfl : x = k := by omega
          have HPR := Lib.hid (HP.out.row hiS)
          obtain ⟨bF, oF, rfl, hbF, hcF⟩ := (HF3.out.later HBW.out).cell hsn
          have cF0 := hcF _ hsn
          obtain ⟨a6, c6, rfl⟩ := owns_form HS.out.aut.fn
          have hsi : ((S.getD i 0 : Nat) : Int) < (F.length : Int) := by omega
          generalize S.getD i 0 = s at *
          generalize F.getD s false = fb at *
          clear hcF
          go_upto_region 19 with fail
          refine region_tail 11 (fun W => Below wr.heap.size wr W) (fun W W2 => Below W.heap.size W W2) (fun u => by simp only [List.take_succ_cons, List.take_zero, fPut, Act.put, List.setIfInBounds_toArray, List.set_cons_succ, List.set_cons_zero, Nat.zero_add, Nat.reduceAdd]; rfl) (by kernel_rfl) (by kernel_rfl) (by kernel_rfl) (by kernel_rfl) (by kernel_rfl) (by kernel_rfl) (by kernel_rfl) (Below.drew (Below.refl _ _)) ?_
          conv => arg 7; simp only [List.take_succ_cons, List.take_zero]
          apply each_read (fun _ => Below.refl _ _) rfl
          · intro u wv hC hf
            obtain ⟨z0, z1, z2⟩ := aut_cells (blk_later HX3.out (Below.now HBW.out hC))
            obtain ⟨y0, y1, y2⟩ := (HS.out.aut.later hC).cells
            have zs := (hC.cell hbS).trans cS0
            have zf := (hC.cell hbF).trans cF0
            clear hf
            go_simp
            try rfl
          apply each_read (fun _ => Below.refl _ _) rfl
          · intro u wv hC hf
            obtain ⟨z0, z1, z2⟩ := aut_cells (blk_later HX3.out (Below.now HBW.out hC))
            obtain ⟨y0, y1, y2⟩ := (HS.out.aut.later hC).cells
            have zs := (hC.cell hbS).trans cS0
            have zf := (hC.cell hbF).trans cF0
            obtain ⟨d0_0, -⟩ := hf
            have e0 : u 0 = _ := d0_0 rfl
            clear d0_0
            go_simp
            try rfl
          conv => arg 8; simp only [List.cons_append, List.nil_append]
          apply each_read (fun _ => Below.refl _ _) rfl
          · intro u wv hC hf
            obtain ⟨z0, z1, z2⟩ := aut_cells (blk_later HX3.out (Below.now HBW.out hC))
            obtain ⟨y0, y1, y2⟩ := (HS.out.aut.later hC).cells
            have zs := (hC.cell hbS).trans cS0
            have zf := (hC.cell hbF).trans cF0
            clear hf
            go_simp
            try rfl
          conv => arg 8; simp only [List.cons_append, List.nil_append]
          apply each_read (fun _ => Below.refl _ _) rfl
          · intro u wv hC hf
            obtain ⟨z0, z1, z2⟩ := aut_cells (blk_later HX3.out (Below.now HBW.out hC))
            obtain ⟨y0, y1, y2⟩ := (HS.out.aut.later hC).cells
            have zs := (hC.cell hbS).trans cS0
            have zf := (hC.cell hbF).trans cF0
            obtain ⟨d2_0, -⟩ := hf
            have e2 : u 2 = _ := d2_0 rfl
            clear d2_0
            go_simp
            try rfl
          conv => arg 8; simp only [List.cons_append, List.nil_append]
          apply each_read (fun _ => Below.refl _ _) rfl
          · intro u wv hC hf
            obtain ⟨z0, z1, z2⟩ := aut_cells (blk_later HX3.out (Below.now HBW.out hC))
            obtain ⟨y0, y1, y2⟩ := (HS.out.aut.later hC).cells
            have zs := (hC.cell hbS).trans cS0
            have zf := (hC.cell hbF).trans cF0
            clear hf
            go_simp
            try rfl
          conv => arg 8; simp only [List.cons_append, List.nil_append]
          apply each_read (fun _ => Below.refl _ _) rfl
          · intro u wv hC hf
            obtain ⟨z0, z1, z2⟩ := aut_cells (blk_later HX3.out (Below.now HBW.out hC))
            obtain ⟨y0, y1, y2⟩ := (HS.out.aut.later hC).cells
            have zs := (hC.cell hbS).trans cS0
            have zf := (hC.cell hbF).trans cF0
            clear hf
            go_simp
            try rfl
          conv => arg 8; simp only [List.cons_append, List.nil_append]
          apply each_read (fun _ => Below.refl _ _) rfl
          · intro u wv hC hf
            obtain ⟨z0, z1, z2⟩ := aut_cells (blk_later HX3.out (Below.now HBW.out hC))
            obtain ⟨y0, y1, y2⟩ := (HS.out.aut.later hC).cells
            have zs := (hC.cell hbS).trans cS0
            have zf := (hC.cell hbF).trans cF0
            obtain ⟨d4_0, d5_1, -⟩ := hf
            have e4 : u 4 = _ := d4_0 rfl
            clear d4_0
            have e5 : u 5 = _ := d5_1 rfl
            clear d5_1
            go_simp
            try rfl
          conv => arg 8; simp only [List.cons_append, List.nil_append]
          apply each_read (fun _ => Below.refl _ _) rfl
          · intro u wv hC hf
            obtain ⟨z0, z1, z2⟩ := aut_cells (blk_later HX3.out (Below.now HBW.out hC))
            obtain ⟨y0, y1, y2⟩ := (HS.out.aut.later hC).cells
            have zs := (hC.cell hbS).trans cS0
            have zf := (hC.cell hbF).trans cF0
            obtain ⟨d6_0, -⟩ := hf
            have e6 : u 6 = _ := d6_0 rfl
            clear d6_0
            go_simp
            try rfl
          conv => arg 8; simp only [List.cons_append, List.nil_append]
          apply each_read (fun _ => Below.refl _ _) rfl
          · intro u wv hC hf
            obtain ⟨z0, z1, z2⟩ := aut_cells (blk_later HX3.out (Below.now HBW.out hC))
            obtain ⟨y0, y1, y2⟩ := (HS.out.aut.later hC).cells
            have zs := (hC.cell hbS).trans cS0
            have zf := (hC.cell hbF).trans cF0
            obtain ⟨d3_0, d7_1, -⟩ := hf
            have e3 : u 3 = _ := d3_0 rfl
            clear d3_0
            have e7 : u 7 = _ := d7_1 rfl
            clear d7_1
            go_simp
            try rfl
          conv => arg 8; simp only [List.cons_append, List.nil_append]
          apply each_read (fun _ => Below.refl _ _) rfl
          · intro u wv hC hf
            obtain ⟨z0, z1, z2⟩ := aut_cells (blk_later HX3.out (Below.now HBW.out hC))
            obtain ⟨y0, y1, y2⟩ := (HS.out.aut.later hC).cells
            have zs := (hC.cell hbS).trans cS0
            have zf := (hC.cell hbF).trans cF0
            obtain ⟨d8_0, -⟩ := hf
            have e8 : u 8 = _ := d8_0 rfl
            clear d8_0
            go_simp
            try rfl
          conv => arg 8; simp only [List.cons_append, List.nil_append]
          refine each_do (fun v wv => ∃ gm, v = .slice (some ⟨gm, 0, none⟩) 1 1 ∧ wv.cell? ⟨gm, 0, none⟩ = some (.bool fb)) (fun v w w2 _ hR ⟨gm, e, hc⟩ => ⟨gm, e, (hR.cell (World.block_lt_of_cell? _ _ hc)).trans hc⟩) rfl ?_ ?_
          · intro u wv hC hf
            obtain ⟨z0, z1, z2⟩ := aut_cells (blk_later HX3.out (Below.now HBW.out hC))
            obtain ⟨y0, y1, y2⟩ := (HS.out.aut.later hC).cells
            have zs := (hC.cell hbS).trans cS0
            have zf := (hC.cell hbF).trans cF0
            obtain ⟨d9_0, -⟩ := hf
            have e9 : u 9 = _ := d9_0 rfl
            clear d9_0
            refine ⟨.slice (some ⟨wv.heap.size, 0, none⟩) 1 1, wv.alloc (.cells #[.bool fb] 4), ?_, Below.alloc hC hC.size _, alloc_belowS _ _, wv.heap.size, rfl, by (rw [World.cell?_alloc_new]; rfl)⟩
            go_simp
            try rfl
          intro u w7 d7 hall
          obtain ⟨a0, a1, a2, a3, a4, a5, a6, a7, a8, a9, a10, -⟩ := hall
          have e0 : u 0 = _ := a0
          clear a0
          have e1 : u 1 = _ := a1
          clear a1
          have e2 : u 2 = _ := a2
          clear a2
          have e3 : u 3 = _ := a3
          clear a3
          have e4 : u 4 = _ := a4
          clear a4
          have e5 : u 5 = _ := a5
          clear a5
          have e6 : u 6 = _ := a6
          clear a6
          have e7 : u 7 = _ := a7
          clear a7
          have e8 : u 8 = _ := a8
          clear a8
          have e9 : u 9 = _ := a9
          clear a9
          obtain ⟨gm, e10, r10⟩ := a10
          replace e10 : u 10 = _ := e10
          change wpList _ _ _ (List.drop 11 _) _ _
          simp only [List.drop_succ_cons, List.drop_zero]
          simp only [e0, e1, e2, e3, e4, e5, e6, e7, e8, e9, e10]
          clear e0 e1 e2 e3 e4 e5 e6 e7 e8 e9 e10
          have HS7 := Lib.hid (HS.out.later d7)
          have HNF := Lib.hid HS7.out.aut.fn
          have HLE : Hid (w3.heap.size + 1 + 1 ≤ w7.heap.size) := Lib.hid HS7.out.aut.lt
          have HRC : Hid (∀ j u, [Value.bool fb][j]? = some u → w7.cell? ((⟨gm, 0, none⟩ : Addr).add j) = some u) := Lib.hid (fun j u hu => by
            match j, hu with
            | 0, hu =>
              obtain rfl := Option.some.inj hu
              exact r10
            | j + 1, hu => cases hu)
          have HH1 := Lib.hid (HIB.out fb)
          refine wpList_appB rfl (.tmp 67) (.tmp 76) rfl Tryz.underlying28 Tryz.infoBool rfl (by decide) rfl HNF.out HLE.out rfl (m := 1) (news := [.bool fb]) HRC.out rfl (by decide) HH1.out (by unfold maxLen; omega) (by omega) ?_
          intro g4 c4 w9 ho4 hg4 hr4
          have HQ := Lib.hid (HS7.out.putF (x := fb) hg4 ho4 (by
            rcases hr4 with e | e
            · exact .inl e.symm
            · exact .inr (by show some g4 = some _; rw [e])))
          obtain ⟨q0, q1, q2, qf0, qf1, qf2⟩ := aut_facts (HS7.out.aut.grownF hg4)
          clear ho4 hg4 hr4 r10 d7
          go_wp2_with fail
          go_roundw
          case rel => exact ⟨i + 1, S, _, _, _, _, by go_num, by omega, HPR, HQ⟩
          case measure => simp [intOf]; omega
    · have hii : ¬ (i : Int) < (S.length : Int) := by omega
      have hiS2 : i = S.length := by omega
      obtain ⟨a5, c5, rfl⟩ := owns_form HS.out.aut.nx
      obtain ⟨a6, c6, rfl⟩ := owns_form HS.out.aut.fn
      have HCA : Hid (CanIs k (accA k N F 0) nx fin) := Lib.hid ⟨_, _, _, HP.out.can, by rw [List.length_map]; omega⟩
      have HFL : Hid (fin.length ≤ F.length) := Lib.hid (by rw [HP.out.can.ok.flen]; omega)
      have HA := Lib.hid HS.out.aut
      clear hiS2 HP
      generalize hW : wr = w9 at *
      clear hW
      have HZ9 := Lib.hid (blk_later HZ3.out HA.out.bel)
      obtain ⟨q0, q1, q2⟩ := HA.out.cells
      have FF := Lib.hid (HA.out.fin (z := w.heap.size + 1) HB3.out (by have := HGZ.out; omega) (by omega) (.int .i64 (k : Nat)) (.slice a5 nx.length c5) (.slice a6 fin.length c6))
      have FR : Hid (RetSma k N F w (.returned (.agg #[.int .i64 (k : Nat), .slice a5 nx.length c5, .slice a6 fin.length c6])) (((w9.setCell ⟨w.heap.size + 1, 0, none⟩ (.int .i64 (k : Nat))).setCell ⟨w.heap.size + 1, 1, none⟩ (.slice a5 nx.length c5)).setCell ⟨w.heap.size + 1, 2, none⟩ (.slice a6 fin.length c6))) := Lib.hid ⟨_, _, _, _, _, _, rfl, HCA.out, HFL.out, FF.out.1, FF.out.2⟩
      obtain ⟨m0, m1, m2, mf0, mf1, mf2⟩ := aut_facts HZ9.out
      obtain ⟨u0, u1, u2⟩ := aut_cells (aut_three HZ9.out (.int .i64 (k : Nat)) (.slice a5 nx.length c5) (.slice a6 fin.length c6))
      go_wp2_with fail
      refine bodyPost_ret (v := .agg #[.int .i64 (k : Nat), .slice a5 nx.length c5, .slice a6 fin.length c6]) ?_ rfl FR.out
      simp [results, Tryz.results53, go_sem, u0, u1, u2]
end Go.Proofs.YtoddpmdjjgnpgaaGreatDoor
