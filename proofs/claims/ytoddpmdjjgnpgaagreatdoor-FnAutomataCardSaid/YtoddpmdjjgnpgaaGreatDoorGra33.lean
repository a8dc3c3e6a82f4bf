/-
  MeetOf of the program. Printed by meeti.py.
-/
import Derived.Test.YtoddpmdjjgnpgaaGreatDoorGra32
import Derived.Test.YtoddpmdjjgnpgaaGreatDoorGra26
import Derived.Test.YtoddpmdjjgnpgaaGreatDoorGra11
namespace Go.Proofs.YtoddpmdjjgnpgaaGreatDoor
open Go.RowKit
set_option linter.unusedVariables false
theorem bldP2 (a b : Int) (w : World) : (Instr.build 101 #[(0, .int .i64 a), (1, .int .i64 b)]).run Tryz.prog w = .ok (.agg #[.int .i64 a, .int .i64 b]) w := run_build w _ _ _ (by kernel_rfl)
theorem Tryz.infoP2 : (Tryz.prog.info? 101).map (fun i => (i.zero, i.size, i.bytes)) = some (some (.agg #[.int .i64 0, .int .i64 0]), 2, 16) := by kernel_rfl
theorem box2A {W : World} {b : Nat} {x y : Value} {T : TypeId} (h : W.heap[b]? = some (.cells #[x, y] T (0, 0))) : W.cell? ⟨b, 0, none⟩ = some x ∧ W.cell? ⟨b, 1, none⟩ = some y ∧ W.frozen? ⟨b, 0, none⟩ = false ∧ W.frozen? ⟨b, 1, none⟩ = false := ⟨by simp [World.cell?, h], by simp [World.cell?, h], by simp [World.frozen?, h], by simp [World.frozen?, h]⟩
def RetMe (k : Nat) (N N2 : List Int) (F F2 : List Bool) (w : World) (e : Ending) (w' : World) : Prop := (e = .returned (.tuple #[.agg #[.int .i64 0, .slice none 0 0, .slice none 0 0], .bool false]) ∧ Below w.heap.size w w') ∨
  ∃ (aN : Option Addr) (nx : List Int) (cN : Nat) (aF : Option Addr) (fin : List Bool) (cF : Nat), e = .returned (.tuple #[.agg #[.int .i64 (k : Nat), .slice aN nx.length cN, .slice aF fin.length cF], .bool true]) ∧ AutP k nx fin ∧ (∀ v, accA k nx fin 0 v ↔ accA k N F 0 v ∧ accA k N2 F2 0 v) ∧ OwnA w' w.heap.size aN nx cN aF fin cF ∧ Below w.heap.size w w'
set_option maxRecDepth 20000 in
set_option maxHeartbeats 8000000 in
theorem implMeet_any (k : Nat) (N N2 : List Int) (F F2 : List Bool) (aN aF aN2 aF2 : Option Addr) (cN cF cN2 cF2 : Nat) (w : World) (hN : IntsIn w aN N) (hF : BoolsIn w aF F) (h : AutP k N F) (hN2 : IntsIn w aN2 N2) (hF2 : BoolsIn w aF2 F2) (h2 : AutP k N2 F2) :
    Calls Tryz.prog 17 #[.agg #[.int .i64 (k : Nat), .slice aN N.length cN, .slice aF F.length cF], .agg #[.int .i64 (k : Nat), .slice aN2 N2.length cN2, .slice aF2 F2.length cF2]] w (RetMe k N N2 F F2 w) := by
  obtain ⟨w1, hw1⟩ : ∃ w1, ((w.alloc (.cells #[.int .i64 (k : Nat), .slice aN N.length cN, .slice aF F.length cF] 30)).alloc (.cells #[.int .i64 (k : Nat), .slice aN2 N2.length cN2, .slice aF2 F2.length cF2] 30)).alloc (.cells #[.int .i64 0, .slice none 0 0, .slice none 0 0] 30) = w1 := ⟨_, rfl⟩
  have HB1 : Hid (Below w.heap.size w w1) := Lib.hid (by rw [← hw1]; exact (((Below.refl _ _).alloc (Nat.le_refl _) _).alloc (by simp) _).alloc (by simp; omega) _)
  have HX1 : Hid (w1.heap[w.heap.size]? = some (.cells #[.int .i64 (k : Nat), .slice aN N.length cN, .slice aF F.length cF] 30 (0, 0))) := Lib.hid (by
    rw [← hw1, (alloc_belowS _ _).block _ (by simp <;> omega), (alloc_belowS _ _).block _ (by simp)]; exact alloc_at _ _)
  have HY1 : Hid (w1.heap[w.heap.size + 1]? = some (.cells #[.int .i64 (k : Nat), .slice aN2 N2.length cN2, .slice aF2 F2.length cF2] 30 (0, 0))) := Lib.hid (by
    rw [← hw1, (alloc_belowS _ _).block _ (by simp)]; have h := alloc_at (w.alloc (.cells #[.int .i64 (k : Nat), .slice aN N.length cN, .slice aF F.length cF] 30)) (.cells #[.int .i64 (k : Nat), .slice aN2 N2.length cN2, .slice aF2 F2.length cF2] 30); simpa using h)
  have HZ1 : Hid (w1.heap[w.heap.size + 2]? = some (.cells #[.int .i64 0, .slice none 0 0, .slice none 0 0] 30 (0, 0))) := Lib.hid (by
    rw [← hw1]; have h := alloc_at ((w.alloc (.cells #[.int .i64 (k : Nat), .slice aN N.length cN, .slice aF F.length cF] 30)).alloc (.cells #[.int .i64 (k : Nat), .slice aN2 N2.length cN2, .slice aF2 F2.length cF2] 30)) (.cells #[.int .i64 0, .slice none 0 0, .slice none 0 0] 30); simpa using h)
  have HN1 := Lib.hid (hN.later HB1.out)
  have HF1 := Lib.hid (hF.later HB1.out)
  have HM1 := Lib.hid (hN2.later HB1.out)
  have HG1 := Lib.hid (hF2.later HB1.out)
  have HOK := Lib.hid (implAutOk_yes k N F aN aF cN cF w1 HN1.out h)
  have HOK2 : Hid (∀ W, Below w1.heap.size w1 W → Calls Tryz.prog 45 #[.agg #[.int .i64 (k : Nat), .slice aN2 N2.length cN2, .slice aF2 F2.length cF2]] W fun e w' => e = .returned (.bool true) ∧ Below W.heap.size W w') := Lib.hid (fun W hW => implAutOk_yes k N2 F2 aN2 aF2 cN2 cF2 W (HM1.out.later hW) h2)
  have HAP := Lib.hid h
  have HAP2 := Lib.hid h2
  have hsm := h.small
  have hsm2 := h2.small
  have hk1 := h.1.1.1
  have hk4 := h.1.1.2
  have hn1 := h.1.2.1
  have hn80 := h.1.2.2
  have hm1 := h2.1.2.1
  have hm80 := h2.1.2.2
  have HNX := Lib.hid (fun W st x hW hst => autNext_any k N F.length aN aF cN cF st x W hW hk4 hst (by omega))
  have HNY := Lib.hid (fun W st x hW hst => autNext_any k N2 F2.length aN2 aF2 cN2 cF2 st x W hW hk4 hst (by omega))
  have HIB : Hid (∀ b : Bool, ∀ u ∈ [Value.bool b], u.oneCell' = true) := Lib.hid (fun b u hu => by rw [List.mem_singleton.1 hu]; rfl)
  clear hN hF h hN2 hF2 h2
  obtain ⟨x0, x1, x2⟩ := aut_cells HX1.out
  have hkk : ((k : Int) != (k : Int)) = false := by simp
  go_enter Tryz.func17, Tryz.ntmps17
  go_upto_region 1 with fail
  generalize ((w.alloc (.cells #[.int .i64 (k : Nat), .slice aN N.length cN, .slice aF F.length cF] 30)).alloc (.cells #[.int .i64 (k : Nat), .slice aN2 N2.length cN2, .slice aF2 F2.length cF2] 30)).alloc (.cells #[.int .i64 0, .slice none 0 0, .slice none 0 0] 30) = wg at *
  subst hw1
  go_wp2_with fail
  refine HOK.out.mono ?_
  rintro e w2 ⟨rfl, hb2⟩
  have HB2 := Lib.hid hb2
  clear hb2 x0 x1 x2
  obtain ⟨y0, y1, y2⟩ := aut_cells (blk_later HY1.out HB2.out)
  go_wp2_with fail
  refine (HOK2.out _ HB2.out).mono ?_
  rintro e w3 ⟨rfl, hb3⟩
  have HB13 := Lib.hid (Below.now HB2.out hb3)
  clear hb3 y0 y1 y2
  have HB3 := Lib.hid (Below.now HB1.out HB13.out)
  have HX3 := Lib.hid (blk_later HX1.out HB13.out)
  have HY3 := Lib.hid (blk_later HY1.out HB13.out)
  have HZ3 := Lib.hid (blk_later HZ1.out HB13.out)
  have HN3 := Lib.hid (HN1.out.later HB13.out)
  have HF3 := Lib.hid (HF1.out.later HB13.out)
  have HM3 := Lib.hid (HM1.out.later HB13.out)
  have HG3 := Lib.hid (HG1.out.later HB13.out)
  have HGZ : Hid (w.heap.size + 2 < w3.heap.size) := Lib.hid (Array.getElem?_eq_some_iff.1 HZ3.out).1
  clear HX1 HY1 HZ1 HN1 HF1 HM1 HG1 HOK HOK2 HB2 HB13
  obtain ⟨x0, -, -⟩ := aut_cells HX3.out
  obtain ⟨y0, -, -⟩ := aut_cells HY3.out
  have hbl := bldP2
  go_upto_region 3 with fail
  clear hkk y0
  have HA0 : Hid (AutS w3 ((w3.alloc (.cells #[.int .i64 0, .int .i64 0] 101)).alloc (.cells #[.int .i64 (k : Nat), .slice none 0 0, .slice none 0 0] 30)) (w3.heap.size + 1) (k : Nat) (.slice none 0 0) (.slice none 0 0) [] [] 101 2 (.slice (some ⟨w3.heap.size, 0, none⟩) 1 1) [((0 : Nat), (0 : Nat))].length (cellsL stV [(0, 0)])) := Lib.hid (AutS.start w3 #[.int .i64 0, .int .i64 0] 101 2 rfl _)
  have y0 := (aut_cells (blk_later HX3.out (alloc_belowS w3 (.cells #[.int .i64 0, .int .i64 0] 101)))).1
  go_upto_region 5 with fail
  clear x0 y0 hbl
  generalize (w3.alloc (.cells #[.int .i64 0, .int .i64 0] 101)).alloc (.cells #[.int .i64 (k : Nat), .slice none 0 0, .slice none 0 0] 30) = w4 at *
  go_wp2_with fail
  go_loopw [6, 8] (fun vs vi wr => ∃ (i : Nat) (S : List (Nat × Nat)) (v uF : Value) (nx : List Int) (fin : List Bool), vi = .int .i64 (i : Nat) ∧ i ≤ S.length ∧ S.length ≤ 80 ∧ Hid (∀ p ∈ S, p.1 < F.length ∧ p.2 < F2.length) ∧ Hid (ExpA (meetD k N N2) (meetF F F2) (0, 0) k S nx fin i 0) ∧ Hid (AutS w3 wr (w3.heap.size + 1) (k : Nat) v uF nx fin 101 2 vs S.length (cellsL stV S))) (fun _ vi _ => 81 - (intOf vi).toNat)
  case atStart => exact ⟨0, [(0, 0)], _, _, [], [], rfl, by simp, by simp, Lib.hid (fun p hp => by rw [List.mem_singleton.1 hp]; exact ⟨by omega, by omega⟩), Lib.hid (ExpA.start _ _ _ _), HA0⟩
  case round =>
    clear HA0
    obtain ⟨i, S, v, uF, nx, fin, rfl, hiS, hS80, HMP, HP, HS⟩ := hrel
    obtain ⟨aS, cS, rfl⟩ := owns_form HS.out.st
    by_cases hlt : i < S.length
    · have hii : (i : Int) < (S.length : Int) := by omega
      have x0 := (aut_cells (blk_later HX3.out HS.out.aut.bel)).1
      generalize hW : wr = wr0 at *
      clear hW
      go_wp2_with fail
      clear x0
      go_loopw [6, 41] (fun vs vx wr => ∃ (x : Nat) (S : List (Nat × Nat)) (v : Value) (nx : List Int), vx = .int .i64 (x : Nat) ∧ x ≤ k ∧ i < S.length ∧ S.length ≤ 80 + x ∧ i < 80 ∧ Hid (∀ p ∈ S, p.1 < F.length ∧ p.2 < F2.length) ∧ Hid (ExpA (meetD k N N2) (meetF F F2) (0, 0) k S nx fin i x) ∧ Hid (AutS w3 wr (w3.heap.size + 1) (k : Nat) v uF nx fin 101 2 vs S.length (cellsL stV S))) (fun _ vx _ => k - (intOf vx).toNat)
      case atStart => exact ⟨0, S, v, nx, rfl, Nat.zero_le _, hlt, by omega, by omega, HMP, HP, HS⟩
      case round =>
        clear HP HS HMP hii hlt hiS hS80
        obtain ⟨x, S, v, nx, rfl, hx, hiS, hS80, hi80, HMP, HP, HS⟩ := hrel
        obtain ⟨aS, cS, rfl⟩ := owns_form HS.out.st
        obtain ⟨a5, c5, rfl⟩ := owns_form HS.out.aut.nx
        have hii : (i : Int) < (S.length : Int) := by omega
        have HBW := Lib.hid HS.out.aut.bel
        obtain ⟨bS, oS, rfl, hbS, hcS⟩ := RowsIn.cell stV_len (by omega) (owns_rows (l := S) HS.out.st) hiS
        obtain ⟨p1, p2, hpp⟩ : ∃ p1 p2, S[i] = (p1, p2) := ⟨_, _, rfl⟩
        have cS0 := hcS i hiS 0 (.int .i64 (p1 : Nat)) (by rw [hpp]; rfl)
        have cS1 := hcS i hiS 1 (.int .i64 (p2 : Nat)) (by rw [hpp]; rfl)
        simp only [Nat.add_zero] at cS0
        have HSI : Hid (S[i]? = some (p1, p2)) := Lib.hid (by rw [List.getElem?_eq_getElem hiS, hpp])
        obtain ⟨hp1, hp2⟩ : p1 < F.length ∧ p2 < F2.length := by have := HMP.out _ (List.getElem_mem hiS); rw [hpp] at this; exact this
        have hnl1 : nx.length ≤ 400 := by have := HP.out.lenN hk4 (c := 80) (by omega); omega
        have hnl2 : fin.length ≤ 80 := by rw [HP.out.flen]; omega
        clear hcS hpp
        by_cases hlx : x < k
        · have hxi : (x : Int) < (k : Int) := by omega
          have HDE : Hid (meetD k N N2 (p1, p2) x = if 0 ≤ nxI k N p1 x ∧ 0 ≤ nxI k N2 p2 x then some ((nxI k N p1 x).toNat, (nxI k N2 p2 x).toNat) else none) := Lib.hid rfl
          have HNQ := Lib.hid (fun W hW => HNX.out W p1 x hW (HAP.out.slot hp1 hlx))
          have HNR := Lib.hid (fun W hW => HNY.out W p2 x hW (HAP2.out.slot hp2 hlx))
          have hnx := HAP.out.next hp1 hlx
          have hny := HAP2.out.next hp2 hlx
          generalize nxI k N p1 x = y at *
          generalize nxI k N2 p2 x = z at *
          go_upto_region 11 with fail
          refine region_tail 18 (fun W => Below wr.heap.size wr W) (fun W W2 => Below W.heap.size W W2) (fun u => by simp only [List.take_succ_cons, List.take_zero, fPut, Act.put, List.setIfInBounds_toArray, List.set_cons_succ, List.set_cons_zero, Nat.zero_add, Nat.reduceAdd]; rfl) (by kernel_rfl) (by kernel_rfl) (by kernel_rfl) (by kernel_rfl) (by kernel_rfl) (by kernel_rfl) (by kernel_rfl) (Below.drew (Below.refl _ _)) ?_
          conv => arg 7; simp only [List.take_succ_cons, List.take_zero]
          apply each_read (fun _ => Below.refl _ _) rfl
          · intro u wv hC hf
            obtain ⟨z0, z1, z2⟩ := aut_cells (blk_later HX3.out (Below.now HBW.out hC))
            obtain ⟨y0, y1, y2⟩ := aut_cells (blk_later HY3.out (Below.now HBW.out hC))
            have zs := (hC.cell hbS).trans cS0
            have zt := (hC.cell hbS).trans cS1
            have hbl := bldP2
            clear hf
            go_simp
            try rfl
          apply each_read (fun _ => Below.refl _ _) rfl
          · intro u wv hC hf
            obtain ⟨z0, z1, z2⟩ := aut_cells (blk_later HX3.out (Below.now HBW.out hC))
            obtain ⟨y0, y1, y2⟩ := aut_cells (blk_later HY3.out (Below.now HBW.out hC))
            have zs := (hC.cell hbS).trans cS0
            have zt := (hC.cell hbS).trans cS1
            have hbl := bldP2
            clear hf
            go_simp
            try rfl
          conv => arg 8; simp only [List.cons_append, List.nil_append]
          apply each_read (fun _ => Below.refl _ _) rfl
          · intro u wv hC hf
            obtain ⟨z0, z1, z2⟩ := aut_cells (blk_later HX3.out (Below.now HBW.out hC))
            obtain ⟨y0, y1, y2⟩ := aut_cells (blk_later HY3.out (Below.now HBW.out hC))
            have zs := (hC.cell hbS).trans cS0
            have zt := (hC.cell hbS).trans cS1
            have hbl := bldP2
            clear hf
            go_simp
            try rfl
          conv => arg 8; simp only [List.cons_append, List.nil_append]
          apply each_read (fun _ => Below.refl _ _) rfl
          · intro u wv hC hf
            obtain ⟨z0, z1, z2⟩ := aut_cells (blk_later HX3.out (Below.now HBW.out hC))
            obtain ⟨y0, y1, y2⟩ := aut_cells (blk_later HY3.out (Below.now HBW.out hC))
            have zs := (hC.cell hbS).trans cS0
            have zt := (hC.cell hbS).trans cS1
            have hbl := bldP2
            obtain ⟨d1_0, d2_1, -⟩ := hf
            have e1 : u 1 = _ := d1_0 rfl
            clear d1_0
            have e2 : u 2 = _ := d2_1 rfl
            clear d2_1
            go_simp
            try rfl
          conv => arg 8; simp only [List.cons_append, List.nil_append]
          apply each_read (fun _ => Below.refl _ _) rfl
          · intro u wv hC hf
            obtain ⟨z0, z1, z2⟩ := aut_cells (blk_later HX3.out (Below.now HBW.out hC))
            obtain ⟨y0, y1, y2⟩ := aut_cells (blk_later HY3.out (Below.now HBW.out hC))
            have zs := (hC.cell hbS).trans cS0
            have zt := (hC.cell hbS).trans cS1
            have hbl := bldP2
            obtain ⟨d3_0, -⟩ := hf
            have e3 : u 3 = _ := d3_0 rfl
            clear d3_0
            go_simp
            try rfl
          conv => arg 8; simp only [List.cons_append, List.nil_append]
          apply each_read (fun _ => Below.refl _ _) rfl
          · intro u wv hC hf
            obtain ⟨z0, z1, z2⟩ := aut_cells (blk_later HX3.out (Below.now HBW.out hC))
            obtain ⟨y0, y1, y2⟩ := aut_cells (blk_later HY3.out (Below.now HBW.out hC))
            have zs := (hC.cell hbS).trans cS0
            have zt := (hC.cell hbS).trans cS1
            have hbl := bldP2
            obtain ⟨d4_0, -⟩ := hf
            have e4 : u 4 = _ := d4_0 rfl
            clear d4_0
            go_simp
            try rfl
          conv => arg 8; simp only [List.cons_append, List.nil_append]
          apply each_read (fun _ => Below.refl _ _) rfl
          · intro u wv hC hf
            obtain ⟨z0, z1, z2⟩ := aut_cells (blk_later HX3.out (Below.now HBW.out hC))
            obtain ⟨y0, y1, y2⟩ := aut_cells (blk_later HY3.out (Below.now HBW.out hC))
            have zs := (hC.cell hbS).trans cS0
            have zt := (hC.cell hbS).trans cS1
            have hbl := bldP2
            clear hf
            go_simp
            try rfl
          conv => arg 8; simp only [List.cons_append, List.nil_append]
          apply each_callR rfl
          · intro u wv hC hf
            obtain ⟨z0, z1, z2⟩ := aut_cells (blk_later HX3.out (Below.now HBW.out hC))
            obtain ⟨y0, y1, y2⟩ := aut_cells (blk_later HY3.out (Below.now HBW.out hC))
            have zs := (hC.cell hbS).trans cS0
            have zt := (hC.cell hbS).trans cS1
            have hbl := bldP2
            obtain ⟨d0_0, d5_1, d6_2, -⟩ := hf
            have e0 : u 0 = _ := d0_0 rfl
            clear d0_0
            have e5 : u 5 = _ := d5_1 rfl
            clear d5_1
            have e6 : u 6 = _ := d6_2 rfl
            clear d6_2
            apply Exists.intro; apply Exists.intro; apply And.intro
            · go_simp; exact ⟨rfl, rfl⟩
            · refine (HNQ.out _ ((HN3.out.later HBW.out).later hC)).mono ?_
              rintro e w9 ⟨rfl, hb9⟩
              exact ⟨rfl, Below.now hC hb9, hb9⟩
          conv => arg 8; simp only [List.cons_append, List.nil_append]
          apply each_read (fun _ => Below.refl _ _) rfl
          · intro u wv hC hf
            obtain ⟨z0, z1, z2⟩ := aut_cells (blk_later HX3.out (Below.now HBW.out hC))
            obtain ⟨y0, y1, y2⟩ := aut_cells (blk_later HY3.out (Below.now HBW.out hC))
            have zs := (hC.cell hbS).trans cS0
            have zt := (hC.cell hbS).trans cS1
            have hbl := bldP2
            clear hf
            go_simp
            try rfl
          conv => arg 8; simp only [List.cons_append, List.nil_append]
          apply each_read (fun _ => Below.refl _ _) rfl
          · intro u wv hC hf
            obtain ⟨z0, z1, z2⟩ := aut_cells (blk_later HX3.out (Below.now HBW.out hC))
            obtain ⟨y0, y1, y2⟩ := aut_cells (blk_later HY3.out (Below.now HBW.out hC))
            have zs := (hC.cell hbS).trans cS0
            have zt := (hC.cell hbS).trans cS1
            have hbl := bldP2
            clear hf
            go_simp
            try rfl
          conv => arg 8; simp only [List.cons_append, List.nil_append]
          apply each_read (fun _ => Below.refl _ _) rfl
          · intro u wv hC hf
            obtain ⟨z0, z1, z2⟩ := aut_cells (blk_later HX3.out (Below.now HBW.out hC))
            obtain ⟨y0, y1, y2⟩ := aut_cells (blk_later HY3.out (Below.now HBW.out hC))
            have zs := (hC.cell hbS).trans cS0
            have zt := (hC.cell hbS).trans cS1
            have hbl := bldP2
            clear hf
            go_simp
            try rfl
          conv => arg 8; simp only [List.cons_append, List.nil_append]
          apply each_read (fun _ => Below.refl _ _) rfl
          · intro u wv hC hf
            obtain ⟨z0, z1, z2⟩ := aut_cells (blk_later HX3.out (Below.now HBW.out hC))
            obtain ⟨y0, y1, y2⟩ := aut_cells (blk_later HY3.out (Below.now HBW.out hC))
            have zs := (hC.cell hbS).trans cS0
            have zt := (hC.cell hbS).trans cS1
            have hbl := bldP2
            obtain ⟨d9_0, d10_1, -⟩ := hf
            have e9 : u 9 = _ := d9_0 rfl
            clear d9_0
            have e10 : u 10 = _ := d10_1 rfl
            clear d10_1
            go_simp
            try rfl
          conv => arg 8; simp only [List.cons_append, List.nil_append]
          apply each_read (fun _ => Below.refl _ _) rfl
          · intro u wv hC hf
            obtain ⟨z0, z1, z2⟩ := aut_cells (blk_later HX3.out (Below.now HBW.out hC))
            obtain ⟨y0, y1, y2⟩ := aut_cells (blk_later HY3.out (Below.now HBW.out hC))
            have zs := (hC.cell hbS).trans cS0
            have zt := (hC.cell hbS).trans cS1
            have hbl := bldP2
            obtain ⟨d11_0, -⟩ := hf
            have e11 : u 11 = _ := d11_0 rfl
            clear d11_0
            go_simp
            try rfl
          conv => arg 8; simp only [List.cons_append, List.nil_append]
          apply each_read (fun _ => Below.refl _ _) rfl
          · intro u wv hC hf
            obtain ⟨z0, z1, z2⟩ := aut_cells (blk_later HX3.out (Below.now HBW.out hC))
            obtain ⟨y0, y1, y2⟩ := aut_cells (blk_later HY3.out (Below.now HBW.out hC))
            have zs := (hC.cell hbS).trans cS0
            have zt := (hC.cell hbS).trans cS1
            have hbl := bldP2
            obtain ⟨d12_0, -⟩ := hf
            have e12 : u 12 = _ := d12_0 rfl
            clear d12_0
            go_simp
            try rfl
          conv => arg 8; simp only [List.cons_append, List.nil_append]
          apply each_read (fun _ => Below.refl _ _) rfl
          · intro u wv hC hf
            obtain ⟨z0, z1, z2⟩ := aut_cells (blk_later HX3.out (Below.now HBW.out hC))
            obtain ⟨y0, y1, y2⟩ := aut_cells (blk_later HY3.out (Below.now HBW.out hC))
            have zs := (hC.cell hbS).trans cS0
            have zt := (hC.cell hbS).trans cS1
            have hbl := bldP2
            clear hf
            go_simp
            try rfl
          conv => arg 8; simp only [List.cons_append, List.nil_append]
          apply each_callR rfl
          · intro u wv hC hf
            obtain ⟨z0, z1, z2⟩ := aut_cells (blk_later HX3.out (Below.now HBW.out hC))
            obtain ⟨y0, y1, y2⟩ := aut_cells (blk_later HY3.out (Below.now HBW.out hC))
            have zs := (hC.cell hbS).trans cS0
            have zt := (hC.cell hbS).trans cS1
            have hbl := bldP2
            obtain ⟨d8_0, d13_1, d14_2, d7_3, -⟩ := hf
            have e8 : u 8 = _ := d8_0 rfl
            clear d8_0
            have e13 : u 13 = _ := d13_1 rfl
            clear d13_1
            have e14 : u 14 = _ := d14_2 rfl
            clear d14_2
            have e7 : u 7 = _ := d7_3 rfl
            clear d7_3
            apply Exists.intro; apply Exists.intro; apply And.intro
            · go_simp; exact ⟨rfl, rfl⟩
            · refine (HNR.out _ ((HM3.out.later HBW.out).later hC)).mono ?_
              rintro e w9 ⟨rfl, hb9⟩
              exact ⟨rfl, Below.now hC hb9, hb9⟩
          conv => arg 8; simp only [List.cons_append, List.nil_append]
          apply each_read (fun _ => Below.refl _ _) rfl
          · intro u wv hC hf
            obtain ⟨z0, z1, z2⟩ := aut_cells (blk_later HX3.out (Below.now HBW.out hC))
            obtain ⟨y0, y1, y2⟩ := aut_cells (blk_later HY3.out (Below.now HBW.out hC))
            have zs := (hC.cell hbS).trans cS0
            have zt := (hC.cell hbS).trans cS1
            have hbl := bldP2
            obtain ⟨d7_0, d15_1, -⟩ := hf
            have e7 : u 7 = _ := d7_0 rfl
            clear d7_0
            have e15 : u 15 = _ := d15_1 rfl
            clear d15_1
            go_simp
            try rfl
          conv => arg 8; simp only [List.cons_append, List.nil_append]
          refine each_do (fun v wv => ∃ gt, v = .pointer (some ⟨gt, 0, none⟩) ∧ wr.heap.size ≤ gt ∧ wv.heap[gt]? = some (.cells #[.int .i64 0, .int .i64 0] 101 (0, 0))) (fun v w w2 _ hR ⟨gt, e, h1, h2⟩ => ⟨gt, e, h1, blk_later h2 hR⟩) rfl ?_ ?_
          · intro u wv hC hf
            obtain ⟨z0, z1, z2⟩ := aut_cells (blk_later HX3.out (Below.now HBW.out hC))
            obtain ⟨y0, y1, y2⟩ := aut_cells (blk_later HY3.out (Below.now HBW.out hC))
            have zs := (hC.cell hbS).trans cS0
            have zt := (hC.cell hbS).trans cS1
            have hbl := bldP2
            clear hf
            refine ⟨.pointer (some ⟨wv.heap.size, 0, none⟩), wv.alloc (.cells #[.int .i64 0, .int .i64 0] 101), ?_, Below.alloc hC hC.size _, alloc_belowS _ _, wv.heap.size, rfl, hC.size, alloc_at _ _⟩
            go_simp
            try rfl
          intro u w7 d7 hall
          obtain ⟨a0, a1, a2, a3, a4, a5, a6, a7, a8, a9, a10, a11, a12, a13, a14, a15, a16, a17, -⟩ := hall
          have e0 : u 0 = _ := a0
          clear a0
          have e1 : u 1 = _ := a1
          clear a1
          have e2 : u 2 = _ := a2
          clear a2
          have e3 : u 3 = _ := a3
          clear a3
          have e4 : u 4 = _ := a4
          clear a4
          have e5 : u 5 = _ := a5
          clear a5
          have e6 : u 6 = _ := a6
          clear a6
          have e7 : u 7 = _ := a7
          clear a7
          have e8 : u 8 = _ := a8
          clear a8
          have e9 : u 9 = _ := a9
          clear a9
          have e10 : u 10 = _ := a10
          clear a10
          have e11 : u 11 = _ := a11
          clear a11
          have e12 : u 12 = _ := a12
          clear a12
          have e13 : u 13 = _ := a13
          clear a13
          have e14 : u 14 = _ := a14
          clear a14
          have e15 : u 15 = _ := a15
          clear a15
          have e16 : u 16 = _ := a16
          clear a16
          obtain ⟨gt, e17, l17, r17⟩ := a17
          replace e17 : u 17 = _ := e17
          change wpList _ _ _ (List.drop 18 _) _ _
          simp only [List.drop_succ_cons, List.drop_zero]
          simp only [e0, e1, e2, e3, e4, e5, e6, e7, e8, e9, e10, e11, e12, e13, e14, e15, e16, e17]
          clear e0 e1 e2 e3 e4 e5 e6 e7 e8 e9 e10 e11 e12 e13 e14 e15 e16 e17
          have HB8 := Lib.hid ((Below.setCell (p := ⟨gt, 0, none⟩) d7 l17 (.int .i64 y)).setCell (p := ⟨gt, 1, none⟩) l17 (.int .i64 z))
          have HT8 : Hid (((w7.setCell ⟨gt, 0, none⟩ (.int .i64 y)).setCell ⟨gt, 1, none⟩ (.int .i64 z)).heap[gt]? = some (.cells #[.int .i64 y, .int .i64 z] 101 (0, 0))) := Lib.hid ((set_hitA ((set_hitA r17 (.int .i64 y)).trans rfl) (.int .i64 z)).trans rfl)
          obtain ⟨t0, t1, t2, t3⟩ := box2A r17
          clear r17 d7 l17
          go_upto_region 12 with fail
          clear t0 t1 t2 t3
          generalize (w7.setCell ⟨gt, 0, none⟩ (.int .i64 y)).setCell ⟨gt, 1, none⟩ (.int .i64 z) = w8 at *
          have HS8 := Lib.hid (HS.out.later HB8.out)
          have HBW8 := Lib.hid (Below.now HBW.out HB8.out)
          obtain ⟨c8, c9, -, -⟩ := box2A HT8.out
          go_cut [68] (fun v wx => ∃ b : Bool, v = .bool b ∧ (b = true ↔ ¬ (0 ≤ y ∧ 0 ≤ z)) ∧ wx = w8)
          case first =>
            by_cases h0 : y < 0
            · go_wp2_with fail
              go_meet
              exact ⟨true, rfl, ⟨fun _ => by omega, fun _ => rfl⟩, rfl⟩
            · by_cases h1 : z < 0
              · go_wp2_with fail
                go_meet
                exact ⟨true, rfl, ⟨fun _ => by omega, fun _ => rfl⟩, rfl⟩
              · go_wp2_with fail
                go_meet
                exact ⟨false, rfl, ⟨fun hh => (by cases hh), fun hh => absurd ⟨by omega, by omega⟩ hh⟩, rfl⟩
          case rest =>
            obtain ⟨b, rfl, hbd, rfl⟩ := hcut
            have HBD := Lib.hid hbd
            clear hbd
            have HA := Lib.hid HS8.out.aut
            have HNXT := Lib.hid HS8.out.aut.nx
            cases b
            · have hL : 0 ≤ y ∧ 0 ≤ z := Classical.byContradiction fun hc => by have := HBD.out.2 hc; cases this
              obtain ⟨q, rfl⟩ : ∃ q : Nat, y = (q : Int) := ⟨y.toNat, by omega⟩
              obtain ⟨r, rfl⟩ : ∃ r : Nat, z = (r : Int) := ⟨z.toNat, by omega⟩
              have hq : q < F.length ∧ r < F2.length := ⟨by omega, by omega⟩
              have HDS : Hid (meetD k N N2 (p1, p2) x = some (q, r)) := Lib.hid (by rw [HDE.out, if_pos hL]; simp)
              have HIX := Lib.hid (indexP2_any S (some ⟨bS, oS, none⟩) cS q r wc (owns_rows (l := S) HS8.out.st) (by omega))
              clear hL HBD HDE
              go_wp2_with fail
              refine HIX.out.mono ?_
              rintro e w10 ⟨hix, hb10⟩
              have HS10 := Lib.hid (HS8.out.later hb10)
              obtain ⟨t8, t9, -, -⟩ := box2A (blk_later HT8.out hb10)
              clear hb10 c8 c9 HA HNXT
              rcases hix with ⟨j, hj, rfl⟩ | ⟨hj, rfl⟩
              · have HPN := Lib.hid (HP.out.old HSI.out hlx HDS.out hj)
                have hj0 : ¬ (j : Int) < 0 := by omega
                clear hj
                have HA := Lib.hid HS10.out.aut
                have HNXT := Lib.hid HS10.out.aut.nx
                go_upto_region 18 with fail
                have HN1 : Hid ([Value.int .i64 (j : Int)].length = 1) := Lib.hid rfl
                have HN2 : Hid (∀ v ∈ [Value.int .i64 (j : Int)], v.oneCell' = true) := Lib.hid (fun v hv => by simp at hv; rcases hv with rfl; rfl)
                obtain ⟨z0, z1, z2⟩ := HA.out.cells
                have zf := HA.out.frz 1
                go_wp2_with (at_builtin; refine wpList_appH (n := nx.length) (wr := w10) (news := [Value.int .i64 (j : Int)]) rfl (.tmp 86) (.tmp 88) rfl Tryz.underlying27 Tryz.infoInt rfl (by decide) rfl HNXT.out HA.out.lt rfl HN1.out HN2.out (by unfold maxLen; omega) (by omega) ?_; intro g4 c4 w5 ho4 hg4 hr4; obtain ⟨q0, q1, q2, qf0, qf1, qf2⟩ := aut_facts ((HA.out.later (alloc_belowS w10 _)).grownN hg4))
                have HQ := Lib.hid ((HS10.out.later (alloc_belowS w10 _)).putN (x := (j : Int)) hg4 ho4 hr4)
                clear ho4 hg4 hr4 z0 z1 z2 zf
                go_wp2_with fail
                go_roundw
                case rel => exact ⟨x + 1, S, _, _, by go_num, by omega, hiS, by omega, hi80, HMP, HPN, HQ⟩
                case measure => simp [intOf]; omega
              · have HPN := Lib.hid (HP.out.new HSI.out hlx HDS.out)
                clear hj
                go_upto_region 17 with fail
                have HMS1 : Hid ([Value.int .i64 (q : Int), .int .i64 (r : Int)].length = 2) := Lib.hid rfl
                have HMS2 : Hid (∀ v ∈ [Value.int .i64 (q : Int), .int .i64 (r : Int)], v.oneCell' = true) := Lib.hid (fun v hv => by simp at hv; rcases hv with rfl | rfl <;> rfl)
                have HST := Lib.hid HS10.out.st
                have HSZ3 : Hid (w3.heap.size ≤ w10.heap.size) := Lib.hid HS10.out.aut.bel.size
                go_upto_region 18 with (at_builtin; refine wpList_appH (n := S.length) (wr := w10) (news := [Value.int .i64 (q : Int), .int .i64 (r : Int)]) rfl (.tmp 81) (.tmp 83) rfl Tryz.underlying102 Tryz.infoP2 rfl (by decide) rfl HST.out HSZ3.out rfl HMS1.out HMS2.out (by unfold maxLen; omega) (by omega) ?_; intro g6 c6 w11 ho6 hg6 hr6)
                have HSA : Hid (cellsL stV (S ++ [(q, r)]) = cellsL stV S ++ [Value.int .i64 (q : Int), .int .i64 (r : Int)]) := Lib.hid (by rw [cellsL_app, cellsL_one]; rfl)
                have HSN : Hid ((S ++ [(q, r)]).length = S.length + 1) := Lib.hid (by simp)
                have HMP2 : Hid (∀ p ∈ S ++ [(q, r)], p.1 < F.length ∧ p.2 < F2.length) := Lib.hid (fun p hp => by
                  rcases List.mem_append.1 hp with hp | hp
                  · exact HMP.out p hp
                  · rw [List.mem_singleton.1 hp]; exact hq)
                have HS11 : Hid (AutS w3 w11 (w3.heap.size + 1) (k : Nat) (.slice a5 nx.length c5) uF nx fin 101 2 (.slice (some ⟨g6, 0, none⟩) (S ++ [(q, r)]).length c6) (S ++ [(q, r)]).length (cellsL stV (S ++ [(q, r)]))) := Lib.hid (by
                  rw [HSA.out, HSN.out]
                  exact (HS10.out.later (alloc_belowS w10 _)).putS hg6 ho6 hr6)
                clear ho6 hg6 hr6 HS10 t8 t9
                have hiS2 : i < (S ++ [(q, r)]).length := by rw [HSN.out]; omega
                have hSb2 : (S ++ [(q, r)]).length ≤ 80 + (x + 1) := by rw [HSN.out]; omega
                have HA := Lib.hid HS11.out.aut
                have HNXT := Lib.hid HS11.out.aut.nx
                have HN1 : Hid ([Value.int .i64 (S.length : Int)].length = 1) := Lib.hid rfl
                have HN2 : Hid (∀ v ∈ [Value.int .i64 (S.length : Int)], v.oneCell' = true) := Lib.hid (fun v hv => by simp at hv; rcases hv with rfl; rfl)
                obtain ⟨z0, z1, z2⟩ := HA.out.cells
                have zf := HA.out.frz 1
                go_wp2_with (at_builtin; refine wpList_appH (n := nx.length) (wr := w11) (news := [Value.int .i64 (S.length : Int)]) rfl (.tmp 86) (.tmp 88) rfl Tryz.underlying27 Tryz.infoInt rfl (by decide) rfl HNXT.out HA.out.lt rfl HN1.out HN2.out (by unfold maxLen; omega) (by omega) ?_; intro g4 c4 w5 ho4 hg4 hr4; obtain ⟨q0, q1, q2, qf0, qf1, qf2⟩ := aut_facts ((HA.out.later (alloc_belowS w11 _)).grownN hg4))
                have HQ := Lib.hid ((HS11.out.later (alloc_belowS w11 _)).putN (x := (S.length : Int)) hg4 ho4 hr4)
                clear ho4 hg4 hr4 z0 z1 z2 zf
                go_wp2_with fail
                go_roundw
                case rel => exact ⟨x + 1, S ++ [(q, r)], .slice (some ⟨g4, 0, none⟩) (nx.length + 1) c4, _, by go_num, by omega, hiS2, hSb2, hi80, HMP2, HPN, by rw [HSN.out] at HQ ⊢; exact HQ⟩
                case measure => simp [intOf]; omega
            · have HPN := Lib.hid (HP.out.dead HSI.out hlx (by rw [HDE.out, if_neg (HBD.out.1 rfl)]))
              clear HDE HBD c8 c9
              go_upto_region 13 with fail
              have HN1 : Hid ([Value.int .i64 (-1)].length = 1) := Lib.hid rfl
              have HN2 : Hid (∀ v ∈ [Value.int .i64 (-1)], v.oneCell' = true) := Lib.hid (fun v hv => by simp at hv; rcases hv with rfl; rfl)
              obtain ⟨z0, z1, z2⟩ := HA.out.cells
              have zf := HA.out.frz 1
              go_wp2_with (at_builtin; refine wpList_appH (n := nx.length) (wr := wc) (news := [Value.int .i64 (-1)]) rfl (.tmp 70) (.tmp 71) rfl Tryz.underlying27 Tryz.infoInt rfl (by decide) rfl HNXT.out HA.out.lt rfl HN1.out HN2.out (by unfold maxLen; omega) (by omega) ?_; intro g4 c4 w5 ho4 hg4 hr4; obtain ⟨q0, q1, q2, qf0, qf1, qf2⟩ := aut_facts ((HA.out.later (alloc_belowS wc _)).grownN hg4))
              have HQ := Lib.hid ((HS8.out.later (alloc_belowS wc _)).putN (x := -1) hg4 ho4 hr4)
              clear ho4 hg4 hr4 z0 z1 z2 zf
              go_wp2_with fail
              go_roundw
              case rel => exact ⟨x + 1, S, _, _, by go_num, by omega, hiS, by omega, hi80, HMP, HPN, HQ⟩
              case measure => simp [intOf]; omega
        · have hxi : ¬ (x : Int) < (k : Int) := by omega
          obtain rfl : x = k := by omega
          have HPR := Lib.hid (HP.out.row HSI.out)
          have HFI : Hid (meetF F F2 (p1, p2) = (F.getD p1 false && F2.getD p2 false)) := Lib.hid rfl
          obtain ⟨bF, oF, rfl, hbF, hcF⟩ := (HF3.out.later HBW.out).cell hp1
          have cF0 := hcF _ hp1
          obtain ⟨bG, oG, rfl, hbG, hcG⟩ := (HG3.out.later HBW.out).cell hp2
          have cG0 := hcG _ hp2
          obtain ⟨a6, c6, rfl⟩ := owns_form HS.out.aut.fn
          have hsi : ((p1 : Nat) : Int) < (F.length : Int) := by omega
          have hsj : ((p2 : Nat) : Int) < (F2.length : Int) := by omega
          clear hcF hcG
          generalize F2.getD p2 false = fb2 at *
          generalize F.getD p1 false = fb1 at *
          cases fb1
          case false =>
            rw [HFI.out, Bool.false_and] at HPR
            clear HFI
            go_upto_region 20 with fail
            refine region_tail 23 (fun W => Below wr.heap.size wr W) (fun W W2 => Below W.heap.size W W2) (fun u => by simp only [List.take_succ_cons, List.take_zero, fPut, Act.put, List.setIfInBounds_toArray, List.set_cons_succ, List.set_cons_zero, Nat.zero_add, Nat.reduceAdd]; rfl) (by kernel_rfl) (by kernel_rfl) (by kernel_rfl) (by kernel_rfl) (by kernel_rfl) (by kernel_rfl) (by kernel_rfl) (Below.drew (Below.refl _ _)) ?_
            conv => arg 7; simp only [List.take_succ_cons, List.take_zero]
            apply each_read (fun _ => Below.refl _ _) rfl
            · intro u wv hC hf
              obtain ⟨z0, z1, z2⟩ := aut_cells (blk_later HX3.out (Below.now HBW.out hC))
              obtain ⟨y0, y1, y2⟩ := aut_cells (blk_later HY3.out (Below.now HBW.out hC))
              obtain ⟨m0, m1, m2⟩ := (HS.out.aut.later hC).cells
              have zs := (hC.cell hbS).trans cS0
              have zt := (hC.cell hbS).trans cS1
              have zf := (hC.cell hbF).trans cF0
              have zg := (hC.cell hbG).trans cG0
              clear hf
              go_simp
              try rfl
            apply each_read (fun _ => Below.refl _ _) rfl
            · intro u wv hC hf
              obtain ⟨z0, z1, z2⟩ := aut_cells (blk_later HX3.out (Below.now HBW.out hC))
              obtain ⟨y0, y1, y2⟩ := aut_cells (blk_later HY3.out (Below.now HBW.out hC))
              obtain ⟨m0, m1, m2⟩ := (HS.out.aut.later hC).cells
              have zs := (hC.cell hbS).trans cS0
              have zt := (hC.cell hbS).trans cS1
              have zf := (hC.cell hbF).trans cF0
              have zg := (hC.cell hbG).trans cG0
              obtain ⟨d0_0, -⟩ := hf
              have e0 : u 0 = _ := d0_0 rfl
              clear d0_0
              go_simp
              try rfl
            conv => arg 8; simp only [List.cons_append, List.nil_append]
            apply each_read (fun _ => Below.refl _ _) rfl
            · intro u wv hC hf
              obtain ⟨z0, z1, z2⟩ := aut_cells (blk_later HX3.out (Below.now HBW.out hC))
              obtain ⟨y0, y1, y2⟩ := aut_cells (blk_later HY3.out (Below.now HBW.out hC))
              obtain ⟨m0, m1, m2⟩ := (HS.out.aut.later hC).cells
              have zs := (hC.cell hbS).trans cS0
              have zt := (hC.cell hbS).trans cS1
              have zf := (hC.cell hbF).trans cF0
              have zg := (hC.cell hbG).trans cG0
              clear hf
              go_simp
              try rfl
            conv => arg 8; simp only [List.cons_append, List.nil_append]
            apply each_read (fun _ => Below.refl _ _) rfl
            · intro u wv hC hf
              obtain ⟨z0, z1, z2⟩ := aut_cells (blk_later HX3.out (Below.now HBW.out hC))
              obtain ⟨y0, y1, y2⟩ := aut_cells (blk_later HY3.out (Below.now HBW.out hC))
              obtain ⟨m0, m1, m2⟩ := (HS.out.aut.later hC).cells
              have zs := (hC.cell hbS).trans cS0
              have zt := (hC.cell hbS).trans cS1
              have zf := (hC.cell hbF).trans cF0
              have zg := (hC.cell hbG).trans cG0
              obtain ⟨d2_0, -⟩ := hf
              have e2 : u 2 = _ := d2_0 rfl
              clear d2_0
              go_simp
              try rfl
            conv => arg 8; simp only [List.cons_append, List.nil_append]
            apply each_read (fun _ => Below.refl _ _) rfl
            · intro u wv hC hf
              obtain ⟨z0, z1, z2⟩ := aut_cells (blk_later HX3.out (Below.now HBW.out hC))
              obtain ⟨y0, y1, y2⟩ := aut_cells (blk_later HY3.out (Below.now HBW.out hC))
              obtain ⟨m0, m1, m2⟩ := (HS.out.aut.later hC).cells
              have zs := (hC.cell hbS).trans cS0
              have zt := (hC.cell hbS).trans cS1
              have zf := (hC.cell hbF).trans cF0
              have zg := (hC.cell hbG).trans cG0
              clear hf
              go_simp
              try rfl
            conv => arg 8; simp only [List.cons_append, List.nil_append]
            apply each_read (fun _ => Below.refl _ _) rfl
            · intro u wv hC hf
              obtain ⟨z0, z1, z2⟩ := aut_cells (blk_later HX3.out (Below.now HBW.out hC))
              obtain ⟨y0, y1, y2⟩ := aut_cells (blk_later HY3.out (Below.now HBW.out hC))
              obtain ⟨m0, m1, m2⟩ := (HS.out.aut.later hC).cells
              have zs := (hC.cell hbS).trans cS0
              have zt := (hC.cell hbS).trans cS1
              have zf := (hC.cell hbF).trans cF0
              have zg := (hC.cell hbG).trans cG0
              clear hf
              go_simp
              try rfl
            conv => arg 8; simp only [List.cons_append, List.nil_append]
            apply each_read (fun _ => Below.refl _ _) rfl
            · intro u wv hC hf
              obtain ⟨z0, z1, z2⟩ := aut_cells (blk_later HX3.out (Below.now HBW.out hC))
              obtain ⟨y0, y1, y2⟩ := aut_cells (blk_later HY3.out (Below.now HBW.out hC))
              obtain ⟨m0, m1, m2⟩ := (HS.out.aut.later hC).cells
              have zs := (hC.cell hbS).trans cS0
              have zt := (hC.cell hbS).trans cS1
              have zf := (hC.cell hbF).trans cF0
              have zg := (hC.cell hbG).trans cG0
              obtain ⟨d4_0, d5_1, -⟩ := hf
              have e4 : u 4 = _ := d4_0 rfl
              clear d4_0
              have e5 : u 5 = _ := d5_1 rfl
              clear d5_1
              go_simp
              try rfl
            conv => arg 8; simp only [List.cons_append, List.nil_append]
            apply each_read (fun _ => Below.refl _ _) rfl
            · intro u wv hC hf
              obtain ⟨z0, z1, z2⟩ := aut_cells (blk_later HX3.out (Below.now HBW.out hC))
              obtain ⟨y0, y1, y2⟩ := aut_cells (blk_later HY3.out (Below.now HBW.out hC))
              obtain ⟨m0, m1, m2⟩ := (HS.out.aut.later hC).cells
              have zs := (hC.cell hbS).trans cS0
              have zt := (hC.cell hbS).trans cS1
              have zf := (hC.cell hbF).trans cF0
              have zg := (hC.cell hbG).trans cG0
              obtain ⟨d6_0, -⟩ := hf
              have e6 : u 6 = _ := d6_0 rfl
              clear d6_0
              go_simp
              try rfl
            conv => arg 8; simp only [List.cons_append, List.nil_append]
            apply each_read (fun _ => Below.refl _ _) rfl
            · intro u wv hC hf
              obtain ⟨z0, z1, z2⟩ := aut_cells (blk_later HX3.out (Below.now HBW.out hC))
              obtain ⟨y0, y1, y2⟩ := aut_cells (blk_later HY3.out (Below.now HBW.out hC))
              obtain ⟨m0, m1, m2⟩ := (HS.out.aut.later hC).cells
              have zs := (hC.cell hbS).trans cS0
              have zt := (hC.cell hbS).trans cS1
              have zf := (hC.cell hbF).trans cF0
              have zg := (hC.cell hbG).trans cG0
              obtain ⟨d7_0, -⟩ := hf
              have e7 : u 7 = _ := d7_0 rfl
              clear d7_0
              go_simp
              try rfl
            conv => arg 8; simp only [List.cons_append, List.nil_append]
            apply each_read (fun _ => Below.refl _ _) rfl
            · intro u wv hC hf
              obtain ⟨z0, z1, z2⟩ := aut_cells (blk_later HX3.out (Below.now HBW.out hC))
              obtain ⟨y0, y1, y2⟩ := aut_cells (blk_later HY3.out (Below.now HBW.out hC))
              obtain ⟨m0, m1, m2⟩ := (HS.out.aut.later hC).cells
              have zs := (hC.cell hbS).trans cS0
              have zt := (hC.cell hbS).trans cS1
              have zf := (hC.cell hbF).trans cF0
              have zg := (hC.cell hbG).trans cG0
              obtain ⟨d3_0, d8_1, -⟩ := hf
              have e3 : u 3 = _ := d3_0 rfl
              clear d3_0
              have e8 : u 8 = _ := d8_1 rfl
              clear d8_1
              go_simp
              try rfl
            conv => arg 8; simp only [List.cons_append, List.nil_append]
            apply each_read (fun _ => Below.refl _ _) rfl
            · intro u wv hC hf
              obtain ⟨z0, z1, z2⟩ := aut_cells (blk_later HX3.out (Below.now HBW.out hC))
              obtain ⟨y0, y1, y2⟩ := aut_cells (blk_later HY3.out (Below.now HBW.out hC))
              obtain ⟨m0, m1, m2⟩ := (HS.out.aut.later hC).cells
              have zs := (hC.cell hbS).trans cS0
              have zt := (hC.cell hbS).trans cS1
              have zf := (hC.cell hbF).trans cF0
              have zg := (hC.cell hbG).trans cG0
              obtain ⟨d9_0, -⟩ := hf
              have e9 : u 9 = _ := d9_0 rfl
              clear d9_0
              go_simp
              try rfl
            conv => arg 8; simp only [List.cons_append, List.nil_append]
            apply each_read (fun _ => Below.refl _ _) rfl
            · intro u wv hC hf
              obtain ⟨z0, z1, z2⟩ := aut_cells (blk_later HX3.out (Below.now HBW.out hC))
              obtain ⟨y0, y1, y2⟩ := aut_cells (blk_later HY3.out (Below.now HBW.out hC))
              obtain ⟨m0, m1, m2⟩ := (HS.out.aut.later hC).cells
              have zs := (hC.cell hbS).trans cS0
              have zt := (hC.cell hbS).trans cS1
              have zf := (hC.cell hbF).trans cF0
              have zg := (hC.cell hbG).trans cG0
              obtain ⟨d10_0, -⟩ := hf
              have e10 : u 10 = _ := d10_0 rfl
              clear d10_0
              go_simp
              try rfl
            conv => arg 8; simp only [List.cons_append, List.nil_append]
            refine each_off ?_ ?_
            · intro u wv hC hf
              obtain ⟨d11_0, -⟩ := hf
              have e11 : u 11 = _ := d11_0 rfl
              clear d11_0
              exact wanted_at rfl rfl rfl e11 rfl
            conv => arg 8; simp only [List.cons_append, List.nil_append]
            refine each_off ?_ ?_
            · intro u wv hC hf
              obtain ⟨d12_0, d11_1, -⟩ := hf
              have e12 : u 12 = _ := d12_0 rfl
              clear d12_0
              have e11 : u 11 = _ := d11_1 rfl
              clear d11_1
              exact wanted_at rfl rfl rfl e11 rfl
            conv => arg 8; simp only [List.cons_append, List.nil_append]
            refine each_off ?_ ?_
            · intro u wv hC hf
              obtain ⟨d11_0, -⟩ := hf
              have e11 : u 11 = _ := d11_0 rfl
              clear d11_0
              exact wanted_at rfl rfl rfl e11 rfl
            conv => arg 8; simp only [List.cons_append, List.nil_append]
            refine each_off ?_ ?_
            · intro u wv hC hf
              obtain ⟨d11_0, -⟩ := hf
              have e11 : u 11 = _ := d11_0 rfl
              clear d11_0
              exact wanted_at rfl rfl rfl e11 rfl
            conv => arg 8; simp only [List.cons_append, List.nil_append]
            refine each_off ?_ ?_
            · intro u wv hC hf
              obtain ⟨d14_0, d15_1, d11_2, -⟩ := hf
              have e14 : u 14 = _ := d14_0 rfl
              clear d14_0
              have e15 : u 15 = _ := d15_1 rfl
              clear d15_1
              have e11 : u 11 = _ := d11_2 rfl
              clear d11_2
              exact wanted_at rfl rfl rfl e11 rfl
            conv => arg 8; simp only [List.cons_append, List.nil_append]
            refine each_off ?_ ?_
            · intro u wv hC hf
              obtain ⟨d16_0, d11_1, -⟩ := hf
              have e16 : u 16 = _ := d16_0 rfl
              clear d16_0
              have e11 : u 11 = _ := d11_1 rfl
              clear d11_1
              exact wanted_at rfl rfl rfl e11 rfl
            conv => arg 8; simp only [List.cons_append, List.nil_append]
            refine each_off ?_ ?_
            · intro u wv hC hf
              obtain ⟨d17_0, d11_1, -⟩ := hf
              have e17 : u 17 = _ := d17_0 rfl
              clear d17_0
              have e11 : u 11 = _ := d11_1 rfl
              clear d11_1
              exact wanted_at rfl rfl rfl e11 rfl
            conv => arg 8; simp only [List.cons_append, List.nil_append]
            refine each_off ?_ ?_
            · intro u wv hC hf
              obtain ⟨d13_0, d18_1, d11_2, -⟩ := hf
              have e13 : u 13 = _ := d13_0 rfl
              clear d13_0
              have e18 : u 18 = _ := d18_1 rfl
              clear d18_1
              have e11 : u 11 = _ := d11_2 rfl
              clear d11_2
              exact wanted_at rfl rfl rfl e11 rfl
            conv => arg 8; simp only [List.cons_append, List.nil_append]
            refine each_off ?_ ?_
            · intro u wv hC hf
              obtain ⟨d19_0, d11_1, -⟩ := hf
              have e19 : u 19 = _ := d19_0 rfl
              clear d19_0
              have e11 : u 11 = _ := d11_1 rfl
              clear d11_1
              exact wanted_at rfl rfl rfl e11 rfl
            conv => arg 8; simp only [List.cons_append, List.nil_append]
            apply each_read (fun _ => Below.refl _ _) rfl
            · intro u wv hC hf
              obtain ⟨z0, z1, z2⟩ := aut_cells (blk_later HX3.out (Below.now HBW.out hC))
              obtain ⟨y0, y1, y2⟩ := aut_cells (blk_later HY3.out (Below.now HBW.out hC))
              obtain ⟨m0, m1, m2⟩ := (HS.out.aut.later hC).cells
              have zs := (hC.cell hbS).trans cS0
              have zt := (hC.cell hbS).trans cS1
              have zf := (hC.cell hbF).trans cF0
              have zg := (hC.cell hbG).trans cG0
              obtain ⟨d11_0, d20_1, -⟩ := hf
              have e11 : u 11 = _ := d11_0 rfl
              clear d11_0
              have e20 : u 20 = _ := d20_1 rfl
              clear d20_1
              go_simp
              try rfl
            conv => arg 8; simp only [List.cons_append, List.nil_append]
            refine each_do (fun v wv => ∃ gm, v = .slice (some ⟨gm, 0, none⟩) 1 1 ∧ wv.cell? ⟨gm, 0, none⟩ = some (.bool false)) (fun v w w2 _ hR ⟨gm, e, hc⟩ => ⟨gm, e, (hR.cell (World.block_lt_of_cell? _ _ hc)).trans hc⟩) rfl ?_ ?_
            · intro u wv hC hf
              obtain ⟨z0, z1, z2⟩ := aut_cells (blk_later HX3.out (Below.now HBW.out hC))
              obtain ⟨y0, y1, y2⟩ := aut_cells (blk_later HY3.out (Below.now HBW.out hC))
              obtain ⟨m0, m1, m2⟩ := (HS.out.aut.later hC).cells
              have zs := (hC.cell hbS).trans cS0
              have zt := (hC.cell hbS).trans cS1
              have zf := (hC.cell hbF).trans cF0
              have zg := (hC.cell hbG).trans cG0
              obtain ⟨d21_0, -⟩ := hf
              have e21 : u 21 = _ := d21_0 rfl
              clear d21_0
              refine ⟨.slice (some ⟨wv.heap.size, 0, none⟩) 1 1, wv.alloc (.cells #[.bool false] 4), ?_, Below.alloc hC hC.size _, alloc_belowS _ _, wv.heap.size, rfl, by (rw [World.cell?_alloc_new]; rfl)⟩
              go_simp
              try rfl
            intro u w7 d7 hall
            obtain ⟨a0, a1, a2, a3, a4, a5, a6, a7, a8, a9, a10, a11, a12, a13, a14, a15, a16, a17, a18, a19, a20, a21, a22, -⟩ := hall
            have e0 : u 0 = _ := a0
            clear a0
            have e1 : u 1 = _ := a1
            clear a1
            have e2 : u 2 = _ := a2
            clear a2
            have e3 : u 3 = _ := a3
            clear a3
            have e4 : u 4 = _ := a4
            clear a4
            have e5 : u 5 = _ := a5
            clear a5
            have e6 : u 6 = _ := a6
            clear a6
            have e7 : u 7 = _ := a7
            clear a7
            have e8 : u 8 = _ := a8
            clear a8
            have e9 : u 9 = _ := a9
            clear a9
            have e10 : u 10 = _ := a10
            clear a10
            have e11 : u 11 = _ := a11
            clear a11
            have e12 : u 12 = _ := a12
            clear a12
            have e13 : u 13 = _ := a13
            clear a13
            have e14 : u 14 = _ := a14
            clear a14
            have e15 : u 15 = _ := a15
            clear a15
            have e16 : u 16 = _ := a16
            clear a16
            have e17 : u 17 = _ := a17
            clear a17
            have e18 : u 18 = _ := a18
            clear a18
            have e19 : u 19 = _ := a19
            clear a19
            have e20 : u 20 = _ := a20
            clear a20
            have e21 : u 21 = _ := a21
            clear a21
            obtain ⟨gm, e22, r22⟩ := a22
            replace e22 : u 22 = _ := e22
            change wpList _ _ _ (List.drop 23 _) _ _
            simp only [List.drop_succ_cons, List.drop_zero]
            simp only [e0, e1, e2, e3, e4, e5, e6, e7, e8, e9, e10, e11, e12, e13, e14, e15, e16, e17, e18, e19, e20, e21, e22]
            clear e0 e1 e2 e3 e4 e5 e6 e7 e8 e9 e10 e11 e12 e13 e14 e15 e16 e17 e18 e19 e20 e21 e22
            have HS7 := Lib.hid (HS.out.later d7)
            have HNF := Lib.hid HS7.out.aut.fn
            have HLE : Hid (w3.heap.size + 1 + 1 ≤ w7.heap.size) := Lib.hid HS7.out.aut.lt
            have HRC : Hid (∀ j u, [Value.bool false][j]? = some u → w7.cell? ((⟨gm, 0, none⟩ : Addr).add j) = some u) := Lib.hid (fun j u hu => by
              match j, hu with
              | 0, hu =>
                obtain rfl := Option.some.inj hu
                exact r22
              | j + 1, hu => cases hu)
            have HH1 := Lib.hid (HIB.out false)
            refine wpList_appB rfl (.tmp 93) (.tmp 114) rfl Tryz.underlying28 Tryz.infoBool rfl (by decide) rfl HNF.out HLE.out rfl (m := 1) (news := [.bool false]) HRC.out rfl (by decide) HH1.out (by unfold maxLen; omega) (by omega) ?_
            intro g4 c4 w9 ho4 hg4 hr4
            have HQ := Lib.hid (HS7.out.putF (x := false) hg4 ho4 (by
              rcases hr4 with e | e
              · exact .inl e.symm
              · exact .inr (by show some g4 = some _; rw [e])))
            obtain ⟨q0, q1, q2, qf0, qf1, qf2⟩ := aut_facts (HS7.out.aut.grownF hg4)
            clear ho4 hg4 hr4 r22 d7
            go_upto_region 21 with fail
            clear q0 q1 q2 qf0 qf1 qf2
            generalize w9.setCell ⟨w3.heap.size + 1, 2, none⟩ (.slice (some ⟨g4, 0, none⟩) (fin.length + 1) c4) = w11 at *
            by_cases hbig : S.length ≤ 80
            · have hb1 : ¬ (80 : Int) < (S.length : Int) := by omega
              go_wp2_with fail
              go_roundw
              case rel => exact ⟨i + 1, S, _, _, _, _, by go_num, by omega, hbig, HMP, HPR, HQ⟩
              case measure => simp [intOf]; omega
            · have hb1 : (80 : Int) < (S.length : Int) := by omega
              have HZ9 := Lib.hid (blk_later HZ3.out HQ.out.aut.bel)
              obtain ⟨m0, m1, m2, mf0, mf1, mf2⟩ := aut_facts HZ9.out
              obtain ⟨u0, u1, u2⟩ := aut_cells (aut_three HZ9.out (.int .i64 0) (.slice none 0 0) (.slice none 0 0))
              have FR : Hid (RetMe x N N2 F F2 w (.returned (.tuple #[.agg #[.int .i64 0, .slice none 0 0, .slice none 0 0], .bool false])) (((w11.setCell ⟨w.heap.size + 2, 0, none⟩ (.int .i64 0)).setCell ⟨w.heap.size + 2, 1, none⟩ (.slice none 0 0)).setCell ⟨w.heap.size + 2, 2, none⟩ (.slice none 0 0))) := Lib.hid (.inl ⟨rfl, (((Below.now HB3.out HQ.out.aut.bel).setCell (p := ⟨w.heap.size + 2, 0, none⟩) (by show w.heap.size ≤ w.heap.size + 2; omega) _).setCell (p := ⟨w.heap.size + 2, 1, none⟩) (by show w.heap.size ≤ w.heap.size + 2; omega) _).setCell (p := ⟨w.heap.size + 2, 2, none⟩) (by show w.heap.size ≤ w.heap.size + 2; omega) _⟩)
              go_wp2_with fail
              refine bodyPost_ret (v := .tuple #[.agg #[.int .i64 0, .slice none 0 0, .slice none 0 0], .bool false]) ?_ rfl FR.out
              simp [results, Tryz.results17, go_sem, u0, u1, u2]
          case true =>
            rw [HFI.out, Bool.true_and] at HPR
            clear HFI
            go_upto_region 20 with fail
            refine region_tail 23 (fun W => Below wr.heap.size wr W) (fun W W2 => Below W.heap.size W W2) (fun u => by simp only [List.take_succ_cons, List.take_zero, fPut, Act.put, List.setIfInBounds_toArray, List.set_cons_succ, List.set_cons_zero, Nat.zero_add, Nat.reduceAdd]; rfl) (by kernel_rfl) (by kernel_rfl) (by kernel_rfl) (by kernel_rfl) (by kernel_rfl) (by kernel_rfl) (by kernel_rfl) (Below.drew (Below.refl _ _)) ?_
            conv => arg 7; simp only [List.take_succ_cons, List.take_zero]
            apply each_read (fun _ => Below.refl _ _) rfl
            · intro u wv hC hf
              obtain ⟨z0, z1, z2⟩ := aut_cells (blk_later HX3.out (Below.now HBW.out hC))
              obtain ⟨y0, y1, y2⟩ := aut_cells (blk_later HY3.out (Below.now HBW.out hC))
              obtain ⟨m0, m1, m2⟩ := (HS.out.aut.later hC).cells
              have zs := (hC.cell hbS).trans cS0
              have zt := (hC.cell hbS).trans cS1
              have zf := (hC.cell hbF).trans cF0
              have zg := (hC.cell hbG).trans cG0
              clear hf
              go_simp
              try rfl
            apply each_read (fun _ => Below.refl _ _) rfl
            · intro u wv hC hf
              obtain ⟨z0, z1, z2⟩ := aut_cells (blk_later HX3.out (Below.now HBW.out hC))
              obtain ⟨y0, y1, y2⟩ := aut_cells (blk_later HY3.out (Below.now HBW.out hC))
              obtain ⟨m0, m1, m2⟩ := (HS.out.aut.later hC).cells
              have zs := (hC.cell hbS).trans cS0
              have zt := (hC.cell hbS).trans cS1
              have zf := (hC.cell hbF).trans cF0
              have zg := (hC.cell hbG).trans cG0
              obtain ⟨d0_0, -⟩ := hf
              have e0 : u 0 = _ := d0_0 rfl
              clear d0_0
              go_simp
              try rfl
            conv => arg 8; simp only [List.cons_append, List.nil_append]
            apply each_read (fun _ => Below.refl _ _) rfl
            · intro u wv hC hf
              obtain ⟨z0, z1, z2⟩ := aut_cells (blk_later HX3.out (Below.now HBW.out hC))
              obtain ⟨y0, y1, y2⟩ := aut_cells (blk_later HY3.out (Below.now HBW.out hC))
              obtain ⟨m0, m1, m2⟩ := (HS.out.aut.later hC).cells
              have zs := (hC.cell hbS).trans cS0
              have zt := (hC.cell hbS).trans cS1
              have zf := (hC.cell hbF).trans cF0
              have zg := (hC.cell hbG).trans cG0
              clear hf
              go_simp
              try rfl
            conv => arg 8; simp only [List.cons_append, List.nil_append]
            apply each_read (fun _ => Below.refl _ _) rfl
            · intro u wv hC hf
              obtain ⟨z0, z1, z2⟩ := aut_cells (blk_later HX3.out (Below.now HBW.out hC))
              obtain ⟨y0, y1, y2⟩ := aut_cells (blk_later HY3.out (Below.now HBW.out hC))
              obtain ⟨m0, m1, m2⟩ := (HS.out.aut.later hC).cells
              have zs := (hC.cell hbS).trans cS0
              have zt := (hC.cell hbS).trans cS1
              have zf := (hC.cell hbF).trans cF0
              have zg := (hC.cell hbG).trans cG0
              obtain ⟨d2_0, -⟩ := hf
              have e2 : u 2 = _ := d2_0 rfl
              clear d2_0
              go_simp
              try rfl
            conv => arg 8; simp only [List.cons_append, List.nil_append]
            apply each_read (fun _ => Below.refl _ _) rfl
            · intro u wv hC hf
              obtain ⟨z0, z1, z2⟩ := aut_cells (blk_later HX3.out (Below.now HBW.out hC))
              obtain ⟨y0, y1, y2⟩ := aut_cells (blk_later HY3.out (Below.now HBW.out hC))
              obtain ⟨m0, m1, m2⟩ := (HS.out.aut.later hC).cells
              have zs := (hC.cell hbS).trans cS0
              have zt := (hC.cell hbS).trans cS1
              have zf := (hC.cell hbF).trans cF0
              have zg := (hC.cell hbG).trans cG0
              clear hf
              go_simp
              try rfl
            conv => arg 8; simp only [List.cons_append, List.nil_append]
            apply each_read (fun _ => Below.refl _ _) rfl
            · intro u wv hC hf
              obtain ⟨z0, z1, z2⟩ := aut_cells (blk_later HX3.out (Below.now HBW.out hC))
              obtain ⟨y0, y1, y2⟩ := aut_cells (blk_later HY3.out (Below.now HBW.out hC))
              obtain ⟨m0, m1, m2⟩ := (HS.out.aut.later hC).cells
              have zs := (hC.cell hbS).trans cS0
              have zt := (hC.cell hbS).trans cS1
              have zf := (hC.cell hbF).trans cF0
              have zg := (hC.cell hbG).trans cG0
              clear hf
              go_simp
              try rfl
            conv => arg 8; simp only [List.cons_append, List.nil_append]
            apply each_read (fun _ => Below.refl _ _) rfl
            · intro u wv hC hf
              obtain ⟨z0, z1, z2⟩ := aut_cells (blk_later HX3.out (Below.now HBW.out hC))
              obtain ⟨y0, y1, y2⟩ := aut_cells (blk_later HY3.out (Below.now HBW.out hC))
              obtain ⟨m0, m1, m2⟩ := (HS.out.aut.later hC).cells
              have zs := (hC.cell hbS).trans cS0
              have zt := (hC.cell hbS).trans cS1
              have zf := (hC.cell hbF).trans cF0
              have zg := (hC.cell hbG).trans cG0
              obtain ⟨d4_0, d5_1, -⟩ := hf
              have e4 : u 4 = _ := d4_0 rfl
              clear d4_0
              have e5 : u 5 = _ := d5_1 rfl
              clear d5_1
              go_simp
              try rfl
            conv => arg 8; simp only [List.cons_append, List.nil_append]
            apply each_read (fun _ => Below.refl _ _) rfl
            · intro u wv hC hf
              obtain ⟨z0, z1, z2⟩ := aut_cells (blk_later HX3.out (Below.now HBW.out hC))
              obtain ⟨y0, y1, y2⟩ := aut_cells (blk_later HY3.out (Below.now HBW.out hC))
              obtain ⟨m0, m1, m2⟩ := (HS.out.aut.later hC).cells
              have zs := (hC.cell hbS).trans cS0
              have zt := (hC.cell hbS).trans cS1
              have zf := (hC.cell hbF).trans cF0
              have zg := (hC.cell hbG).trans cG0
              obtain ⟨d6_0, -⟩ := hf
              have e6 : u 6 = _ := d6_0 rfl
              clear d6_0
              go_simp
              try rfl
            conv => arg 8; simp only [List.cons_append, List.nil_append]
            apply each_read (fun _ => Below.refl _ _) rfl
            · intro u wv hC hf
              obtain ⟨z0, z1, z2⟩ := aut_cells (blk_later HX3.out (Below.now HBW.out hC))
              obtain ⟨y0, y1, y2⟩ := aut_cells (blk_later HY3.out (Below.now HBW.out hC))
              obtain ⟨m0, m1, m2⟩ := (HS.out.aut.later hC).cells
              have zs := (hC.cell hbS).trans cS0
              have zt := (hC.cell hbS).trans cS1
              have zf := (hC.cell hbF).trans cF0
              have zg := (hC.cell hbG).trans cG0
              obtain ⟨d7_0, -⟩ := hf
              have e7 : u 7 = _ := d7_0 rfl
              clear d7_0
              go_simp
              try rfl
            conv => arg 8; simp only [List.cons_append, List.nil_append]
            apply each_read (fun _ => Below.refl _ _) rfl
            · intro u wv hC hf
              obtain ⟨z0, z1, z2⟩ := aut_cells (blk_later HX3.out (Below.now HBW.out hC))
              obtain ⟨y0, y1, y2⟩ := aut_cells (blk_later HY3.out (Below.now HBW.out hC))
              obtain ⟨m0, m1, m2⟩ := (HS.out.aut.later hC).cells
              have zs := (hC.cell hbS).trans cS0
              have zt := (hC.cell hbS).trans cS1
              have zf := (hC.cell hbF).trans cF0
              have zg := (hC.cell hbG).trans cG0
              obtain ⟨d3_0, d8_1, -⟩ := hf
              have e3 : u 3 = _ := d3_0 rfl
              clear d3_0
              have e8 : u 8 = _ := d8_1 rfl
              clear d8_1
              go_simp
              try rfl
            conv => arg 8; simp only [List.cons_append, List.nil_append]
            apply each_read (fun _ => Below.refl _ _) rfl
            · intro u wv hC hf
              obtain ⟨z0, z1, z2⟩ := aut_cells (blk_later HX3.out (Below.now HBW.out hC))
              obtain ⟨y0, y1, y2⟩ := aut_cells (blk_later HY3.out (Below.now HBW.out hC))
              obtain ⟨m0, m1, m2⟩ := (HS.out.aut.later hC).cells
              have zs := (hC.cell hbS).trans cS0
              have zt := (hC.cell hbS).trans cS1
              have zf := (hC.cell hbF).trans cF0
              have zg := (hC.cell hbG).trans cG0
              obtain ⟨d9_0, -⟩ := hf
              have e9 : u 9 = _ := d9_0 rfl
              clear d9_0
              go_simp
              try rfl
            conv => arg 8; simp only [List.cons_append, List.nil_append]
            apply each_read (fun _ => Below.refl _ _) rfl
            · intro u wv hC hf
              obtain ⟨z0, z1, z2⟩ := aut_cells (blk_later HX3.out (Below.now HBW.out hC))
              obtain ⟨y0, y1, y2⟩ := aut_cells (blk_later HY3.out (Below.now HBW.out hC))
              obtain ⟨m0, m1, m2⟩ := (HS.out.aut.later hC).cells
              have zs := (hC.cell hbS).trans cS0
              have zt := (hC.cell hbS).trans cS1
              have zf := (hC.cell hbF).trans cF0
              have zg := (hC.cell hbG).trans cG0
              obtain ⟨d10_0, -⟩ := hf
              have e10 : u 10 = _ := d10_0 rfl
              clear d10_0
              go_simp
              try rfl
            conv => arg 8; simp only [List.cons_append, List.nil_append]
            apply each_readG (fun _ => Below.refl _ _)
            · intro u wv hC hf
              obtain ⟨z0, z1, z2⟩ := aut_cells (blk_later HX3.out (Below.now HBW.out hC))
              obtain ⟨y0, y1, y2⟩ := aut_cells (blk_later HY3.out (Below.now HBW.out hC))
              obtain ⟨m0, m1, m2⟩ := (HS.out.aut.later hC).cells
              have zs := (hC.cell hbS).trans cS0
              have zt := (hC.cell hbS).trans cS1
              have zf := (hC.cell hbF).trans cF0
              have zg := (hC.cell hbG).trans cG0
              obtain ⟨d11_0, -⟩ := hf
              have e11 : u 11 = _ := d11_0 rfl
              clear d11_0
              refine ⟨wanted_at rfl rfl rfl e11 rfl, ?_⟩
              go_simp
              try rfl
            conv => arg 8; simp only [List.cons_append, List.nil_append]
            apply each_readG (fun _ => Below.refl _ _)
            · intro u wv hC hf
              obtain ⟨z0, z1, z2⟩ := aut_cells (blk_later HX3.out (Below.now HBW.out hC))
              obtain ⟨y0, y1, y2⟩ := aut_cells (blk_later HY3.out (Below.now HBW.out hC))
              obtain ⟨m0, m1, m2⟩ := (HS.out.aut.later hC).cells
              have zs := (hC.cell hbS).trans cS0
              have zt := (hC.cell hbS).trans cS1
              have zf := (hC.cell hbF).trans cF0
              have zg := (hC.cell hbG).trans cG0
              obtain ⟨d12_0, d11_1, -⟩ := hf
              have e12 : u 12 = _ := d12_0 rfl
              clear d12_0
              have e11 : u 11 = _ := d11_1 rfl
              clear d11_1
              refine ⟨wanted_at rfl rfl rfl e11 rfl, ?_⟩
              go_simp
              try rfl
            conv => arg 8; simp only [List.cons_append, List.nil_append]
            apply each_readG (fun _ => Below.refl _ _)
            · intro u wv hC hf
              obtain ⟨z0, z1, z2⟩ := aut_cells (blk_later HX3.out (Below.now HBW.out hC))
              obtain ⟨y0, y1, y2⟩ := aut_cells (blk_later HY3.out (Below.now HBW.out hC))
              obtain ⟨m0, m1, m2⟩ := (HS.out.aut.later hC).cells
              have zs := (hC.cell hbS).trans cS0
              have zt := (hC.cell hbS).trans cS1
              have zf := (hC.cell hbF).trans cF0
              have zg := (hC.cell hbG).trans cG0
              obtain ⟨d11_0, -⟩ := hf
              have e11 : u 11 = _ := d11_0 rfl
              clear d11_0
              refine ⟨wanted_at rfl rfl rfl e11 rfl, ?_⟩
              go_simp
              try rfl
            conv => arg 8; simp only [List.cons_append, List.nil_append]
            apply each_readG (fun _ => Below.refl _ _)
            · intro u wv hC hf
              obtain ⟨z0, z1, z2⟩ := aut_cells (blk_later HX3.out (Below.now HBW.out hC))
              obtain ⟨y0, y1, y2⟩ := aut_cells (blk_later HY3.out (Below.now HBW.out hC))
              obtain ⟨m0, m1, m2⟩ := (HS.out.aut.later hC).cells
              have zs := (hC.cell hbS).trans cS0
              have zt := (hC.cell hbS).trans cS1
              have zf := (hC.cell hbF).trans cF0
              have zg := (hC.cell hbG).trans cG0
              obtain ⟨d11_0, -⟩ := hf
              have e11 : u 11 = _ := d11_0 rfl
              clear d11_0
              refine ⟨wanted_at rfl rfl rfl e11 rfl, ?_⟩
              go_simp
              try rfl
            conv => arg 8; simp only [List.cons_append, List.nil_append]
            apply each_readG (fun _ => Below.refl _ _)
            · intro u wv hC hf
              obtain ⟨z0, z1, z2⟩ := aut_cells (blk_later HX3.out (Below.now HBW.out hC))
              obtain ⟨y0, y1, y2⟩ := aut_cells (blk_later HY3.out (Below.now HBW.out hC))
              obtain ⟨m0, m1, m2⟩ := (HS.out.aut.later hC).cells
              have zs := (hC.cell hbS).trans cS0
              have zt := (hC.cell hbS).trans cS1
              have zf := (hC.cell hbF).trans cF0
              have zg := (hC.cell hbG).trans cG0
              obtain ⟨d14_0, d15_1, d11_2, -⟩ := hf
              have e14 : u 14 = _ := d14_0 rfl
              clear d14_0
              have e15 : u 15 = _ := d15_1 rfl
              clear d15_1
              have e11 : u 11 = _ := d11_2 rfl
              clear d11_2
              refine ⟨wanted_at rfl rfl rfl e11 rfl, ?_⟩
              go_simp
              try rfl
            conv => arg 8; simp only [List.cons_append, List.nil_append]
            apply each_readG (fun _ => Below.refl _ _)
            · intro u wv hC hf
              obtain ⟨z0, z1, z2⟩ := aut_cells (blk_later HX3.out (Below.now HBW.out hC))
              obtain ⟨y0, y1, y2⟩ := aut_cells (blk_later HY3.out (Below.now HBW.out hC))
              obtain ⟨m0, m1, m2⟩ := (HS.out.aut.later hC).cells
              have zs := (hC.cell hbS).trans cS0
              have zt := (hC.cell hbS).trans cS1
              have zf := (hC.cell hbF).trans cF0
              have zg := (hC.cell hbG).trans cG0
              obtain ⟨d16_0, d11_1, -⟩ := hf
              have e16 : u 16 = _ := d16_0 rfl
              clear d16_0
              have e11 : u 11 = _ := d11_1 rfl
              clear d11_1
              refine ⟨wanted_at rfl rfl rfl e11 rfl, ?_⟩
              go_simp
              try rfl
            conv => arg 8; simp only [List.cons_append, List.nil_append]
            apply each_readG (fun _ => Below.refl _ _)
            · intro u wv hC hf
              obtain ⟨z0, z1, z2⟩ := aut_cells (blk_later HX3.out (Below.now HBW.out hC))
              obtain ⟨y0, y1, y2⟩ := aut_cells (blk_later HY3.out (Below.now HBW.out hC))
              obtain ⟨m0, m1, m2⟩ := (HS.out.aut.later hC).cells
              have zs := (hC.cell hbS).trans cS0
              have zt := (hC.cell hbS).trans cS1
              have zf := (hC.cell hbF).trans cF0
              have zg := (hC.cell hbG).trans cG0
              obtain ⟨d17_0, d11_1, -⟩ := hf
              have e17 : u 17 = _ := d17_0 rfl
              clear d17_0
              have e11 : u 11 = _ := d11_1 rfl
              clear d11_1
              refine ⟨wanted_at rfl rfl rfl e11 rfl, ?_⟩
              go_simp
              try rfl
            conv => arg 8; simp only [List.cons_append, List.nil_append]
            apply each_readG (fun _ => Below.refl _ _)
            · intro u wv hC hf
              obtain ⟨z0, z1, z2⟩ := aut_cells (blk_later HX3.out (Below.now HBW.out hC))
              obtain ⟨y0, y1, y2⟩ := aut_cells (blk_later HY3.out (Below.now HBW.out hC))
              obtain ⟨m0, m1, m2⟩ := (HS.out.aut.later hC).cells
              have zs := (hC.cell hbS).trans cS0
              have zt := (hC.cell hbS).trans cS1
              have zf := (hC.cell hbF).trans cF0
              have zg := (hC.cell hbG).trans cG0
              obtain ⟨d13_0, d18_1, d11_2, -⟩ := hf
              have e13 : u 13 = _ := d13_0 rfl
              clear d13_0
              have e18 : u 18 = _ := d18_1 rfl
              clear d18_1
              have e11 : u 11 = _ := d11_2 rfl
              clear d11_2
              refine ⟨wanted_at rfl rfl rfl e11 rfl, ?_⟩
              go_simp
              try rfl
            conv => arg 8; simp only [List.cons_append, List.nil_append]
            apply each_readG (fun _ => Below.refl _ _)
            · intro u wv hC hf
              obtain ⟨z0, z1, z2⟩ := aut_cells (blk_later HX3.out (Below.now HBW.out hC))
              obtain ⟨y0, y1, y2⟩ := aut_cells (blk_later HY3.out (Below.now HBW.out hC))
              obtain ⟨m0, m1, m2⟩ := (HS.out.aut.later hC).cells
              have zs := (hC.cell hbS).trans cS0
              have zt := (hC.cell hbS).trans cS1
              have zf := (hC.cell hbF).trans cF0
              have zg := (hC.cell hbG).trans cG0
              obtain ⟨d19_0, d11_1, -⟩ := hf
              have e19 : u 19 = _ := d19_0 rfl
              clear d19_0
              have e11 : u 11 = _ := d11_1 rfl
              clear d11_1
              refine ⟨wanted_at rfl rfl rfl e11 rfl, ?_⟩
              go_simp
              try rfl
            conv => arg 8; simp only [List.cons_append, List.nil_append]
            apply each_read (fun _ => Below.refl _ _) rfl
            · intro u wv hC hf
              obtain ⟨z0, z1, z2⟩ := aut_cells (blk_later HX3.out (Below.now HBW.out hC))
              obtain ⟨y0, y1, y2⟩ := aut_cells (blk_later HY3.out (Below.now HBW.out hC))
              obtain ⟨m0, m1, m2⟩ := (HS.out.aut.later hC).cells
              have zs := (hC.cell hbS).trans cS0
              have zt := (hC.cell hbS).trans cS1
              have zf := (hC.cell hbF).trans cF0
              have zg := (hC.cell hbG).trans cG0
              obtain ⟨d11_0, d20_1, -⟩ := hf
              have e11 : u 11 = _ := d11_0 rfl
              clear d11_0
              have e20 : u 20 = _ := d20_1 rfl
              clear d20_1
              go_simp
              try rfl
            conv => arg 8; simp only [List.cons_append, List.nil_append]
            refine each_do (fun v wv => ∃ gm, v = .slice (some ⟨gm, 0, none⟩) 1 1 ∧ wv.cell? ⟨gm, 0, none⟩ = some (.bool fb2)) (fun v w w2 _ hR ⟨gm, e, hc⟩ => ⟨gm, e, (hR.cell (World.block_lt_of_cell? _ _ hc)).trans hc⟩) rfl ?_ ?_
            · intro u wv hC hf
              obtain ⟨z0, z1, z2⟩ := aut_cells (blk_later HX3.out (Below.now HBW.out hC))
              obtain ⟨y0, y1, y2⟩ := aut_cells (blk_later HY3.out (Below.now HBW.out hC))
              obtain ⟨m0, m1, m2⟩ := (HS.out.aut.later hC).cells
              have zs := (hC.cell hbS).trans cS0
              have zt := (hC.cell hbS).trans cS1
              have zf := (hC.cell hbF).trans cF0
              have zg := (hC.cell hbG).trans cG0
              obtain ⟨d21_0, -⟩ := hf
              have e21 : u 21 = _ := d21_0 rfl
              clear d21_0
              refine ⟨.slice (some ⟨wv.heap.size, 0, none⟩) 1 1, wv.alloc (.cells #[.bool fb2] 4), ?_, Below.alloc hC hC.size _, alloc_belowS _ _, wv.heap.size, rfl, by (rw [World.cell?_alloc_new]; rfl)⟩
              go_simp
              try rfl
            intro u w7 d7 hall
            obtain ⟨a0, a1, a2, a3, a4, a5, a6, a7, a8, a9, a10, a11, a12, a13, a14, a15, a16, a17, a18, a19, a20, a21, a22, -⟩ := hall
            have e0 : u 0 = _ := a0
            clear a0
            have e1 : u 1 = _ := a1
            clear a1
            have e2 : u 2 = _ := a2
            clear a2
            have e3 : u 3 = _ := a3
            clear a3
            have e4 : u 4 = _ := a4
            clear a4
            have e5 : u 5 = _ := a5
            clear a5
            have e6 : u 6 = _ := a6
            clear a6
            have e7 : u 7 = _ := a7
            clear a7
            have e8 : u 8 = _ := a8
            clear a8
            have e9 : u 9 = _ := a9
            clear a9
            have e10 : u 10 = _ := a10
            clear a10
            have e11 : u 11 = _ := a11
            clear a11
            have e12 : u 12 = _ := a12
            clear a12
            have e13 : u 13 = _ := a13
            clear a13
            have e14 : u 14 = _ := a14
            clear a14
            have e15 : u 15 = _ := a15
            clear a15
            have e16 : u 16 = _ := a16
            clear a16
            have e17 : u 17 = _ := a17
            clear a17
            have e18 : u 18 = _ := a18
            clear a18
            have e19 : u 19 = _ := a19
            clear a19
            have e20 : u 20 = _ := a20
            clear a20
            have e21 : u 21 = _ := a21
            clear a21
            obtain ⟨gm, e22, r22⟩ := a22
            replace e22 : u 22 = _ := e22
            change wpList _ _ _ (List.drop 23 _) _ _
            simp only [List.drop_succ_cons, List.drop_zero]
            simp only [e0, e1, e2, e3, e4, e5, e6, e7, e8, e9, e10, e11, e12, e13, e14, e15, e16, e17, e18, e19, e20, e21, e22]
            clear e0 e1 e2 e3 e4 e5 e6 e7 e8 e9 e10 e11 e12 e13 e14 e15 e16 e17 e18 e19 e20 e21 e22
            have HS7 := Lib.hid (HS.out.later d7)
            have HNF := Lib.hid HS7.out.aut.fn
            have HLE : Hid (w3.heap.size + 1 + 1 ≤ w7.heap.size) := Lib.hid HS7.out.aut.lt
            have HRC : Hid (∀ j u, [Value.bool fb2][j]? = some u → w7.cell? ((⟨gm, 0, none⟩ : Addr).add j) = some u) := Lib.hid (fun j u hu => by
              match j, hu with
              | 0, hu =>
                obtain rfl := Option.some.inj hu
                exact r22
              | j + 1, hu => cases hu)
            have HH1 := Lib.hid (HIB.out fb2)
            refine wpList_appB rfl (.tmp 93) (.tmp 114) rfl Tryz.underlying28 Tryz.infoBool rfl (by decide) rfl HNF.out HLE.out rfl (m := 1) (news := [.bool fb2]) HRC.out rfl (by decide) HH1.out (by unfold maxLen; omega) (by omega) ?_
            intro g4 c4 w9 ho4 hg4 hr4
            have HQ := Lib.hid (HS7.out.putF (x := fb2) hg4 ho4 (by
              rcases hr4 with e | e
              · exact .inl e.symm
              · exact .inr (by show some g4 = some _; rw [e])))
            obtain ⟨q0, q1, q2, qf0, qf1, qf2⟩ := aut_facts (HS7.out.aut.grownF hg4)
            clear ho4 hg4 hr4 r22 d7
            go_upto_region 21 with fail
            clear q0 q1 q2 qf0 qf1 qf2
            generalize w9.setCell ⟨w3.heap.size + 1, 2, none⟩ (.slice (some ⟨g4, 0, none⟩) (fin.length + 1) c4) = w11 at *
            by_cases hbig : S.length ≤ 80
            · have hb1 : ¬ (80 : Int) < (S.length : Int) := by omega
              go_wp2_with fail
              go_roundw
              case rel => exact ⟨i + 1, S, _, _, _, _, by go_num, by omega, hbig, HMP, HPR, HQ⟩
              case measure => simp [intOf]; omega
            · have hb1 : (80 : Int) < (S.length : Int) := by omega
              have HZ9 := Lib.hid (blk_later HZ3.out HQ.out.aut.bel)
              obtain ⟨m0, m1, m2, mf0, mf1, mf2⟩ := aut_facts HZ9.out
              obtain ⟨u0, u1, u2⟩ := aut_cells (aut_three HZ9.out (.int .i64 0) (.slice none 0 0) (.slice none 0 0))
              have FR : Hid (RetMe x N N2 F F2 w (.returned (.tuple #[.agg #[.int .i64 0, .slice none 0 0, .slice none 0 0], .bool false])) (((w11.setCell ⟨w.heap.size + 2, 0, none⟩ (.int .i64 0)).setCell ⟨w.heap.size + 2, 1, none⟩ (.slice none 0 0)).setCell ⟨w.heap.size + 2, 2, none⟩ (.slice none 0 0))) := Lib.hid (.inl ⟨rfl, (((Below.now HB3.out HQ.out.aut.bel).setCell (p := ⟨w.heap.size + 2, 0, none⟩) (by show w.heap.size ≤ w.heap.size + 2; omega) _).setCell (p := ⟨w.heap.size + 2, 1, none⟩) (by show w.heap.size ≤ w.heap.size + 2; omega) _).setCell (p := ⟨w.heap.size + 2, 2, none⟩) (by show w.heap.size ≤ w.heap.size + 2; omega) _⟩)
              go_wp2_with fail
              refine bodyPost_ret (v := .tuple #[.agg #[.int .i64 0, .slice none 0 0, .slice none 0 0], .bool false]) ?_ rfl FR.out
              simp [results, Tryz.results17, go_sem, u0, u1, u2]
    · have hii : ¬ (i : Int) < (S.length : Int) := by omega
      obtain rfl : i = S.length := by omega
      obtain ⟨a5, c5, rfl⟩ := owns_form HS.out.aut.nx
      obtain ⟨a6, c6, rfl⟩ := owns_form HS.out.aut.fn
      have HOKA := Lib.hid (HP.out.ok hk1 hk4 hS80)
      have HACC : Hid (∀ v, accA k nx fin 0 v ↔ accA k N F 0 v ∧ accA k N2 F2 0 v) := Lib.hid (fun v => (HP.out.acc v 0 (0, 0) HP.out.zero).trans (meet_acc v (0, 0)))
      have HA := Lib.hid HS.out.aut
      clear HP
      generalize hW : wr = w9 at *
      clear hW
      have HZ9 := Lib.hid (blk_later HZ3.out HA.out.bel)
      obtain ⟨q0, q1, q2⟩ := HA.out.cells
      have FF := Lib.hid (HA.out.fin (z := w.heap.size + 2) HB3.out (by have := HGZ.out; omega) (by omega) (.int .i64 (k : Nat)) (.slice a5 nx.length c5) (.slice a6 fin.length c6))
      have FR : Hid (RetMe k N N2 F F2 w (.returned (.tuple #[.agg #[.int .i64 (k : Nat), .slice a5 nx.length c5, .slice a6 fin.length c6], .bool true])) (((w9.setCell ⟨w.heap.size + 2, 0, none⟩ (.int .i64 (k : Nat))).setCell ⟨w.heap.size + 2, 1, none⟩ (.slice a5 nx.length c5)).setCell ⟨w.heap.size + 2, 2, none⟩ (.slice a6 fin.length c6))) := Lib.hid (.inr ⟨_, _, _, _, _, _, rfl, HOKA.out, HACC.out, FF.out.1, FF.out.2⟩)
      obtain ⟨m0, m1, m2, mf0, mf1, mf2⟩ := aut_facts HZ9.out
      obtain ⟨u0, u1, u2⟩ := aut_cells (aut_three HZ9.out (.int .i64 (k : Nat)) (.slice a5 nx.length c5) (.slice a6 fin.length c6))
      go_wp2_with fail
      refine bodyPost_ret (v := .tuple #[.agg #[.int .i64 (k : Nat), .slice a5 nx.length c5, .slice a6 fin.length c6], .bool true]) ?_ rfl FR.out
      simp [results, Tryz.results17, go_sem, u0, u1, u2]
end Go.Proofs.YtoddpmdjjgnpgaaGreatDoor
