/-
  l03Draw and MakeSystem.
-/
import Derived.Test.YtoddpmdjjgnpgaaGreatDoorGra10
import Derived.Test.YtoddpmdjjgnpgaaGreatDoorGra11
namespace Go.Proofs.YtoddpmdjjgnpgaaGreatDoor
open Go.RowKit
set_option linter.unusedVariables false
theorem DrwAt.setBox {B : Nat} {a : Option Addr} {l : List UInt8} {cap : Nat} {w0 w wr : World} {k : Nat} {v : Value} {R : List RulD} (h : DrwAt B a l cap w0 w wr k v R) {g n : Nat} (hn : w.heap.size + 1 < n) (hv : ∀ b, v.ownBlock = some b → b < n) (hg : n ≤ g) (o : Nat) (u : Value) : DrwAt B a l cap w0 w (wr.setCell ⟨g, o, none⟩ u) k v R := by
  have h1 := h.lt
  refine ⟨h.rc.setFar o u (by omega) (fun e => by have := hv _ e; omega) (by omega), h.cur.grownO (setGrownB wr g o u) (fun e => by have := Option.some.inj e; omega) (fun hne x hx e => by have := h.far hne x hx; have := Option.some.inj e; omega), ?_, h.k1, h.ok, h.sz, h.lt, h.far, grown_since h.gr (setGrownB wr g o u) (fun b e => by have := Option.some.inj e; omega)⟩
  unfold World.setCell
  rw [Array.getElem?_modify, if_neg (by show ¬ g = w.heap.size; omega)]
  exact h.zero
theorem draw43 (k : Nat) {B : Nat} {a : Option Addr} {l : List UInt8} {cap : Nat} (hk : 1 ≤ k ∧ k ≤ 3) : ∀ (m : Int) (W : World), (m = 4 ∨ m = 3) → CurOk W B a l cap → Calls Tryz.prog 43 #[.pointer (some ⟨B, 0, none⟩), .int .i64 (k : Nat), .int .i64 m] W fun e w' => ∃ s : ByteArray, s.size ≤ 4 ∧ e = .returned (.string s) ∧ CurOk w' B a l cap ∧ W.grownBy w' (some B) := by
  rintro m W (rfl | rfl) h
  · exact (l02Draw_any B k 4 a l cap W h hk.1 (by omega) (by omega)).mono fun _ _ ⟨s, hs, he, hc, hg⟩ => ⟨s, hs.2, he, hc, hg⟩
  · exact (l02Draw_any B k 3 a l cap W h hk.1 (by omega) (by omega)).mono fun _ _ ⟨s, hs, he, hc, hg⟩ => ⟨s, by omega, he, hc, hg⟩
theorem ruleCells_str : ∀ (R : List RulD), ∀ v ∈ ruleCells R, ∃ s, v = .string s
  | [], v, h => by simp [ruleCells] at h
  | p :: R, v, h => by
    simp only [ruleCells, List.mem_cons] at h
    rcases h with rfl | rfl | h
    · exact ⟨_, rfl⟩
    · exact ⟨_, rfl⟩
    · exact ruleCells_str R v h
theorem RetDrwZ.set {B : Nat} {a : Option Addr} {l : List UInt8} {cap : Nat} {w0 w wr : World} {k : Int} {k2 : Nat} {v : Value} {R R2 : List RulD} {aR : Option Addr} {cR : Nat} (hs : sysP k R ∧ Sml k R) (hl : wr.ownsRow (w.heap.size + 1) 120 2 (.slice aR R.length cR) R.length (ruleCells R)) (h : DrwAt B a l cap w0 w wr k2 v R2) :
    RetDrwZ B a l cap w0 w (.returned (.agg #[.int .i64 k, .slice aR R.length cR])) ((wr.setCell ⟨w.heap.size, 0, none⟩ (.int .i64 k)).setCell ⟨w.heap.size, 1, none⟩ (.slice aR R.length cR)) := by
  have hlt := h.lt
  have hb := h.rc.below
  have hc1 := h.cur.grownO (setGrownB wr w.heap.size 0 (.int .i64 k)) (fun e => by have := Option.some.inj e; omega) (fun hne x hx e => by have := h.far hne x hx; have := Option.some.inj e; omega)
  have hc2 := hc1.grownO (setGrownB _ w.heap.size 1 (.slice aR R.length cR)) (fun e => by have := Option.some.inj e; omega) (fun hne x hx e => by have := h.far hne x hx; have := Option.some.inj e; omega)
  exact ⟨k, R, aR, cR, hs, rfl, owns_mono (ownsRow_setCell_below (ownsRow_setCell_below hl (by show w.heap.size < w.heap.size + 1; omega) _) (by show w.heap.size < w.heap.size + 1; omega) _) (by omega), hc2, (hb.setCell (by show w0.heap.size ≤ w.heap.size; omega) _).setCell (by show w0.heap.size ≤ w.heap.size; omega) _, grown_since (grown_since h.gr (setGrownB wr _ 0 _) (fun b e => by have := Option.some.inj e; omega)) (setGrownB _ _ 1 _) (fun b e => by have := Option.some.inj e; omega)⟩
set_option maxRecDepth 20000 in
set_option maxHeartbeats 8000000 in
theorem l03Draw_z (B : Nat) (a : Option Addr) (l : List UInt8) (cap : Nat) (w0 w : World) (h : CurOk w B a l cap) (hb0 : Below w0.heap.size w0 w) (hB : w0.heap.size ≤ B) :
    Calls Tryz.prog 37 #[.pointer (some ⟨B, 0, none⟩)] w (RetDrwZ B a l cap w0 w) := by
  have HD0 := Lib.hid (DrwAt.start h hb0 hB)
  have HO3 : Hid (∀ W, CurOk W B a l cap → Calls Tryz.prog 84 #[.pointer (some ⟨B, 0, none⟩), .int .i64 3] W fun e w' => ∃ b : Bool, e = .returned (.bool b) ∧ CurOk w' B a l cap ∧ W.grownBy w' (some B)) := Lib.hid (fun W hW => l01Once_any B 3 a l cap W hW (by omega) (by omega))
  have HO2 : Hid (∀ W, CurOk W B a l cap → Calls Tryz.prog 84 #[.pointer (some ⟨B, 0, none⟩), .int .i64 2] W fun e w' => ∃ b : Bool, e = .returned (.bool b) ∧ CurOk w' B a l cap ∧ W.grownBy w' (some B)) := Lib.hid (fun W hW => l01Once_any B 2 a l cap W hW (by omega) (by omega))
  have HB3 : Hid (∀ W, CurOk W B a l cap → Calls Tryz.prog 85 #[.pointer (some ⟨B, 0, none⟩), .int .i64 3] W fun e w' => ∃ x : Nat, x < 3 ∧ e = .returned (.int .i64 ((x : Nat) : Int)) ∧ CurOk w' B a l cap ∧ W.grownBy w' (some B)) := Lib.hid (fun W hW => l01Below_any B 3 a l cap W hW (by omega) (by omega))
  have HB4 : Hid (∀ W, CurOk W B a l cap → Calls Tryz.prog 85 #[.pointer (some ⟨B, 0, none⟩), .int .i64 4] W fun e w' => ∃ x : Nat, x < 4 ∧ e = .returned (.int .i64 ((x : Nat) : Int)) ∧ CurOk w' B a l cap ∧ W.grownBy w' (some B)) := Lib.hid (fun W hW => l01Below_any B 4 a l cap W hW (by omega) (by omega))
  clear h hb0
  go_enter Tryz.func37, Tryz.ntmps37
  go_wp2_with fail
  generalize (w.alloc (.cells #[.int .i64 0, .slice none 0 0] 25)).alloc (.cells #[.int .i64 ((2 : Nat) : Int), .slice none 0 0] 25) = w1 at *
  refine (HO3.out _ HD0.out.cur).mono ?_
  rintro e w2 ⟨b, rfl, hc2, hg2⟩
  have HD2 := Lib.hid (HD0.out.next hc2 hg2)
  clear hc2 hg2 HD0
  go_upto_if 11 with fail
  go_cut [] (fun wx => ∃ k, DrwAt B a l cap w0 w wx k (.slice none 0 0) [])
  case first =>
    cases b
    · go_wp2_with fail
      go_meet
      exact ⟨2, HD2.out⟩
    · go_wp2_with fail
      refine (HB3.out _ HD2.out.cur).mono ?_
      rintro e w3 ⟨x, hx, rfl, hc3, hg3⟩
      have HD3 := Lib.hid (HD2.out.next hc3 hg3)
      obtain ⟨y0, y1, y2, y3⟩ := HD3.out.rc.facts
      have HD : Hid (∃ k, DrwAt B a l cap w0 w (w3.setCell ⟨w.heap.size + 1, 0, none⟩ (.int .i64 ((1 : Int) + (x : Int)))) k (.slice none 0 0) []) := Lib.hid ⟨1 + x, by have h := HD3.out.setK (k' := 1 + x) (by omega); rwa [Int.natCast_add] at h⟩
      clear hc3 hg3 HD2 HD3
      go_wp2_with fail
      go_meet
      exact HD.out
  case rest =>
    obtain ⟨k, hd⟩ := hcut
    have HD := Lib.hid hd
    clear hd HD2 HO3 HB3
    go_wp2_with fail
    refine (HO2.out _ HD.out.cur).mono ?_
    rintro e wa ⟨b2, rfl, hca, hga⟩
    have HDa := Lib.hid (HD.out.next hca hga)
    clear hca hga HD HO2
    go_upto_if 17 with fail
    go_cut [] (fun wx => ∃ k, DrwAt B a l cap w0 w wx k (.slice none 0 0) [])
    case first =>
      clear HB4
      cases b2
      · go_wp2_with fail
        go_meet
        exact ⟨_, HDa.out⟩
      · have HLS := Lib.hid (strLit_any B a l cap syss wa HDa.out.cur (by decide) (by decide))
        go_wp2_with fail
        refine HLS.out.mono ?_
        rintro e wb ⟨i, hi, rfl, hcb, hgb⟩
        have HDb := Lib.hid (HDa.out.next hcb hgb)
        obtain ⟨kN, RP, lP, hTx, hSm⟩ := syss_tx i hi
        clear hcb hgb HDa HLS
        generalize nthS syss i = sj at *
        have HPS := Lib.hid (fun W => specParseSystem_xo sj kN RP lP W hTx)
        have HTX : Hid (Sml (kN : Nat) RP ∧ RP.length ≤ 2 ^ 40 ∧ SzR RP) := Lib.hid ⟨hSm, by have := hTx.ok.1.2; omega, fun j hj => by
          have h2 := (hTx.ok.2 _ (nthR_mem hj)).1.2
          unfold maxLen; omega⟩
        clear hTx hSm
        go_wp2_with fail
        refine (HPS.out _).mono ?_
        rintro e wd ⟨aP, cP, rfl, hPin, hbd⟩
        generalize ((kN : Nat) : Int) = kP at *
        have HDd := Lib.hid ((HDb.out.later hbd).later (alloc_belowS wd (.cells #[.int .i64 kP, .slice aP RP.length cP] 25)))
        have HPin := Lib.hid (owns_later hPin (alloc_belowS wd (.cells #[.int .i64 kP, .slice aP RP.length cP] 25)))
        have HLB := Lib.hid HDb.out.rc.lt
        have hbx := alloc_at wd (.cells #[.int .i64 kP, .slice aP RP.length cP] 25)
        clear HDb hbd hPin HPS
        have HSO := Lib.hid (fun W h => specSystemOk_any kP RP aP cP W h HTX.out.2.1 HTX.out.2.2)
        obtain ⟨n0, n1⟩ := sys_cells hbx
        go_upto_region 6 with fail
        generalize hW9 : wd.alloc (.cells #[.int .i64 kP, .slice aP RP.length cP] 25) = w9 at *
        clear hW9
        go_wp2_with fail
        refine (HSO.out _ (owns_rules HPin.out)).mono ?_
        rintro e we ⟨bb, hbb, rfl, hbe⟩
        have HBB := Lib.hid hbb
        have HDe := Lib.hid (HDd.out.later hbe)
        have HPe := Lib.hid (owns_later HPin.out hbe)
        have hbx2 := block_later hbx _ hbe
        obtain ⟨n0, n1⟩ := sys_cells hbx2
        clear hbb hbe HDd HPin hbx hbx2 HSO
        cases bb
        · clear HPe HBB n0 n1
          go_wp2_with fail
          go_meet
          exact ⟨_, HDe.out⟩
        · have hsP : sysP kP RP ∧ Sml kP RP := ⟨HBB.out.1 rfl, HTX.out.1⟩
          have F := Lib.hid (RetDrwZ.set (cR := cP) hsP (owns_mono HPe.out (by have := HLB.out; omega)) HDe.out)
          clear hsP
          have hz := HDe.out.zero
          obtain ⟨z0, z1⟩ := sys_cells hz
          obtain ⟨u0, u1⟩ := sys_cells (set_two hz (.int .i64 kP) (.slice aP RP.length cP))
          have ff0 : we.frozen? ⟨w.heap.size, 0, none⟩ = false := by simp [World.frozen?, hz]
          have ff1 : we.frozen? ⟨w.heap.size, 1, none⟩ = false := by simp [World.frozen?, hz]
          clear hz HDe HPe HBB
          go_wp2_with fail
          refine bodyPost_ret (v := .agg #[.int .i64 kP, .slice aP RP.length cP]) ?_ rfl F.out
          simp [results, Tryz.results37, go_sem, u0, u1]
    case rest =>
      have HE := Lib.hid hcut
      clear hcut HDa
      go_wp2_with fail
      obtain ⟨k, hd⟩ := HE.out
      refine (HB4.out _ hd.cur).mono ?_
      rintro e wf ⟨xn, hxn, rfl, hcf, hgf⟩
      have HDf := Lib.hid (hd.next hcf hgf)
      clear hcf hgf hd HE
      go_wp2_with fail
      go_loopw [6] (fun i wr => ∃ (j : Nat) (R : List RulD) (v : Value), R.length + j ≤ 3 ∧ i = .int .i64 (j : Nat) ∧ Hid (DrwAt B a l cap w0 w wr k v R)) (fun i _ => (intOf i).toNat)
      case atStart => exact ⟨xn, [], .slice none 0 0, by show 0 + xn ≤ 3; omega, rfl, HDf⟩
      case round =>
        clear HDf
        obtain ⟨j, R, v, hRj, rfl, HDr⟩ := hrel
        obtain ⟨a3, c3, rfl⟩ := owns_form HDr.out.rc.own
        obtain ⟨y0, y1, y2, y3⟩ := HDr.out.rc.facts
        by_cases hj : 0 < j
        · have hji : (0 : Int) < (j : Int) := by omega
          obtain ⟨hk1, hk3⟩ := HDr.out.k1
          have HDW := Lib.hid (draw43 k (a := a) (B := B) (l := l) (cap := cap) ⟨hk1, hk3⟩)
          have HOR : Hid (∀ x y W, x.size ≤ 4 → y.size ≤ 4 → Calls Tryz.prog 88 #[.int .i64 (k : Nat), .agg #[.string x, .string y]] W (RetOriZ 4 k W)) := Lib.hid (fun x y W hx hy => specOrientRule_z 4 k x y W hx hy (by unfold maxLen; omega) (by unfold maxLen; omega))
          go_wp2_with fail
          have HN : Hid (w.heap.size + 1 < wr.heap.size) := Lib.hid HDr.out.rc.lt
          have HV : Hid (∀ b, (Value.slice a3 R.length c3).ownBlock = some b → b < wr.heap.size) := Lib.hid (fun b hb => (HDr.out.rc.own.lt b hb).2)
          have HBW : Hid (B < wr.heap.size) := Lib.hid (by have := HDr.out.lt; have := HDr.out.rc.lt; omega)
          clear y0 y1 y2 y3
          go_upto_region 11 with fail
          refine region_link 17 (fun W => DrwAt B a l cap w0 w W k (.slice a3 R.length c3) R ∧ wr.heap.size ≤ W.heap.size) (BoxR 120 wr.heap.size) ([(13, 12, fun t v => ∀ x y, t = .tuple #[x, y] → v = x), (14, 12, fun t v => ∀ x y, t = .tuple #[x, y] → v = y)]) 16 _ (fun u w2 => ∀ (p : RulD) (g : Nat), u 13 = .agg #[.string p.1, .string p.2] → u 15 = .pointer (some ⟨g, 0, none⟩) → w2.heap[g]? = some (.cells #[.string p.1, .string p.2] 120 (0, 0))) (fun u => by simp only [List.take_succ_cons, List.take_zero, fPut, Act.put, List.setIfInBounds_toArray, List.set_cons_succ, List.set_cons_zero, Nat.zero_add, Nat.reduceAdd]; rfl) (by kernel_rfl) (by kernel_rfl) (by kernel_rfl) (by kernel_rfl) (by kernel_rfl) (by kernel_rfl) (by kernel_rfl) (⟨HDr.out.later (Below.drew (Below.refl _ _)), Nat.le_refl _⟩) (by
            intro q hq
            rcases List.mem_cons.1 hq with rfl | hq
            · refine ⟨_, _, rfl, rfl, (by simp), ⟨by decide, rfl, _, List.mem_cons_self, rfl, rfl⟩, ?_⟩
              intro u wv hC nx wz hrun
              obtain ⟨v, hv, _, h2⟩ := extract_two rfl hrun
              exact ⟨v, hv, fun x y e => (h2 x y e).1 rfl⟩
            · obtain rfl := List.mem_singleton.1 hq
              refine ⟨_, _, rfl, rfl, (by simp), ⟨by decide, rfl, _, List.mem_cons_self, rfl, rfl⟩, ?_⟩
              intro u wv hC nx wz hrun
              obtain ⟨v, hv, _, h2⟩ := extract_two rfl hrun
              exact ⟨v, hv, fun x y e => (h2 x y e).2 rfl⟩) rfl ⟨rfl, by decide, (by
            intro q hq
            rcases List.mem_cons.1 hq with rfl | hq
            · decide
            · obtain rfl := List.mem_singleton.1 hq; decide), fun u wv hC nx wz hrun => store_skip rfl hrun⟩ (by
            intro i o hi ho his
            by_cases h14 : i = 14
            · subst h14
              right
              obtain rfl := Option.some.inj ho
              refine ⟨_, rfl, (by simp), fun u wv hC nx wz hrun => ?_⟩
              obtain ⟨v, hv, hw, _⟩ := extract_two rfl hrun
              exact ⟨⟨v, hv⟩, hw⟩
            · left
              clear ho
              revert h14
              revert his
              revert hi
              revert i
              decide) (fun u u' w hj h p g h1 h2 => h p g ((hj _ (List.mem_cons_of_mem _ List.mem_cons_self) rfl).trans h1) ((hj _ List.mem_cons_self rfl).trans h2)) ?_
          apply Exists.intro; apply And.intro
          · conv => arg 7; simp only [List.take_succ_cons, List.take_zero]
            apply eachV_read (fun _ => boxR_refl _ _ _) rfl
            · intro u wv hC hf
              have y0 := hC.1.rc.facts.1
              clear hf
              go_simp
              try rfl
            apply eachV_read (fun _ => boxR_refl _ _ _) rfl
            · intro u wv hC hf
              have y0 := hC.1.rc.facts.1
              obtain ⟨d0_0, -⟩ := hf
              have e0 : u 0 = _ := d0_0 rfl
              clear d0_0
              go_simp
              try rfl
            conv => arg 9; simp only [List.cons_append, List.nil_append]
            apply eachV_read (fun _ => boxR_refl _ _ _) rfl
            · intro u wv hC hf
              have y0 := hC.1.rc.facts.1
              clear hf
              go_simp
              try rfl
            conv => arg 9; simp only [List.cons_append, List.nil_append]
            apply eachV_read (fun _ => boxR_refl _ _ _) rfl
            · intro u wv hC hf
              have y0 := hC.1.rc.facts.1
              clear hf
              go_simp
              try rfl
            conv => arg 9; simp only [List.cons_append, List.nil_append]
            apply eachV_read (fun _ => boxR_refl _ _ _) rfl
            · intro u wv hC hf
              have y0 := hC.1.rc.facts.1
              obtain ⟨d3_0, -⟩ := hf
              have e3 : u 3 = _ := d3_0 rfl
              clear d3_0
              go_simp
              try rfl
            conv => arg 9; simp only [List.cons_append, List.nil_append]
            apply eachV_call (fun v wv => ∃ s : ByteArray, s.size ≤ 4 ∧ v = .string s)
            · exact fun v w w2 _ hR h => h
            · rfl
            · intro u wv hC hf
              have y0 := hC.1.rc.facts.1
              obtain ⟨d2_0, d4_1, -⟩ := hf
              have e2 : u 2 = _ := d2_0 rfl
              clear d2_0
              have e4 : u 4 = _ := d4_1 rfl
              clear d4_1
              apply Exists.intro; apply Exists.intro; apply And.intro
              · go_simp; exact ⟨rfl, rfl⟩
              · refine (HDW.out 4 _ (Or.inl rfl) hC.1.cur).mono ?_
                rintro e w3 ⟨s, hs, rfl, hc, hg⟩
                exact ⟨_, rfl, ⟨hC.1.next hc hg, Nat.le_trans hC.2 hg.size⟩, boxR_grown hg HBW.out, s, hs, rfl⟩
            conv => arg 9; simp only [List.cons_append, List.nil_append]
            apply eachV_read (fun _ => boxR_refl _ _ _) rfl
            · intro u wv hC hf
              have y0 := hC.1.rc.facts.1
              clear hf
              go_simp
              try rfl
            conv => arg 9; simp only [List.cons_append, List.nil_append]
            apply eachV_read (fun _ => boxR_refl _ _ _) rfl
            · intro u wv hC hf
              have y0 := hC.1.rc.facts.1
              clear hf
              go_simp
              try rfl
            conv => arg 9; simp only [List.cons_append, List.nil_append]
            apply eachV_read (fun _ => boxR_refl _ _ _) rfl
            · intro u wv hC hf
              have y0 := hC.1.rc.facts.1
              obtain ⟨d7_0, -⟩ := hf
              have e7 : u 7 = _ := d7_0 rfl
              clear d7_0
              go_simp
              try rfl
            conv => arg 9; simp only [List.cons_append, List.nil_append]
            apply eachV_call (fun v wv => ∃ s : ByteArray, s.size ≤ 4 ∧ v = .string s)
            · exact fun v w w2 _ hR h => h
            · rfl
            · intro u wv hC hf
              have y0 := hC.1.rc.facts.1
              obtain ⟨d6_0, d8_1, d5_2, -⟩ := hf
              have e6 : u 6 = _ := d6_0 rfl
              clear d6_0
              have e8 : u 8 = _ := d8_1 rfl
              clear d8_1
              obtain ⟨s5, hs5, e5⟩ := d5_2 rfl
              apply Exists.intro; apply Exists.intro; apply And.intro
              · go_simp; exact ⟨rfl, rfl⟩
              · refine (HDW.out 3 _ (Or.inr rfl) hC.1.cur).mono ?_
                rintro e w3 ⟨s, hs, rfl, hc, hg⟩
                exact ⟨_, rfl, ⟨hC.1.next hc hg, Nat.le_trans hC.2 hg.size⟩, boxR_grown hg HBW.out, s, hs, rfl⟩
            conv => arg 9; simp only [List.cons_append, List.nil_append]
            apply eachV_do (fun v wv => ∃ s t : ByteArray, s.size ≤ 4 ∧ t.size ≤ 4 ∧ v = .agg #[.string s, .string t])
            · exact fun v w w2 _ hR h => h
            · rfl
            · intro u wv hC hf
              have y0 := hC.1.rc.facts.1
              obtain ⟨d5_0, d9_1, -⟩ := hf
              obtain ⟨s5, hs5, e5⟩ := d5_0 rfl
              obtain ⟨s9, hs9, e9⟩ := d9_1 rfl
              refine ⟨.agg #[.string s5, .string s9], wv, ?_, hC, boxR_refl _ _ _, s5, s9, hs5, hs9, rfl⟩
              go_simp
              try rfl
            conv => arg 9; simp only [List.cons_append, List.nil_append]
            apply eachV_call (fun v wv => ∃ (p : RulD) (b : Bool), (b = true → (ruleP k p ∧ lessS p.2 p.1 = true) ∧ p.1.size ≤ 4) ∧ v = .tuple #[.agg #[.string p.1, .string p.2], .bool b])
            · exact fun v w w2 _ hR h => h
            · rfl
            · intro u wv hC hf
              have y0 := hC.1.rc.facts.1
              obtain ⟨d1_0, d10_1, d9_2, -⟩ := hf
              have e1 : u 1 = _ := d1_0 rfl
              clear d1_0
              obtain ⟨s10, t10, hs10, ht10, e10⟩ := d10_1 rfl
              obtain ⟨s9, hs9, e9⟩ := d9_2 rfl
              apply Exists.intro; apply Exists.intro; apply And.intro
              · go_simp; exact ⟨rfl, rfl⟩
              · refine (HOR.out s10 t10 _ hs10 ht10).mono ?_
                rintro e w3 ⟨p, b, hp, rfl, hb⟩
                exact ⟨_, rfl, ⟨hC.1.later hb, Nat.le_trans hC.2 hb.size⟩, boxR_grown ⟨hb.os, hb.tape, hb.output, hb.size, fun k hk _ => hb.block k hk⟩ HBW.out, p, b, hp, rfl⟩
            conv => arg 9; simp only [List.cons_append, List.nil_append]
            apply eachV_do (fun v wv => ∃ (p : RulD) (b : Bool), (b = true → (ruleP k p ∧ lessS p.2 p.1 = true) ∧ p.1.size ≤ 4) ∧ v = .tuple #[.agg #[.string p.1, .string p.2], .bool b])
            · exact fun v w w2 _ hR h => h
            · rfl
            · intro u wv hC hf
              have y0 := hC.1.rc.facts.1
              obtain ⟨d11_0, -⟩ := hf
              obtain ⟨p11, b11, hp11, e11⟩ := d11_0 rfl
              refine ⟨.tuple #[.agg #[.string p11.1, .string p11.2], .bool b11], wv, ?_, hC, boxR_refl _ _ _, p11, b11, hp11, rfl⟩
              go_simp
              try rfl
            conv => arg 9; simp only [List.cons_append, List.nil_append]
            apply eachV_do (fun v wv => ∃ p : RulD, v = .agg #[.string p.1, .string p.2])
            · exact fun v w w2 _ hR h => h
            · rfl
            · intro u wv hC hf
              have y0 := hC.1.rc.facts.1
              obtain ⟨d12_0, -⟩ := hf
              obtain ⟨p12, b12, hp12, e12⟩ := d12_0 rfl
              refine ⟨.agg #[.string p12.1, .string p12.2], wv, ?_, hC, boxR_refl _ _ _, p12, rfl⟩
              go_simp
              try rfl
            conv => arg 9; simp only [List.cons_append, List.nil_append]
            apply eachV_do (fun v wv => ∃ b : Bool, v = .bool b)
            · exact fun v w w2 _ hR h => h
            · rfl
            · intro u wv hC hf
              have y0 := hC.1.rc.facts.1
              obtain ⟨d12_0, d16_1, -⟩ := hf
              obtain ⟨p12, b12, hp12, e12⟩ := d12_0 rfl
              clear d16_1
              refine ⟨.bool b12, wv, ?_, hC, boxR_refl _ _ _, b12, rfl⟩
              go_simp
              try rfl
            conv => arg 9; simp only [List.cons_append, List.nil_append]
            apply eachV_do (fun v wv => ∃ g7, v = .pointer (some ⟨g7, 0, none⟩) ∧ (∃ x y, wv.heap[g7]? = some (.cells #[.string x, .string y] 120 (0, 0))) ∧ wr.heap.size ≤ g7)
            · exact fun v w w2 _ hR ⟨g7, h1, ⟨x, y, h2⟩, h3⟩ => ⟨g7, h1, hR g7 x y h3 h2, h3⟩
            · rfl
            · intro u wv hC hf
              have y0 := hC.1.rc.facts.1
              clear hf
              refine ⟨.pointer (some ⟨wv.heap.size, 0, none⟩), wv.alloc (.cells #[.string ⟨#[]⟩, .string ⟨#[]⟩] 120), ?_, ⟨hC.1.later (alloc_belowS wv _), by have := hC.2; simp; omega⟩, boxR_grown (World.grownBy_alloc wv _ (some B)) HBW.out, wv.heap.size, rfl, ⟨_, _, alloc_at _ _⟩, hC.2⟩
              go_simp
              try rfl
            conv => arg 9; simp only [List.cons_append, List.nil_append]
            apply eachV_skip rfl
            · intro u wv hC hf
              have y0 := hC.1.rc.facts.1
              obtain ⟨d15_0, d13_1, d11_2, d0_3, d1_4, d2_5, d3_6, d4_7, d5_8, d6_9, d7_10, d8_11, d9_12, d10_13, d11_14, d12_15, d13_16, d14_17, d15_18, -⟩ := hf
              obtain ⟨g15, e15, ⟨bx, by_, x15⟩, y15⟩ := d15_0 rfl
              obtain ⟨p13, e13⟩ := d13_1 rfl
              obtain ⟨p11, b11, hp11, e11⟩ := d11_2 rfl
              have e0 : u 0 = _ := d0_3 rfl
              clear d0_3
              have e1 : u 1 = _ := d1_4 rfl
              clear d1_4
              have e2 : u 2 = _ := d2_5 rfl
              clear d2_5
              have e3 : u 3 = _ := d3_6 rfl
              clear d3_6
              have e4 : u 4 = _ := d4_7 rfl
              clear d4_7
              obtain ⟨s5, hs5, e5⟩ := d5_8 rfl
              have e6 : u 6 = _ := d6_9 rfl
              clear d6_9
              have e7 : u 7 = _ := d7_10 rfl
              clear d7_10
              have e8 : u 8 = _ := d8_11 rfl
              clear d8_11
              obtain ⟨s9, hs9, e9⟩ := d9_12 rfl
              obtain ⟨s10, t10, hs10, ht10, e10⟩ := d10_13 rfl
              clear d11_14
              obtain ⟨p12, b12, hp12, e12⟩ := d12_15 rfl
              clear d13_16
              clear d14_17
              clear d15_18
              obtain ⟨m0, m1, f0, f1⟩ := rec_cells x15
              refine ⟨(wv.setCell ⟨g15, 0, none⟩ (.string p13.1)).setCell ⟨g15, 1, none⟩ (.string p13.2), ?_, ⟨(hC.1.setBox HN.out HV.out y15 0 _).setBox HN.out HV.out y15 1 _, by simpa using hC.2⟩, boxR_set _ _ _ _ _ _⟩
              go_simp
              try rfl
            refine eachV_nil ?_
            intro u w7 d7 hall
            obtain ⟨a0, a1, a2, a3, a4, a5, a6, a7, a8, a9, a10, a11, a12, a13, a14, a15, a16, -⟩ := hall
            have e0 : u 0 = _ := a0
            clear a0
            have e1 : u 1 = _ := a1
            clear a1
            have e2 : u 2 = _ := a2
            clear a2
            have e3 : u 3 = _ := a3
            clear a3
            have e4 : u 4 = _ := a4
            clear a4
            obtain ⟨s5, hs5, e5⟩ := a5
            replace e5 : u 5 = _ := e5
            have e6 : u 6 = _ := a6
            clear a6
            have e7 : u 7 = _ := a7
            clear a7
            have e8 : u 8 = _ := a8
            clear a8
            obtain ⟨s9, hs9, e9⟩ := a9
            replace e9 : u 9 = _ := e9
            obtain ⟨s10, t10, hs10, ht10, e10⟩ := a10
            replace e10 : u 10 = _ := e10
            obtain ⟨p11, b11, hp11, e11⟩ := a11
            replace e11 : u 11 = _ := e11
            obtain ⟨p12, b12, hp12, e12⟩ := a12
            replace e12 : u 12 = _ := e12
            obtain ⟨p13, e13⟩ := a13
            replace e13 : u 13 = _ := e13
            obtain ⟨b14, e14⟩ := a14
            replace e14 : u 14 = _ := e14
            obtain ⟨g15, e15, ⟨bx, by_, x15⟩, y15⟩ := a15
            replace e15 : u 15 = _ := e15
            clear a16
            intro u' hu hL hS
            have g12 : u 12 = u' 12 := Option.some.inj (congrArg (fun a : Act => a.tmps[37]?) hu)
            have g13 : u 13 = u' 13 := Option.some.inj (congrArg (fun a : Act => a.tmps[50]?) hu)
            have g14 : u 14 = u' 14 := Option.some.inj (congrArg (fun a : Act => a.tmps[51]?) hu)
            have k13 := (g13.symm.trans e13).symm.trans (hL _ List.mem_cons_self _ _ (g12.symm.trans e12))
            have k14 := (g14.symm.trans e14).symm.trans (hL _ (List.mem_cons_of_mem _ List.mem_cons_self) _ _ (g12.symm.trans e12))
            obtain rfl : b14 = b12 := by simpa using k14
            have hp13 : (p13.1, p13.2) = (p12.1, p12.2) := by simpa using k13
            obtain rfl : p13 = p12 := hp13
            have gg15 : u 15 = u' 15 := Option.some.inj (congrArg (fun a : Act => a.tmps[7]?) hu)
            have hbox := hS p13 g15 (g13.symm.trans e13) (gg15.symm.trans e15)
            clear k13 k14 g12 g13 g14 hu hL hS gg15
            change wpList _ _ _ (List.drop 17 _) _ _
            simp only [List.drop_succ_cons, List.drop_zero]
            simp only [e0, e1, e2, e3, e4, e5, e6, e7, e8, e9, e10, e11, e12, e13, e14, e15]
            clear e0 e1 e2 e3 e4 e5 e6 e7 e8 e9 e10 e11 e12 e13 e14 e15
            have HDw7 := Lib.hid d7.1
            have HB15 := Lib.hid hbox
            obtain ⟨m0, m1, f0, f1⟩ := rec_cells hbox
            clear x15 y15 d7 hp11 hs5 hs9 hs10 ht10 hbox
            go_upto_region 12 with fail
            have hg7 := HB15.out
            have hp := hp12
            clear m0 m1 f0 f1
            generalize p13 = p at *
            have HDw := HDw7
            clear HDr HDW HOR
            cases b14
            · clear hg7
              go_wp2_with fail
              go_roundw
              case rel => exact ⟨j - 1, R, _, by omega, by congr 1; omega, HDw⟩
              case measure => simp [intOf]; omega
            · have hpp := hp rfl
              obtain ⟨n0, n1⟩ := sys_cells hg7
              obtain ⟨_, y1, _, y3⟩ := HDw.out.rc.facts
              have HN1 : Hid ([Value.string p.1, .string p.2].length = 1 * 2) := Lib.hid rfl
              have HN2 : Hid (∀ v ∈ [Value.string p.1, .string p.2], v.oneCell' = true) := Lib.hid (fun v hv => by simp at hv; rcases hv with rfl | rfl <;> rfl)
              clear hg7 hp
              go_wp2_with (at_builtin; refine wpList_appH (n := R.length) rfl (.tmp 54) (.tmp 56) rfl Tryz.underlying23 Tryz.infoRule rfl (by decide) rfl HDw.out.rc.own HDw.out.rc.lt rfl HN1.out HN2.out (by unfold maxLen; omega) (by omega) ?_; intro g4 c4 w4 ho4 hg4 hr4; obtain ⟨_, x1, _, x3⟩ := rec_cells (HDw.out.rc.grown (Below.refl _ _) hg4))
              have HD4 := Lib.hid (HDw.out.put hpp hg4 ho4)
              clear ho4 hg4 hr4 y1 y3 n0 n1 x1 x3
              go_wp2_with fail
              go_roundw
              case rel => exact ⟨j - 1, R ++ [p], _, by simp; omega, by congr 1; omega, HD4⟩
              case measure => simp [intOf]; omega
          · intro u wv hC hf wz hrun p g h13 h15
            obtain ⟨d15, -⟩ := hf
            obtain ⟨g15, e15, ⟨bx, by_, x15⟩, y15⟩ := d15 rfl
            have hgg : Value.pointer (some ⟨g, 0, none⟩) = Value.pointer (some ⟨g15, 0, none⟩) := h15.symm.trans e15
            obtain rfl : g = g15 := by simpa using hgg
            obtain ⟨m0, m1, f0, f1⟩ := rec_cells x15
            have hx := set_two x15 (.string p.1) (.string p.2)
            revert hrun
            go_simp
            rintro rfl
            exact hx
        · have hji : ¬ (0 : Int) < (j : Int) := by omega
          have hsP : sysP (k : Nat) R ∧ Sml (k : Nat) R := ⟨⟨⟨⟨⟨by have := HDr.out.k1; omega, by have := HDr.out.k1; omega⟩, by omega⟩, fun r hr => (HDr.out.ok r hr).1⟩, fun r hr => (HDr.out.ok r hr).2⟩, by have := HDr.out.k1; omega, HDr.out.sz⟩
          have F := Lib.hid (RetDrwZ.set (cR := c3) hsP (owns_mono HDr.out.rc.own (by omega)) HDr.out)
          have hz := HDr.out.zero
          obtain ⟨z0, z1⟩ := sys_cells hz
          obtain ⟨u0, u1⟩ := sys_cells (set_two hz (.int .i64 (k : Nat)) (.slice a3 R.length c3))
          have ff0 : wr.frozen? ⟨w.heap.size, 0, none⟩ = false := by simp [World.frozen?, hz]
          have ff1 : wr.frozen? ⟨w.heap.size, 1, none⟩ = false := by simp [World.frozen?, hz]
          clear hz hsP HDr
          go_wp2_with fail
          refine bodyPost_ret (v := .agg #[.int .i64 (k : Nat), .slice a3 R.length c3]) ?_ rfl F.out
          simp [results, Tryz.results37, go_sem, u0, u1]
theorem l03Draw_o (B : Nat) (a : Option Addr) (l : List UInt8) (cap : Nat) (w0 w : World) (h : CurOk w B a l cap) (hb0 : Below w0.heap.size w0 w) (hB : w0.heap.size ≤ B) :
    Calls Tryz.prog 37 #[.pointer (some ⟨B, 0, none⟩)] w (RetDrwO B a l cap w0 w) :=
  (l03Draw_z B a l cap w0 w h hb0 hB).mono fun _ _ ⟨k, R, aR, cR, h1, h2⟩ => ⟨k, R, aR, cR, h1.1, h2⟩
theorem l03Draw_any (B : Nat) (a : Option Addr) (l : List UInt8) (cap : Nat) (w0 w : World) (h : CurOk w B a l cap) (hb0 : Below w0.heap.size w0 w) (hB : w0.heap.size ≤ B) :
    Calls Tryz.prog 37 #[.pointer (some ⟨B, 0, none⟩)] w (RetDrw B a l cap w0) :=
  (l03Draw_o B a l cap w0 w h hb0 hB).mono fun _ _ ⟨k, R, aR, cR, h1, h2, h3, h4, h5, _⟩ => ⟨k, R, aR, cR, h1, h2, owns_rules h3, h4, h5⟩
end Go.Proofs.YtoddpmdjjgnpgaaGreatDoor
