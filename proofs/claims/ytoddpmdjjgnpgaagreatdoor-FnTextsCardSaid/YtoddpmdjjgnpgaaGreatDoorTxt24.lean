/-
  MakeChain of the reference: some links, in memory.
-/
import Derived.Test.YtoddpmdjjgnpgaaGreatDoorTxt19
import Derived.Test.YtoddpmdjjgnpgaaGreatDoorTxt15
import Derived.Test.YtoddpmdjjgnpgaaGreatDoorTxt23
namespace Go.Proofs.YtoddpmdjjgnpgaaGreatDoor
open Go.RowKit
set_option linter.unusedVariables false
theorem l13LetterM_any (x : Nat) (w : World) (hx : x < 26) : Calls Tryz.prog 114 #[.int .i64 (x : Nat)] w fun e w' => e = .returned (.string (letterN x)) ∧ Below w.heap.size w w' := by
  have kc := convC
  have hu : IntKind.u8.wrap (97 + (x : Int)) = 97 + (x : Int) := by simp [IntKind.wrap, IntKind.signed, IntKind.bits]; omega
  have HL : Hid (oneC (97 + (x : Int)) = letterN x) := Lib.hid rfl
  go_enter Tryz.func114, Tryz.ntmps114
  go_wp2_with fail
  go_ret
  exact ⟨rfl, (Below.refl _ _).alloc (Nat.le_refl _) _⟩
theorem Rec2.putM {TT T : TypeId} {size : Nat} {w wr w4 : World} {g : Nat} {x v v' : Value} {n m : Nat} {xs ys : List Value} (h : Rec2 TT T size w wr g x v n xs) (hg : wr.grownBy w4 v.ownBlock) (hn : w4.ownsRow (g + 1) T size v' m ys) :
    w4.heap[g]? = some (.cells #[x, v] TT (0, 0)) ∧ Rec2 TT T size w (w4.setCell ⟨g, 1, none⟩ v') g x v' m ys := by
  have h4 := (hg.block g h.lt (fun e => h.far e.symm)).trans h.blk
  have b4 : Below w.heap.size w w4 := h.below.grown hg h.below.size (fun k hk => by have := (h.own.lt k hk).1; have := h.le; omega)
  refine ⟨h4, ?_, ownsRow_setCell_below hn (by show g < g + 1; omega) _, h.le, b4.setCell h.le _⟩
  unfold World.setCell
  simp [Array.getElem?_modify, h4]
theorem rules_set2 {wr : World} {aR : Option Addr} {R : List RulD} {g : Nat} {k : Int} {a1 : Option Addr} {n1 c1 : Nat} {T : TypeId} (hl : RulesIn wr aR R) (hz : wr.heap[g]? = some (.cells #[.int .i64 k, .slice a1 n1 c1] T (0, 0))) (u v : Value) : RulesIn ((wr.setCell ⟨g, 0, none⟩ u).setCell ⟨g, 1, none⟩ v) aR R := by
  rcases hl with hl | ⟨b, off, ha, hcs⟩
  · exact .inl hl
  · refine .inr ⟨b, off, ha, fun i hi => ?_⟩
    have hc := hcs i hi
    have hne : b ≠ g := by
      rintro rfl
      obtain ⟨s, hs⟩ := ruleCells_str R _ (List.getElem_mem hi)
      rw [hs, cell_of_row _ _ _ _ _ _ hz] at hc
      match off + i, hc with
      | 0, hc => cases hc
      | 1, hc => cases hc
      | n + 2, hc => cases hc
    rw [World.cell?_of_block (w := wr) (by
      unfold World.setCell
      rw [Array.getElem?_modify, if_neg (fun e => hne e.symm), Array.getElem?_modify, if_neg (fun e => hne e.symm)])]
    exact hc
/-- the system that sorts two letters -/
def sortR : RulD := (letterN 1 ++ letterN 0, letterN 0 ++ letterN 1)
set_option maxRecDepth 100000 in
set_option maxHeartbeats 4000000 in
theorem specSorting2_any (w : World) : Calls Tryz.prog 66 #[.int .i64 2] w fun e w' => ∃ a c, e = .returned (.tuple #[.agg #[.int .i64 2, .slice a 1 c], .bool true]) ∧ RulesIn w' a [sortR] ∧ Below w.heap.size w w' := by
  have HL1 := Lib.hid (fun W => l13LetterM_any 1 W (by omega))
  have HL0 := Lib.hid (fun W => l13LetterM_any 0 W (by omega))
  have HSR : Hid (ruleCells [sortR] = [.string (letterN 1 ++ letterN 0), .string (letterN 0 ++ letterN 1)]) := Lib.hid rfl
  have hz1 : (letterN 1).size = 1 := rfl
  have hz0 : (letterN 0).size = 1 := rfl
  have HZ : Hid ((letterN 1).size = 1 ∧ (letterN 0).size = 1) := Lib.hid ⟨hz1, hz0⟩
  clear hz1 hz0
  have HP : Hid (∀ W, Calls Tryz.prog 106 #[.int .i64 2, .int .i64 1, .int .i64 4] W fun e w' => e = .returned (.bool true) ∧ W = w') := Lib.hid (fun W => (l01In_any 2 1 4 W).mono (fun e w' h => ⟨by rw [h.1]; rfl, h.2⟩))
  have hb0 := alloc_belowS w (.cells #[.int .i64 0, .slice none 0 0] 25)
  have HR0 : Hid (Rec2 25 120 2 w ((w.alloc (.cells #[.int .i64 0, .slice none 0 0] 25)).alloc (.cells #[.int .i64 2, .slice none 0 0] 25)) (w.heap.size + 1) (.int .i64 2) (.slice none 0 0) ([] : List RulD).length (ruleCells [])) := Lib.hid (by
    have h := Rec2.start 25 120 2 hb0 (.int .i64 2)
    have e : (w.alloc (.cells #[.int .i64 0, .slice none 0 0] 25)).heap.size = w.heap.size + 1 := by simp
    rw [e] at h
    exact h)
  have HZ0 : Hid (((w.alloc (.cells #[.int .i64 0, .slice none 0 0] 25)).alloc (.cells #[.int .i64 2, .slice none 0 0] 25)).heap[w.heap.size]? = some (.cells #[.int .i64 0, .slice none 0 0] 25 (0, 0))) := Lib.hid (alloc_two w _ _).1
  clear hb0
  go_enter Tryz.func66, Tryz.ntmps66
  go_wp2_with fail
  refine (HP.out _).mono ?_
  rintro e w2 ⟨rfl, rfl⟩
  go_wp2_with fail
  generalize hP1 : letterN 1 = P1 at *
  generalize hP0 : letterN 0 = P0 at *
  go_loopw [5] (fun vy wr => ∃ (v : Value) (R : List RulD), (vy = .int .i64 1 ∧ R = [] ∨ vy = .int .i64 2 ∧ R = [sortR]) ∧ Hid (Rec2 25 120 2 w wr (w.heap.size + 1) (.int .i64 2) v R.length (ruleCells R)) ∧ Hid (wr.heap[w.heap.size]? = some (.cells #[.int .i64 0, .slice none 0 0] 25 (0, 0)))) (fun vy _ => 2 - (intOf vy).toNat)
  case atStart => exact ⟨_, [], .inl ⟨rfl, rfl⟩, HR0, HZ0⟩
  case round =>
    clear HR0 HZ0
    obtain ⟨v0, R, hc, HR, HZ0⟩ := hrel
    rcases hc with ⟨rfl, rfl⟩ | ⟨rfl, rfl⟩
    · go_wp2_with fail
      generalize hW0 : wr = wr0 at *
      clear hW0
      go_loopw [6] (fun vx wr => ∃ (v : Value) (R : List RulD), (vx = .int .i64 0 ∧ R = [] ∨ vx = .int .i64 1 ∧ R = [sortR]) ∧ Hid (Rec2 25 120 2 w wr (w.heap.size + 1) (.int .i64 2) v R.length (ruleCells R)) ∧ Hid (wr.heap[w.heap.size]? = some (.cells #[.int .i64 0, .slice none 0 0] 25 (0, 0)))) (fun vx _ => 1 - (intOf vx).toNat)
      case atStart => exact ⟨_, [], .inl ⟨rfl, rfl⟩, HR, HZ0⟩
      case round =>
        clear HR HZ0
        obtain ⟨v1, R, hc, HR, HZ0⟩ := hrel
        rcases hc with ⟨rfl, rfl⟩ | ⟨rfl, rfl⟩
        · have n10 : ¬ 9223372036854775807 < P1.size + P0.size := by have := HZ.out; omega
          have n01 : ¬ 9223372036854775807 < P0.size + P1.size := by have := HZ.out; omega
          obtain ⟨a1, c1, rfl⟩ := owns_form HR.out.own
          go_upto_region 10 with fail
          refine region_tail 14 (fun W => Below wr.heap.size wr W) (fun W W2 => Below W.heap.size W W2) (fun u => by simp only [List.take_succ_cons, List.take_zero, fPut, Act.put, List.setIfInBounds_toArray, List.set_cons_succ, List.set_cons_zero, Nat.zero_add, Nat.reduceAdd]; rfl) (by kernel_rfl) (by kernel_rfl) (by kernel_rfl) (by kernel_rfl) (by kernel_rfl) (by kernel_rfl) (by kernel_rfl) (Below.drew (Below.refl _ _)) ?_
          conv => arg 7; simp only [List.take_succ_cons, List.take_zero]
          apply each_read (fun _ => Below.refl _ _) rfl
          · intro u wv hC hf
            have y1 := (HR.out.later hC).facts.2.1
            clear hf
            go_simp
            try rfl
          apply each_read (fun _ => Below.refl _ _) rfl
          · intro u wv hC hf
            have y1 := (HR.out.later hC).facts.2.1
            obtain ⟨d0_0, -⟩ := hf
            have e0 : u 0 = _ := d0_0 rfl
            clear d0_0
            go_simp
            try rfl
          conv => arg 8; simp only [List.cons_append, List.nil_append]
          apply each_read (fun _ => Below.refl _ _) rfl
          · intro u wv hC hf
            have y1 := (HR.out.later hC).facts.2.1
            clear hf
            go_simp
            try rfl
          conv => arg 8; simp only [List.cons_append, List.nil_append]
          apply each_callR rfl
          · intro u wv hC hf
            have y1 := (HR.out.later hC).facts.2.1
            obtain ⟨d2_0, -⟩ := hf
            have e2 : u 2 = _ := d2_0 rfl
            clear d2_0
            apply Exists.intro; apply Exists.intro; apply And.intro
            · go_simp; exact ⟨rfl, rfl⟩
            · refine (HL1.out _).mono ?_
              rintro e w3 ⟨rfl, hb⟩
              exact ⟨rfl, Below.now hC hb, hb⟩
          conv => arg 8; simp only [List.cons_append, List.nil_append]
          apply each_read (fun _ => Below.refl _ _) rfl
          · intro u wv hC hf
            have y1 := (HR.out.later hC).facts.2.1
            clear hf
            go_simp
            try rfl
          conv => arg 8; simp only [List.cons_append, List.nil_append]
          apply each_callR rfl
          · intro u wv hC hf
            have y1 := (HR.out.later hC).facts.2.1
            obtain ⟨d4_0, d3_1, -⟩ := hf
            have e4 : u 4 = _ := d4_0 rfl
            clear d4_0
            have e3 : u 3 = _ := d3_1 rfl
            clear d3_1
            apply Exists.intro; apply Exists.intro; apply And.intro
            · go_simp; exact ⟨rfl, rfl⟩
            · refine (HL0.out _).mono ?_
              rintro e w3 ⟨rfl, hb⟩
              exact ⟨rfl, Below.now hC hb, hb⟩
          conv => arg 8; simp only [List.cons_append, List.nil_append]
          apply each_read (fun _ => Below.refl _ _) rfl
          · intro u wv hC hf
            have y1 := (HR.out.later hC).facts.2.1
            obtain ⟨d3_0, d5_1, -⟩ := hf
            have e3 : u 3 = _ := d3_0 rfl
            clear d3_0
            have e5 : u 5 = _ := d5_1 rfl
            clear d5_1
            go_simp
            try rfl
          conv => arg 8; simp only [List.cons_append, List.nil_append]
          apply each_read (fun _ => Below.refl _ _) rfl
          · intro u wv hC hf
            have y1 := (HR.out.later hC).facts.2.1
            clear hf
            go_simp
            try rfl
          conv => arg 8; simp only [List.cons_append, List.nil_append]
          apply each_callR rfl
          · intro u wv hC hf
            have y1 := (HR.out.later hC).facts.2.1
            obtain ⟨d7_0, d5_1, -⟩ := hf
            have e7 : u 7 = _ := d7_0 rfl
            clear d7_0
            have e5 : u 5 = _ := d5_1 rfl
            clear d5_1
            apply Exists.intro; apply Exists.intro; apply And.intro
            · go_simp; exact ⟨rfl, rfl⟩
            · refine (HL0.out _).mono ?_
              rintro e w3 ⟨rfl, hb⟩
              exact ⟨rfl, Below.now hC hb, hb⟩
          conv => arg 8; simp only [List.cons_append, List.nil_append]
          apply each_read (fun _ => Below.refl _ _) rfl
          · intro u wv hC hf
            have y1 := (HR.out.later hC).facts.2.1
            clear hf
            go_simp
            try rfl
          conv => arg 8; simp only [List.cons_append, List.nil_append]
          apply each_callR rfl
          · intro u wv hC hf
            have y1 := (HR.out.later hC).facts.2.1
            obtain ⟨d9_0, d8_1, -⟩ := hf
            have e9 : u 9 = _ := d9_0 rfl
            clear d9_0
            have e8 : u 8 = _ := d8_1 rfl
            clear d8_1
            apply Exists.intro; apply Exists.intro; apply And.intro
            · go_simp; exact ⟨rfl, rfl⟩
            · refine (HL1.out _).mono ?_
              rintro e w3 ⟨rfl, hb⟩
              exact ⟨rfl, Below.now hC hb, hb⟩
          conv => arg 8; simp only [List.cons_append, List.nil_append]
          apply each_read (fun _ => Below.refl _ _) rfl
          · intro u wv hC hf
            have y1 := (HR.out.later hC).facts.2.1
            obtain ⟨d8_0, d10_1, -⟩ := hf
            have e8 : u 8 = _ := d8_0 rfl
            clear d8_0
            have e10 : u 10 = _ := d10_1 rfl
            clear d10_1
            go_simp
            try rfl
          conv => arg 8; simp only [List.cons_append, List.nil_append]
          apply each_read (fun _ => Below.refl _ _) rfl
          · intro u wv hC hf
            have y1 := (HR.out.later hC).facts.2.1
            obtain ⟨d6_0, d11_1, -⟩ := hf
            have e6 : u 6 = _ := d6_0 rfl
            clear d6_0
            have e11 : u 11 = _ := d11_1 rfl
            clear d11_1
            go_simp
            try rfl
          conv => arg 8; simp only [List.cons_append, List.nil_append]
          refine each_do (fun v wv => ∃ g7, v = .slice (some ⟨g7, 0, none⟩) 1 1 ∧ wv.cell? ⟨g7, 0, none⟩ = some (.string (P1 ++ P0)) ∧ wv.cell? ⟨g7, 1, none⟩ = some (.string (P0 ++ P1))) (fun v w w2 _ hR ⟨g7, h1, hc, hd⟩ => ⟨g7, h1, (hR.cell (World.block_lt_of_cell? _ _ hc)).trans hc, (hR.cell (World.block_lt_of_cell? _ _ hd)).trans hd⟩) rfl ?_ ?_
          · intro u wv hC hf
            have y1 := (HR.out.later hC).facts.2.1
            obtain ⟨d12_0, -⟩ := hf
            have e12 : u 12 = _ := d12_0 rfl
            clear d12_0
            refine ⟨.slice (some ⟨wv.heap.size, 0, none⟩) 1 1, wv.alloc (.cells #[.string (P1 ++ P0), .string (P0 ++ P1)] 120), ?_, Below.alloc hC hC.size _, alloc_belowS _ _, wv.heap.size, rfl, (rec_cells (alloc_at wv _)).1, (rec_cells (alloc_at wv _)).2.1⟩
            go_simp
            try rfl
          intro u w7 d7 hall
          obtain ⟨a0, a1, a2, a3, a4, a5, a6, a7, a8, a9, a10, a11, a12, a13, -⟩ := hall
          have e0 : u 0 = _ := a0
          clear a0
          have e1 : u 1 = _ := a1
          clear a1
          have e2 : u 2 = _ := a2
          clear a2
          have e3 : u 3 = _ := a3
          clear a3
          have e4 : u 4 = _ := a4
          clear a4
          have e5 : u 5 = _ := a5
          clear a5
          have e6 : u 6 = _ := a6
          clear a6
          have e7 : u 7 = _ := a7
          clear a7
          have e8 : u 8 = _ := a8
          clear a8
          have e9 : u 9 = _ := a9
          clear a9
          have e10 : u 10 = _ := a10
          clear a10
          have e11 : u 11 = _ := a11
          clear a11
          have e12 : u 12 = _ := a12
          clear a12
          obtain ⟨g13, e13, r13, s13⟩ := a13
          replace e13 : u 13 = _ := e13
          change wpList _ _ _ (List.drop 14 _) _ _
          simp only [List.drop_succ_cons, List.drop_zero]
          simp only [e0, e1, e2, e3, e4, e5, e6, e7, e8, e9, e10, e11, e12, e13]
          clear e0 e1 e2 e3 e4 e5 e6 e7 e8 e9 e10 e11 e12 e13
          have HR7 := Lib.hid (HR.out.later d7)
          have HZ7 := Lib.hid (block_later HZ0.out _ d7)
          refine wpList_appB rfl (.tmp 24) (.tmp 36) rfl Tryz.underlying23 Tryz.infoRule rfl (by decide) rfl HR7.out.own HR7.out.lt rfl (m := 1) (news := [.string (P1 ++ P0), .string (P0 ++ P1)]) (fun j u hu => by
            match j, hu with
            | 0, hu =>
              obtain rfl := Option.some.inj hu
              rw [add_off]
              exact r13
            | 1, hu =>
              obtain rfl := Option.some.inj hu
              rw [add_off]
              exact s13
            | j + 2, hu => cases hu) rfl (by decide) (fun u hu => by simp at hu; rcases hu with rfl | rfl <;> rfl) (by unfold maxLen; simp) (by simp) ?_
          intro g4 c4 w9 hn9 hg9 _
          obtain ⟨hbk, hput⟩ := HR7.out.putM hg9 hn9
          have HZ9 : Hid ((w9.setCell ⟨w.heap.size + 1, 1, none⟩ (.slice (some ⟨g4, 0, none⟩) 1 c4)).heap[w.heap.size]? = some (.cells #[.int .i64 0, .slice none 0 0] 25 (0, 0))) := Lib.hid (by
            have h1 := (hg9.block w.heap.size (by have := (Array.getElem?_eq_some_iff.1 HZ7.out).1; omega) (fun e => by have := (HR7.out.own.lt _ e.symm).1; omega)).trans HZ7.out
            unfold World.setCell
            rw [Array.getElem?_modify, if_neg (by show ¬ w.heap.size + 1 = w.heap.size; omega)]
            exact h1)
          have HP9 : Hid (Rec2 25 120 2 w (w9.setCell ⟨w.heap.size + 1, 1, none⟩ (.slice (some ⟨g4, 0, none⟩) 1 c4)) (w.heap.size + 1) (.int .i64 2) (.slice (some ⟨g4, 0, none⟩) 1 c4) [sortR].length (ruleCells [sortR])) := Lib.hid (by rw [HSR.out]; exact hput)
          obtain ⟨q0, q1, f0, f1⟩ := rec_cells hbk
          clear hbk hput hn9 hg9 r13 s13
          go_wp2_with fail
          go_roundw
          case rel => exact ⟨_, [sortR], .inr ⟨rfl, rfl⟩, HP9, HZ9⟩
          case measure => simp [intOf]
        · go_wp2_with fail
          go_roundw
          case rel => exact ⟨_, [sortR], .inr ⟨rfl, rfl⟩, HR, HZ0⟩
          case measure => simp [intOf]
    · obtain ⟨a1, c1, rfl⟩ := owns_form HR.out.own
      obtain ⟨y0, y1, _, _⟩ := HR.out.facts
      obtain ⟨z0, z1, f0, f1⟩ := rec_cells HZ0.out
      obtain ⟨u0, u1, _, _⟩ := rec_cells (set_two HZ0.out (.int .i64 2) (.slice a1 1 c1))
      have F : Hid (RulesIn ((wr.setCell ⟨w.heap.size, 0, none⟩ (.int .i64 2)).setCell ⟨w.heap.size, 1, none⟩ (.slice a1 1 c1)) a1 [sortR] ∧ Below w.heap.size w ((wr.setCell ⟨w.heap.size, 0, none⟩ (.int .i64 2)).setCell ⟨w.heap.size, 1, none⟩ (.slice a1 1 c1))) := Lib.hid ⟨rules_set2 (owns_rules HR.out.own) HZ0.out _ _, (HR.out.below.setCell (Nat.le_refl _) _).setCell (Nat.le_refl _) _⟩
      go_wp2_with fail
      refine bodyPost_ret (v := .tuple #[.agg #[.int .i64 2, .slice a1 1 c1], .bool true]) ?_ rfl ⟨a1, c1, rfl, F.out.1, F.out.2⟩
      simp [results, Tryz.results66, go_sem, u0, u1]
end Go.Proofs.YtoddpmdjjgnpgaaGreatDoor
namespace Go.Proofs.YtoddpmdjjgnpgaaGreatDoor
open Go.RowKit
set_option linter.unusedVariables false
/-- a system, a word, some links -/
def RetMkC (w : World) (e : Ending) (w' : World) : Prop := ∃ (k : Int) (aR : Option Addr) (nR cR : Nat) (s : ByteArray) (L : List (Int × Int × Bool)) (aL : Option Addr) (cL : Nat),
  (RngK L ∧ L.length ≤ 24) ∧ e = .returned (.tuple #[.agg #[.int .i64 k, .slice aR nR cR], .string s, .slice aL L.length cL]) ∧ LinksIn w' aL L ∧ Below w.heap.size w w'
theorem link_lit (w : World) : LinksIn (w.alloc (.cells #[.int .i64 0, .int .i64 0, .bool false] 114)) (some ⟨w.heap.size, 0, none⟩) [(0, 0, false)] := by
  refine .inr ⟨_, _, rfl, fun i hi => ?_⟩
  rw [Nat.zero_add, World.cell?_alloc_new]
  match i, hi with
  | 0, _ => rfl
  | 1, _ => rfl
  | 2, _ => rfl
  | n + 3, hi => simp [linkCells] at hi; omega
theorem RngK.zero : RngK [(0, 0, false)] := fun j hj => by
  match j, hj with
  | 0, _ => exact ⟨⟨by decide, by decide⟩, by decide, by decide⟩
  | n + 1, hj => simp at hj
theorem links_ne {wr : World} {aL : Option Addr} {L : List (Int × Int × Bool)} {b : Nat} {x y : Value} (h : LinksIn wr aL L) (hz : wr.heap[b]? = some (.cells #[x, y] 25 (0, 0))) (hy : ∀ i, y ≠ .int .i64 i) (hb : ∀ c, y ≠ .bool c) : L ≠ [] → ∀ p, aL = some p → p.block ≠ b := fun hne p hp e => by
  obtain ⟨c, off, ha, hc, hcs⟩ := h.cell (i := 0) (List.length_pos_iff.2 hne)
  rw [hp] at ha
  have ep := Option.some.inj ha
  rw [ep] at e
  simp only [] at e
  subst e
  obtain ⟨h0, h1, h2⟩ := hcs 0 (List.length_pos_iff.2 hne)
  simp only [World.cell?, hz] at h0 h1 h2
  match off, h0, h1, h2 with
  | 0, h0, h1, h2 => exact hy _ (Option.some.inj h1)
  | 1, h0, h1, h2 => exact hy _ (Option.some.inj h0)
  | n + 2, h0, h1, h2 => cases h0
set_option maxRecDepth 20000 in
set_option maxHeartbeats 4000000 in
theorem specMakeChain_c (a : Option Addr) (l : List UInt8) (cap n : Nat) (w : World) (hl : BytesIn w a l) (hlen : l.length ≤ 2 ^ 40) (hn : n ≤ 1000) :
    Calls Tryz.prog 22 #[.slice a l.length cap, .int .i64 (n : Nat)] w (RetMkC w) := by
  have HZ1 := Lib.hid (alloc_at w (.cells #[.int .i64 0, .slice none 0 0] 25))
  have HW1 := Lib.hid (alloc_belowS w (.cells #[.int .i64 0, .slice none 0 0] 25))
  have HN := Lib.hid (l31New_any a l cap n (w.alloc (.cells #[.int .i64 0, .slice none 0 0] 25)) (hl.later HW1.out) hlen hn)
  have hsz : w.heap.size < (w.alloc (.cells #[.int .i64 0, .slice none 0 0] 25)).heap.size := by simp
  go_enter Tryz.func22, Tryz.ntmps22
  go_upto_region 1 with fail
  generalize w.alloc (.cells #[.int .i64 0, .slice none 0 0] 25) = w1 at *
  go_wp2_with fail
  refine HN.out.mono ?_
  rintro e w2 ⟨rfl, hc, hb⟩
  have HD := Lib.hid (l12Chain_c w1.heap.size a l cap w1 w2 hc hb (Nat.le_refl _))
  clear hc hb HN
  go_wp2_with fail
  refine HD.out.mono ?_
  rintro e w3 ⟨k, R, aR, cR, s, L, aL, cL, ⟨⟨⟨hs1, hs2⟩, hs24⟩, hrk, hl24⟩, rfl, hR, hL, -, hb3, -⟩
  have hb4 := alloc_belowS w3 (.cells #[.int .i64 k, .slice aR R.length cR] 25)
  have HB4 := Lib.hid (Below.now (Below.now HW1.out (show Below w1.heap.size w1 w3 from hb3)) hb4)
  have HZ4 := Lib.hid (block_later (block_later HZ1.out _ (show Below w1.heap.size w1 w3 from hb3)) _ hb4)
  have HR4 := Lib.hid (hR.later hb4)
  have HL4 := Lib.hid (hL.later hb4)
  have HX4 := Lib.hid (alloc_at w3 (.cells #[.int .i64 k, .slice aR R.length cR] 25))
  have HRK := Lib.hid hrk
  have HSZ : Hid (SzR R) := Lib.hid (hs1.sz (by unfold maxLen; omega))
  have HSO := Lib.hid (fun W h => specSystemOk_any k R aR cR W h (by omega) HSZ.out)
  have HWO := Lib.hid (fun W => specWordOk_any k s W (by unfold maxLen; omega))
  have HCO := Lib.hid (fun W h h2 => specChainOf_c k R aR cR s L aL cL W h (by omega) HSZ.out (by omega) h2 (by omega))
  have HGX : Hid (w.heap.size < w3.heap.size) := Lib.hid (Nat.lt_of_lt_of_le hsz (show Below w1.heap.size w1 w3 from hb3).size)
  clear hb4 hR hL hb3 hrk HD hs1
  obtain ⟨x0, x1⟩ := sys_cells HX4.out
  go_upto_region 3 with fail
  generalize w3.alloc (.cells #[.int .i64 k, .slice aR R.length cR] 25) = w4 at *
  generalize w3.heap.size = g at *
  go_wp2_with fail
  refine (HSO.out _ HR4.out).mono ?_
  rintro e w5 ⟨b5, -, rfl, hb5⟩
  have HB5 := Lib.hid (Below.now HB4.out hb5)
  have HZ5 := Lib.hid (block_later HZ4.out _ hb5)
  have HR5 := Lib.hid (HR4.out.later hb5)
  have HL5 := Lib.hid (HL4.out.later hb5)
  have HX5 := Lib.hid (block_later HX4.out _ hb5)
  clear hb5 HB4 HZ4 HR4 HL4 HX4 HSO x0 x1
  obtain ⟨x0, x1⟩ := sys_cells HX5.out
  cases b5
  · clear HWO
    clear HL5 HR5 HCO 
    go_wp2_with fail
    refine (specSorting2_any _).mono ?_
    rintro e w6 ⟨a1, c1, rfl, -, hb6⟩
    have HB6 := Lib.hid (Below.now HB5.out hb6)
    have hz6 := block_later HZ5.out _ hb6
    have hx6 := block_later HX5.out _ hb6
    have hx7 := set_two hx6 (.int .i64 2) (.slice a1 1 c1)
    have hz7 : ((w6.setCell ⟨g, 0, none⟩ (.int .i64 2)).setCell ⟨g, 1, none⟩ (.slice a1 1 c1)).heap[w.heap.size]? = some (.cells #[.int .i64 0, .slice none 0 0] 25 (0, 0)) := ((set_miss (by have := HGX.out; omega) _).trans (set_miss (by have := HGX.out; omega) _)).trans hz6
    have HB7 : Hid (Below w.heap.size w ((w6.setCell ⟨g, 0, none⟩ (.int .i64 2)).setCell ⟨g, 1, none⟩ (.slice a1 1 c1))) := Lib.hid ((HB6.out.setCell (p := ⟨g, 0, none⟩) (by have := HGX.out; show w.heap.size ≤ g; omega) _).setCell (p := ⟨g, 1, none⟩) (by have := HGX.out; show w.heap.size ≤ g; omega) _)
    obtain ⟨n0, n1, n2, n3⟩ := rec_cells hx6
    clear hb6 HB5 HZ5 HX5 x0 x1 HB6 hz6 hx6
    go_upto_region 5 with fail
    generalize (w6.setCell ⟨g, 0, none⟩ (.int .i64 2)).setCell ⟨g, 1, none⟩ (.slice a1 1 c1) = w7 at *
    clear n0 n1 n2 n3
    have hb8 := alloc_belowS w7 (.cells #[.int .i64 0, .int .i64 0, .bool false] 114)
    have hz8 := block_later hz7 _ hb8
    have hzl := (Array.getElem?_eq_some_iff.1 hz7).1
    have F : Hid (RetMkC w (.returned (.tuple #[.agg #[.int .i64 2, .slice a1 1 c1], .string ⟨#[98, 97]⟩, .slice (some ⟨w7.heap.size, 0, none⟩) 1 1])) (((w7.alloc (.cells #[.int .i64 0, .int .i64 0, .bool false] 114)).setCell ⟨w.heap.size, 0, none⟩ (.int .i64 2)).setCell ⟨w.heap.size, 1, none⟩ (.slice a1 1 c1))) :=
      Lib.hid ⟨_, _, _, _, _, [(0, 0, false)], _, 1, ⟨RngK.zero, by decide⟩, rfl, links_setFar (links_setFar (link_lit w7) (fun _ x hx e => by rw [← Option.some.inj hx] at e; simp only [] at e; omega) _ _) (fun _ x hx e => by rw [← Option.some.inj hx] at e; simp only [] at e; omega) _ _, ((Below.now HB7.out hb8).setCell (p := ⟨w.heap.size, 0, none⟩) (Nat.le_refl _) _).setCell (p := ⟨w.heap.size, 1, none⟩) (Nat.le_refl _) _⟩
    obtain ⟨m0, m1, _, _⟩ := rec_cells hx7
    obtain ⟨z0, z1, ff0, ff1⟩ := rec_cells hz8
    obtain ⟨u0, u1, _, _⟩ := rec_cells (set_two hz8 (.int .i64 2) (.slice a1 1 c1))
    clear hx7 hz7 hb8 hz8 hzl HB7
    go_wp2_with fail
    refine bodyPost_ret (v := .tuple #[.agg #[.int .i64 2, .slice a1 1 c1], .string ⟨#[98, 97]⟩, .slice (some ⟨w7.heap.size, 0, none⟩) 1 1]) ?_ rfl F.out
    simp [results, Tryz.results22, go_sem, u0, u1]
  · cases hw : wordOkB k s
    · rw [hw] at HWO
      clear hw
      go_wp2_with fail
      refine (HWO.out _).mono ?_
      rintro e w5b ⟨rfl, rfl⟩
      clear HL5 HR5 HCO 
      go_wp2_with fail
      refine (specSorting2_any _).mono ?_
      rintro e w6 ⟨a1, c1, rfl, -, hb6⟩
      have HB6 := Lib.hid (Below.now HB5.out hb6)
      have hz6 := block_later HZ5.out _ hb6
      have hx6 := block_later HX5.out _ hb6
      have hx7 := set_two hx6 (.int .i64 2) (.slice a1 1 c1)
      have hz7 : ((w6.setCell ⟨g, 0, none⟩ (.int .i64 2)).setCell ⟨g, 1, none⟩ (.slice a1 1 c1)).heap[w.heap.size]? = some (.cells #[.int .i64 0, .slice none 0 0] 25 (0, 0)) := ((set_miss (by have := HGX.out; omega) _).trans (set_miss (by have := HGX.out; omega) _)).trans hz6
      have HB7 : Hid (Below w.heap.size w ((w6.setCell ⟨g, 0, none⟩ (.int .i64 2)).setCell ⟨g, 1, none⟩ (.slice a1 1 c1))) := Lib.hid ((HB6.out.setCell (p := ⟨g, 0, none⟩) (by have := HGX.out; show w.heap.size ≤ g; omega) _).setCell (p := ⟨g, 1, none⟩) (by have := HGX.out; show w.heap.size ≤ g; omega) _)
      obtain ⟨n0, n1, n2, n3⟩ := rec_cells hx6
      clear hb6 HB5 HZ5 HX5 x0 x1 HB6 hz6 hx6
      go_upto_region 5 with fail
      generalize (w6.setCell ⟨g, 0, none⟩ (.int .i64 2)).setCell ⟨g, 1, none⟩ (.slice a1 1 c1) = w7 at *
      clear n0 n1 n2 n3
      have hb8 := alloc_belowS w7 (.cells #[.int .i64 0, .int .i64 0, .bool false] 114)
      have hz8 := block_later hz7 _ hb8
      have hzl := (Array.getElem?_eq_some_iff.1 hz7).1
      have F : Hid (RetMkC w (.returned (.tuple #[.agg #[.int .i64 2, .slice a1 1 c1], .string ⟨#[98, 97]⟩, .slice (some ⟨w7.heap.size, 0, none⟩) 1 1])) (((w7.alloc (.cells #[.int .i64 0, .int .i64 0, .bool false] 114)).setCell ⟨w.heap.size, 0, none⟩ (.int .i64 2)).setCell ⟨w.heap.size, 1, none⟩ (.slice a1 1 c1))) :=
        Lib.hid ⟨_, _, _, _, _, [(0, 0, false)], _, 1, ⟨RngK.zero, by decide⟩, rfl, links_setFar (links_setFar (link_lit w7) (fun _ x hx e => by rw [← Option.some.inj hx] at e; simp only [] at e; omega) _ _) (fun _ x hx e => by rw [← Option.some.inj hx] at e; simp only [] at e; omega) _ _, ((Below.now HB7.out hb8).setCell (p := ⟨w.heap.size, 0, none⟩) (Nat.le_refl _) _).setCell (p := ⟨w.heap.size, 1, none⟩) (Nat.le_refl _) _⟩
      obtain ⟨m0, m1, _, _⟩ := rec_cells hx7
      obtain ⟨z0, z1, ff0, ff1⟩ := rec_cells hz8
      obtain ⟨u0, u1, _, _⟩ := rec_cells (set_two hz8 (.int .i64 2) (.slice a1 1 c1))
      clear hx7 hz7 hb8 hz8 hzl HB7
      go_wp2_with fail
      refine bodyPost_ret (v := .tuple #[.agg #[.int .i64 2, .slice a1 1 c1], .string ⟨#[98, 97]⟩, .slice (some ⟨w7.heap.size, 0, none⟩) 1 1]) ?_ rfl F.out
      simp [results, Tryz.results22, go_sem, u0, u1]
    · rw [hw] at HWO
      clear hw
      go_wp2_with fail
      refine (HWO.out _).mono ?_
      rintro e w5b ⟨rfl, rfl⟩
      go_wp2_with fail
      refine (HCO.out _ HR5.out HL5.out).mono ?_
      rintro e w6 ⟨v6, b6, rfl, hb6⟩
      have HB6 := Lib.hid (Below.now HB5.out hb6)
      have hz6 := block_later HZ5.out _ hb6
      have hx6 := block_later HX5.out _ hb6
      have HL6 := Lib.hid (HL5.out.later hb6)
      clear hb6 HB5 HZ5 HX5 HL5 HR5 HCO HWO x0 x1
      cases b6
      · have hb8 := alloc_belowS w6 (.cells #[] 114)
        have hz8 := block_later hz6 _ hb8
        have F : Hid (RetMkC w (.returned (.tuple #[.agg #[.int .i64 k, .slice aR R.length cR], .string s, .slice (some ⟨w6.heap.size, 0, none⟩) 0 0])) (((w6.alloc (.cells #[] 114)).setCell ⟨w.heap.size, 0, none⟩ (.int .i64 k)).setCell ⟨w.heap.size, 1, none⟩ (.slice aR R.length cR))) :=
          Lib.hid ⟨_, _, _, _, _, [], _, 0, ⟨RngK.nil, Nat.zero_le _⟩, rfl, .inl rfl, ((Below.now HB6.out hb8).setCell (p := ⟨w.heap.size, 0, none⟩) (Nat.le_refl _) _).setCell (p := ⟨w.heap.size, 1, none⟩) (Nat.le_refl _) _⟩
        obtain ⟨m0, m1, _, _⟩ := rec_cells hx6
        obtain ⟨z0, z1, ff0, ff1⟩ := rec_cells hz8
        obtain ⟨u0, u1, _, _⟩ := rec_cells (set_two hz8 (.int .i64 k) (.slice aR R.length cR))
        clear hx6 hz6 hb8 hz8
        go_wp2_with fail
        refine bodyPost_ret (v := .tuple #[.agg #[.int .i64 k, .slice aR R.length cR], .string s, .slice (some ⟨w6.heap.size, 0, none⟩) 0 0]) ?_ rfl F.out
        simp [results, Tryz.results22, go_sem, u0, u1]
      · have hne := links_ne HL6.out hz6 (fun i e => by cases e) (fun c e => by cases e)
        have F : Hid (RetMkC w (.returned (.tuple #[.agg #[.int .i64 k, .slice aR R.length cR], .string s, .slice aL L.length cL])) ((w6.setCell ⟨w.heap.size, 0, none⟩ (.int .i64 k)).setCell ⟨w.heap.size, 1, none⟩ (.slice aR R.length cR))) :=
          Lib.hid ⟨_, _, _, _, _, L, _, cL, ⟨HRK.out, hl24⟩, rfl, links_setFar (links_setFar HL6.out hne _ _) hne _ _, (HB6.out.setCell (p := ⟨w.heap.size, 0, none⟩) (Nat.le_refl _) _).setCell (p := ⟨w.heap.size, 1, none⟩) (Nat.le_refl _) _⟩
        obtain ⟨m0, m1, _, _⟩ := rec_cells hx6
        obtain ⟨z0, z1, ff0, ff1⟩ := rec_cells hz6
        obtain ⟨u0, u1, _, _⟩ := rec_cells (set_two hz6 (.int .i64 k) (.slice aR R.length cR))
        clear hx6 hz6 hne
        go_wp2_with fail
        refine bodyPost_ret (v := .tuple #[.agg #[.int .i64 k, .slice aR R.length cR], .string s, .slice aL L.length cL]) ?_ rfl F.out
        simp [results, Tryz.results22, go_sem, u0, u1]
end Go.Proofs.YtoddpmdjjgnpgaaGreatDoor
