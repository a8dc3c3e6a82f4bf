/-
  Idempotents, regular elements and the group with an idempotent: plain facts of a valid table.
-/
import Derived.Test.YtgoeadgpbidgiaaGreatDoorMnp32
import Derived.Test.YtgoeadgpbidgiaaGreatDoorMnp36
import Derived.Test.YtgoeadgpbidgiaaGreatDoorMnp23
import Derived.Test.YtgoeadgpbidgiaaGreatDoorMnp13
import Derived.Test.YtgoeadgpbidgiaaGreatDoorMnp17
import Derived.Test.YtgoeadgpbidgiaaGreatDoorMnp26
import Derived.Test.YtgoeadgpbidgiaaGreatDoorMnp03
import Derived.Test.YtgoeadgpbidgiaaGreatDoorMnp16
namespace Go.Proofs.YtgoeadgpbidgiaaGreatDoor
open Go.RowKit
set_option linter.unusedVariables false
theorem l13LetterM_any (x : Nat) (w : World) (hx : x < 26) : Calls Tryz.prog 101 #[.int .i64 (x : Nat)] w fun e w' => e = .returned (.string (letterN x)) ∧ Below w.heap.size w w' := by
  have kc := convC
  have hu : IntKind.u8.wrap (97 + (x : Int)) = 97 + (x : Int) := by simp [IntKind.wrap, IntKind.signed, IntKind.bits]; omega
  have HL : Hid (oneC (97 + (x : Int)) = letterN x) := Lib.hid rfl
  go_enter Tryz.func101, Tryz.ntmps101
  go_wp2_with fail
  go_ret
  exact ⟨rfl, (Below.refl _ _).alloc (Nat.le_refl _) _⟩
theorem Rec2.putM {TT T : TypeId} {size : Nat} {w wr w4 : World} {g : Nat} {x v v' : Value} {n m : Nat} {xs ys : List Value} (h : Rec2 TT T size w wr g x v n xs) (hg : wr.grownBy w4 v.ownBlock) (hn : w4.ownsRow (g + 1) T size v' m ys) :
    w4.heap[g]? = some (.cells #[x, v] TT (0, 0)) ∧ Rec2 TT T size w (w4.setCell ⟨g, 1, none⟩ v') g x v' m ys := by
  have h4 := (hg.block g h.lt (fun e => h.far e.symm)).trans h.blk
  have b4 : Below w.heap.size w w4 := h.below.grown hg h.below.size (fun k hk => by have := (h.own.lt k hk).1; have := h.le; omega)
  refine ⟨h4, ?_, ownsRow_setCell_below hn (by show g < g + 1; omega) _, h.le, b4.setCell h.le _⟩
  unfold World.setCell
  simp [Array.getElem?_modify, h4]
/-- the system that sorts two letters -/
def sortR : RulD := (letterN 1 ++ letterN 0, letterN 0 ++ letterN 1)
theorem sortR_com : ComplP 2 [sortR] := by
  refine ⟨⟨⟨⟨by omega, by decide⟩, fun r hr => ?_⟩, fun r hr => ?_⟩, ?_⟩
  · rw [List.mem_singleton.1 hr]
    refine ⟨⟨⟨by decide +kernel, by decide +kernel⟩, by decide +kernel, by decide +kernel⟩, by decide +kernel⟩
  · rw [List.mem_singleton.1 hr]
    decide +kernel
  · have h : pairsF [sortR] = [] := by decide +kernel
    unfold openF
    rw [h]
    rfl
set_option maxRecDepth 100000 in
set_option maxHeartbeats 4000000 in
theorem specSorting2_any (w : World) : Calls Tryz.prog 52 #[.int .i64 2] w fun e w' => ∃ a c, e = .returned (.tuple #[.agg #[.int .i64 2, .slice a 1 c], .bool true]) ∧ RulesIn w' a [sortR] ∧ Below w.heap.size w w' := by
  have HL1 := Lib.hid (fun W => l13LetterM_any 1 W (by omega))
  have HL0 := Lib.hid (fun W => l13LetterM_any 0 W (by omega))
  have HSR : Hid (ruleCells [sortR] = [.string (letterN 1 ++ letterN 0), .string (letterN 0 ++ letterN 1)]) := Lib.hid rfl
  have hz1 : (letterN 1).size = 1 := rfl
  have hz0 : (letterN 0).size = 1 := rfl
  have HZ : Hid ((letterN 1).size = 1 ∧ (letterN 0).size = 1) := Lib.hid ⟨hz1, hz0⟩
  clear hz1 hz0
  have HP : Hid (∀ W, Calls Tryz.prog 100 #[.int .i64 2, .int .i64 1, .int .i64 4] W fun e w' => e = .returned (.bool true) ∧ W = w') := Lib.hid (fun W => (l01In_any 2 1 4 W).mono (fun e w' h => ⟨by rw [h.1]; rfl, h.2⟩))
  have hb0 := alloc_belowS w (.cells #[.int .i64 0, .slice none 0 0] 33)
  have HR0 : Hid (Rec2 33 39 2 w ((w.alloc (.cells #[.int .i64 0, .slice none 0 0] 33)).alloc (.cells #[.int .i64 2, .slice none 0 0] 33)) (w.heap.size + 1) (.int .i64 2) (.slice none 0 0) ([] : List RulD).length (ruleCells [])) := Lib.hid (by
    have h := Rec2.start 33 39 2 hb0 (.int .i64 2)
    have e : (w.alloc (.cells #[.int .i64 0, .slice none 0 0] 33)).heap.size = w.heap.size + 1 := by simp
    rw [e] at h
    exact h)
  have HZ0 : Hid (((w.alloc (.cells #[.int .i64 0, .slice none 0 0] 33)).alloc (.cells #[.int .i64 2, .slice none 0 0] 33)).heap[w.heap.size]? = some (.cells #[.int .i64 0, .slice none 0 0] 33 (0, 0))) := Lib.hid (alloc_two w _ _).1
  clear hb0
  go_enter Tryz.func52, Tryz.ntmps52
  go_wp2_with fail
  refine (HP.out _).mono ?_
  rintro e w2 ⟨rfl, rfl⟩
  go_wp2_with fail
  generalize hP1 : letterN 1 = P1 at *
  generalize hP0 : letterN 0 = P0 at *
  go_loopw [5] (fun vy wr => ∃ (v : Value) (R : List RulD), (vy = .int .i64 1 ∧ R = [] ∨ vy = .int .i64 2 ∧ R = [sortR]) ∧ Hid (Rec2 33 39 2 w wr (w.heap.size + 1) (.int .i64 2) v R.length (ruleCells R)) ∧ Hid (wr.heap[w.heap.size]? = some (.cells #[.int .i64 0, .slice none 0 0] 33 (0, 0)))) (fun vy _ => 2 - (intOf vy).toNat)
  case atStart => exact ⟨_, [], .inl ⟨rfl, rfl⟩, HR0, HZ0⟩
  case round =>
    clear HR0 HZ0
    obtain ⟨v0, R, hc, HR, HZ0⟩ := hrel
    rcases hc with ⟨rfl, rfl⟩ | ⟨rfl, rfl⟩
    · go_wp2_with fail
      generalize hW0 : wr = wr0 at *
      clear hW0
      go_loopw [6] (fun vx wr => ∃ (v : Value) (R : List RulD), (vx = .int .i64 0 ∧ R = [] ∨ vx = .int .i64 1 ∧ R = [sortR]) ∧ Hid (Rec2 33 39 2 w wr (w.heap.size + 1) (.int .i64 2) v R.length (ruleCells R)) ∧ Hid (wr.heap[w.heap.size]? = some (.cells #[.int .i64 0, .slice none 0 0] 33 (0, 0)))) (fun vx _ => 1 - (intOf vx).toNat)
      case atStart => exact ⟨_, [], .inl ⟨rfl, rfl⟩, HR, HZ0⟩
      case round =>
        clear HR HZ0
        obtain ⟨v1, R, hc, HR, HZ0⟩ := hrel
        rcases hc with ⟨rfl, rfl⟩ | ⟨rfl, rfl⟩
        · have n10 : ¬ 9223372036854775807 < P1.size + P0.size := by have := HZ.out; omega
          have n01 : ¬ 9223372036854775807 < P0.size + P1.size := by have := HZ.out; omega
          obtain ⟨a1, c1, rfl⟩ := owns_form HR.out.own
          go_upto_region 10 with fail
          refine region_tail 14 (fun W => Below wr.heap.size wr W) (fun W W2 => Below W.heap.size W W2) (fun u => by simp only [List.take_succ_cons, List.take_zero, fPut, Act.put, List.setIfInBounds_toArray, List.set_cons_succ, List.set_cons_zero, Nat.zero_add, Nat.reduceAdd]; rfl) (by kernel_rfl) (by kernel_rfl) (by kernel_rfl) (by kernel_rfl) (by kernel_rfl) (by kernel_rfl) (by kernel_rfl) (Below.drew (Below.refl _ _)) ?_
          conv => arg 7; simp only [List.take_succ_cons, List.take_zero]
          apply each_read (fun _ => Below.refl _ _) rfl
          · intro u wv hC hf
            have y1 := (HR.out.later hC).facts.2.1
            clear hf
            go_simp
            try rfl
          apply each_read (fun _ => Below.refl _ _) rfl
          · intro u wv hC hf
            have y1 := (HR.out.later hC).facts.2.1
            obtain ⟨d0_0, -⟩ := hf
            have e0 : u 0 = _ := d0_0 rfl
            clear d0_0
            go_simp
            try rfl
          conv => arg 8; simp only [List.cons_append, List.nil_append]
          apply each_read (fun _ => Below.refl _ _) rfl
          · intro u wv hC hf
            have y1 := (HR.out.later hC).facts.2.1
            clear hf
            go_simp
            try rfl
          conv => arg 8; simp only [List.cons_append, List.nil_append]
          apply each_callR rfl
          · intro u wv hC hf
            have y1 := (HR.out.later hC).facts.2.1
            obtain ⟨d2_0, -⟩ := hf
            have e2 : u 2 = _ := d2_0 rfl
            clear d2_0
            apply Exists.intro; apply Exists.intro; apply And.intro
            · go_simp; exact ⟨rfl, rfl⟩
            · refine (HL1.out _).mono ?_
              rintro e w3 ⟨rfl, hb⟩
              exact ⟨rfl, Below.now hC hb, hb⟩
          conv => arg 8; simp only [List.cons_append, List.nil_append]
          apply each_read (fun _ => Below.refl _ _) rfl
          · intro u wv hC hf
            have y1 := (HR.out.later hC).facts.2.1
            clear hf
            go_simp
            try rfl
          conv => arg 8; simp only [List.cons_append, List.nil_append]
          apply each_callR rfl
          · intro u wv hC hf
            have y1 := (HR.out.later hC).facts.2.1
            obtain ⟨d4_0, d3_1, -⟩ := hf
            have e4 : u 4 = _ := d4_0 rfl
            clear d4_0
            have e3 : u 3 = _ := d3_1 rfl
            clear d3_1
            apply Exists.intro; apply Exists.intro; apply And.intro
            · go_simp; exact ⟨rfl, rfl⟩
            · refine (HL0.out _).mono ?_
              rintro e w3 ⟨rfl, hb⟩
              exact ⟨rfl, Below.now hC hb, hb⟩
          conv => arg 8; simp only [List.cons_append, List.nil_append]
          apply each_read (fun _ => Below.refl _ _) rfl
          · intro u wv hC hf
            have y1 := (HR.out.later hC).facts.2.1
            obtain ⟨d3_0, d5_1, -⟩ := hf
            have e3 : u 3 = _ := d3_0 rfl
            clear d3_0
            have e5 : u 5 = _ := d5_1 rfl
            clear d5_1
            go_simp
            try rfl
          conv => arg 8; simp only [List.cons_append, List.nil_append]
          apply each_read (fun _ => Below.refl _ _) rfl
          · intro u wv hC hf
            have y1 := (HR.out.later hC).facts.2.1
            clear hf
            go_simp
            try rfl
          conv => arg 8; simp only [List.cons_append, List.nil_append]
          apply each_callR rfl
          · intro u wv hC hf
            have y1 := (HR.out.later hC).facts.2.1
            obtain ⟨d7_0, d5_1, -⟩ := hf
            have e7 : u 7 = _ := d7_0 rfl
            clear d7_0
            have e5 : u 5 = _ := d5_1 rfl
            clear d5_1
            apply Exists.intro; apply Exists.intro; apply And.intro
            · go_simp; exact ⟨rfl, rfl⟩
            · refine (HL0.out _).mono ?_
              rintro e w3 ⟨rfl, hb⟩
              exact ⟨rfl, Below.now hC hb, hb⟩
          conv => arg 8; simp only [List.cons_append, List.nil_append]
          apply each_read (fun _ => Below.refl _ _) rfl
          · intro u wv hC hf
            have y1 := (HR.out.later hC).facts.2.1
            clear hf
            go_simp
            try rfl
          conv => arg 8; simp only [List.cons_append, List.nil_append]
          apply each_callR rfl
          · intro u wv hC hf
            have y1 := (HR.out.later hC).facts.2.1
            obtain ⟨d9_0, d8_1, -⟩ := hf
            have e9 : u 9 = _ := d9_0 rfl
            clear d9_0
            have e8 : u 8 = _ := d8_1 rfl
            clear d8_1
            apply Exists.intro; apply Exists.intro; apply And.intro
            · go_simp; exact ⟨rfl, rfl⟩
            · refine (HL1.out _).mono ?_
              rintro e w3 ⟨rfl, hb⟩
              exact ⟨rfl, Below.now hC hb, hb⟩
          conv => arg 8; simp only [List.cons_append, List.nil_append]
          apply each_read (fun _ => Below.refl _ _) rfl
          · intro u wv hC hf
            have y1 := (HR.out.later hC).facts.2.1
            obtain ⟨d8_0, d10_1, -⟩ := hf
            have e8 : u 8 = _ := d8_0 rfl
            clear d8_0
            have e10 : u 10 = _ := d10_1 rfl
            clear d10_1
            go_simp
            try rfl
          conv => arg 8; simp only [List.cons_append, List.nil_append]
          apply each_read (fun _ => Below.refl _ _) rfl
          · intro u wv hC hf
            have y1 := (HR.out.later hC).facts.2.1
            obtain ⟨d6_0, d11_1, -⟩ := hf
            have e6 : u 6 = _ := d6_0 rfl
            clear d6_0
            have e11 : u 11 = _ := d11_1 rfl
            clear d11_1
            go_simp
            try rfl
          conv => arg 8; simp only [List.cons_append, List.nil_append]
          refine each_do (fun v wv => ∃ g7, v = .slice (some ⟨g7, 0, none⟩) 1 1 ∧ wv.cell? ⟨g7, 0, none⟩ = some (.string (P1 ++ P0)) ∧ wv.cell? ⟨g7, 1, none⟩ = some (.string (P0 ++ P1))) (fun v w w2 _ hR ⟨g7, h1, hc, hd⟩ => ⟨g7, h1, (hR.cell (World.block_lt_of_cell? _ _ hc)).trans hc, (hR.cell (World.block_lt_of_cell? _ _ hd)).trans hd⟩) rfl ?_ ?_
          · intro u wv hC hf
            have y1 := (HR.out.later hC).facts.2.1
            obtain ⟨d12_0, -⟩ := hf
            have e12 : u 12 = _ := d12_0 rfl
            clear d12_0
            refine ⟨.slice (some ⟨wv.heap.size, 0, none⟩) 1 1, wv.alloc (.cells #[.string (P1 ++ P0), .string (P0 ++ P1)] 39), ?_, Below.alloc hC hC.size _, alloc_belowS _ _, wv.heap.size, rfl, (rec_cells (alloc_at wv _)).1, (rec_cells (alloc_at wv _)).2.1⟩
            go_simp
            try rfl
          intro u w7 d7 hall
          obtain ⟨a0, a1, a2, a3, a4, a5, a6, a7, a8, a9, a10, a11, a12, a13, -⟩ := hall
          have e0 : u 0 = _ := a0
          clear a0
          have e1 : u 1 = _ := a1
          clear a1
          have e2 : u 2 = _ := a2
          clear a2
          have e3 : u 3 = _ := a3
          clear a3
          have e4 : u 4 = _ := a4
          clear a4
          have e5 : u 5 = _ := a5
          clear a5
          have e6 : u 6 = _ := a6
          clear a6
          have e7 : u 7 = _ := a7
          clear a7
          have e8 : u 8 = _ := a8
          clear a8
          have e9 : u 9 = _ := a9
          clear a9
          have e10 : u 10 = _ := a10
          clear a10
          have e11 : u 11 = _ := a11
          clear a11
          have e12 : u 12 = _ := a12
          clear a12
          obtain ⟨g13, e13, r13, s13⟩ := a13
          replace e13 : u 13 = _ := e13
          change wpList _ _ _ (List.drop 14 _) _ _
          simp only [List.drop_succ_cons, List.drop_zero]
          simp only [e0, e1, e2, e3, e4, e5, e6, e7, e8, e9, e10, e11, e12, e13]
          clear e0 e1 e2 e3 e4 e5 e6 e7 e8 e9 e10 e11 e12 e13
          have HR7 := Lib.hid (HR.out.later d7)
          have HZ7 := Lib.hid (block_later HZ0.out _ d7)
          refine wpList_appB rfl (.tmp 24) (.tmp 36) rfl Tryz.underlying25 Tryz.infoRule rfl (by decide) rfl HR7.out.own HR7.out.lt rfl (m := 1) (news := [.string (P1 ++ P0), .string (P0 ++ P1)]) (fun j u hu => by
            match j, hu with
            | 0, hu =>
              obtain rfl := Option.some.inj hu
              rw [add_off]
              exact r13
            | 1, hu =>
              obtain rfl := Option.some.inj hu
              rw [add_off]
              exact s13
            | j + 2, hu => cases hu) rfl (by decide) (fun u hu => by simp at hu; rcases hu with rfl | rfl <;> rfl) (by unfold maxLen; simp) (by simp) ?_
          intro g4 c4 w9 hn9 hg9 _
          obtain ⟨hbk, hput⟩ := HR7.out.putM hg9 hn9
          have HZ9 : Hid ((w9.setCell ⟨w.heap.size + 1, 1, none⟩ (.slice (some ⟨g4, 0, none⟩) 1 c4)).heap[w.heap.size]? = some (.cells #[.int .i64 0, .slice none 0 0] 33 (0, 0))) := Lib.hid (by
            have h1 := (hg9.block w.heap.size (by have := (Array.getElem?_eq_some_iff.1 HZ7.out).1; omega) (fun e => by have := (HR7.out.own.lt _ e.symm).1; omega)).trans HZ7.out
            unfold World.setCell
            rw [Array.getElem?_modify, if_neg (by show ¬ w.heap.size + 1 = w.heap.size; omega)]
            exact h1)
          have HP9 : Hid (Rec2 33 39 2 w (w9.setCell ⟨w.heap.size + 1, 1, none⟩ (.slice (some ⟨g4, 0, none⟩) 1 c4)) (w.heap.size + 1) (.int .i64 2) (.slice (some ⟨g4, 0, none⟩) 1 c4) [sortR].length (ruleCells [sortR])) := Lib.hid (by rw [HSR.out]; exact hput)
          obtain ⟨q0, q1, f0, f1⟩ := rec_cells hbk
          clear hbk hput hn9 hg9 r13 s13
          go_wp2_with fail
          go_roundw
          case rel => exact ⟨_, [sortR], .inr ⟨rfl, rfl⟩, HP9, HZ9⟩
          case measure => simp [intOf]
        · go_wp2_with fail
          go_roundw
          case rel => exact ⟨_, [sortR], .inr ⟨rfl, rfl⟩, HR, HZ0⟩
          case measure => simp [intOf]
    · obtain ⟨a1, c1, rfl⟩ := owns_form HR.out.own
      obtain ⟨y0, y1, _, _⟩ := HR.out.facts
      obtain ⟨z0, z1, f0, f1⟩ := rec_cells HZ0.out
      obtain ⟨u0, u1, _, _⟩ := rec_cells (set_two HZ0.out (.int .i64 2) (.slice a1 1 c1))
      have F : Hid (RulesIn ((wr.setCell ⟨w.heap.size, 0, none⟩ (.int .i64 2)).setCell ⟨w.heap.size, 1, none⟩ (.slice a1 1 c1)) a1 [sortR] ∧ Below w.heap.size w ((wr.setCell ⟨w.heap.size, 0, none⟩ (.int .i64 2)).setCell ⟨w.heap.size, 1, none⟩ (.slice a1 1 c1))) := Lib.hid ⟨rules_set2 (owns_rules HR.out.own) HZ0.out _ _, (HR.out.below.setCell (Nat.le_refl _) _).setCell (Nat.le_refl _) _⟩
      go_wp2_with fail
      refine bodyPost_ret (v := .tuple #[.agg #[.int .i64 2, .slice a1 1 c1], .bool true]) ?_ rfl ⟨a1, c1, rfl, F.out.1, F.out.2⟩
      simp [results, Tryz.results52, go_sem, u0, u1]
/-- a complete system -/
def RetMC (w : World) (e : Ending) (w' : World) : Prop := ∃ (k : Int) (R : List RulD) (aR : Option Addr) (cR : Nat), ComplP k R ∧ e = .returned (.agg #[.int .i64 k, .slice aR R.length cR]) ∧ RulesIn w' aR R ∧ Below w.heap.size w w'
set_option maxRecDepth 100000 in
set_option maxHeartbeats 4000000 in
theorem specMakeComplete_any (a : Option Addr) (l : List UInt8) (cap n : Nat) (w : World) (hl : BytesIn w a l) (hlen : l.length ≤ 2 ^ 40) (hn : n ≤ 1000) :
    Calls Tryz.prog 19 #[.slice a l.length cap, .int .i64 (n : Nat)] w (RetMC w) := by
  have hlt := alloc_at w (.cells #[.int .i64 0, .slice none 0 0] 33)
  have HW1 := Lib.hid (alloc_belowS w (.cells #[.int .i64 0, .slice none 0 0] 33))
  have HN := Lib.hid (l31New_any a l cap n (w.alloc (.cells #[.int .i64 0, .slice none 0 0] 33)) (hl.later HW1.out) hlen hn)
  have hsz : w.heap.size < (w.alloc (.cells #[.int .i64 0, .slice none 0 0] 33)).heap.size := by simp
  have HBK : Hid (∀ W, Below (w.alloc (.cells #[.int .i64 0, .slice none 0 0] 33)).heap.size (w.alloc (.cells #[.int .i64 0, .slice none 0 0] 33)) W → W.heap[w.heap.size]? = some (.cells #[.int .i64 0, .slice none 0 0] 33 (0, 0))) := Lib.hid (fun W hW => (hW.block _ hsz).trans hlt)
  have HSO := Lib.hid (fun W => specSorting2_any W)
  -- the end: the result's box is set
  have HEND : Hid (∀ W kk R aR cR, Below (w.alloc (.cells #[.int .i64 0, .slice none 0 0] 33)).heap.size (w.alloc (.cells #[.int .i64 0, .slice none 0 0] 33)) W → ComplP kk R → RulesIn W aR R → RetMC w (.returned (.agg #[.int .i64 kk, .slice aR R.length cR])) ((W.setCell ⟨w.heap.size, 0, none⟩ (.int .i64 kk)).setCell ⟨w.heap.size, 1, none⟩ (.slice aR R.length cR))) :=
    Lib.hid (fun W kk R aR cR hW hc hR => ⟨kk, R, aR, cR, hc, rfl, rules_set2 hR (HBK.out W hW) _ _, ((Below.now HW1.out hW).setCell (Nat.le_refl _) _).setCell (Nat.le_refl _) _⟩)
  clear hl hlt hsz
  go_enter Tryz.func19, Tryz.ntmps19
  go_wp2_with fail
  generalize w.alloc (.cells #[.int .i64 0, .slice none 0 0] 33) = w1 at *
  refine HN.out.mono ?_
  rintro e w2 ⟨rfl, hc, hb⟩
  have HD := Lib.hid (l03Draw_any w1.heap.size a l cap w1 w2 hc hb (Nat.le_refl _))
  clear hc hb HN
  go_wp2_with fail
  refine HD.out.mono ?_
  rintro e w3 ⟨kk, R, aR, cR, hs, rfl, hR, hc3, hb3⟩
  have HS := Lib.hid hs
  have HR4 := Lib.hid (hR.later (alloc_belowS w3 (.cells #[.int .i64 kk, .slice aR R.length cR] 33)))
  have HB4 := Lib.hid (Below.now hb3 (alloc_belowS w3 (.cells #[.int .i64 kk, .slice aR R.length cR] 33)))
  have HAT := Lib.hid (alloc_at w3 (.cells #[.int .i64 kk, .slice aR R.length cR] 33))
  have HRL : Hid (R.length ≤ 2 ^ 40) := Lib.hid (by have := hs.1.1.2; omega)
  have HIC := Lib.hid (fun W h => specIsComplete_any kk R aR cR W h HRL.out (szR_of hs))
  have HCO := Lib.hid (fun W h => specComplete_any kk R aR cR W h HRL.out (szR_of hs))
  have HST : Hid (startP kk R) := Lib.hid ⟨hs.1.1.1, hs.1.1.2, fun r hr => (hs.1.2 r hr).1⟩
  have HBX : Hid (∀ W, Below (w3.alloc (.cells #[.int .i64 kk, .slice aR R.length cR] 33)).heap.size (w3.alloc (.cells #[.int .i64 kk, .slice aR R.length cR] 33)) W → W.cell? ⟨w3.heap.size, 0, none⟩ = some (.int .i64 kk) ∧ W.cell? ⟨w3.heap.size, 1, none⟩ = some (.slice aR R.length cR)) := Lib.hid (fun W hW => by
    have h := rec_cells (block_later HAT.out W hW)
    exact ⟨h.1, h.2.1⟩)
  obtain ⟨s0, s1⟩ := HBX.out _ (Below.refl _ _)
  clear hs hR hc3 hb3 HD HAT
  go_wp2_with fail
  generalize w3.alloc (.cells #[.int .i64 kk, .slice aR R.length cR] 33) = w4 at *
  generalize hg3 : w3.heap.size = g3 at *
  clear hg3
  refine (HIC.out _ HR4.out).mono ?_
  rintro e w5 ⟨bb, hbb, rfl, hb5⟩
  have HBB := Lib.hid hbb
  have HB5 := Lib.hid (Below.now HB4.out hb5)
  have HR5 := Lib.hid (HR4.out.later hb5)
  have HX5 : Hid (∀ W, Below w5.heap.size w5 W → W.cell? ⟨g3, 0, none⟩ = some (.int .i64 kk) ∧ W.cell? ⟨g3, 1, none⟩ = some (.slice aR R.length cR)) := Lib.hid (fun W hW => HBX.out W (Below.now hb5 hW))
  clear hbb hb5 s0 s1 HBX
  obtain ⟨s0, s1⟩ := HX5.out _ (Below.refl _ _)
  cases bb
  · go_wp2_with fail
    refine (HCO.out _ HR5.out).mono ?_
    rintro e w6 hr
    rcases hr with ⟨hst, c, N, Q, T, aN, cN, hrun, rfl, hN, hb6⟩ | ⟨hst, rfl, hb6⟩
    · have HB7 := Lib.hid (Below.now HB5.out (Below.now hb6 (alloc_belowS w6 (.cells #[.int .i64 kk, .slice aN N.length cN] 33))))
      have HN7 := Lib.hid (hN.later (alloc_belowS w6 (.cells #[.int .i64 kk, .slice aN N.length cN] 33)))
      have HA7 := Lib.hid (alloc_at w6 (.cells #[.int .i64 kk, .slice aN N.length cN] 33))
      have HRUN := Lib.hid hrun
      clear hrun hN hb6 s0 s1
      by_cases hc : c = 0
      · subst hc
        have F := Lib.hid (HEND.out _ kk N aN cN HB7.out (run_comp HST.out.work (by
          obtain ⟨h1, h2, h3⟩ := HRUN.out.work HST.out.work
          have := h3 rfl
          subst this
          exact HRUN.out)).1 HN7.out)
        obtain ⟨z0, z1, f0, f1⟩ := rec_cells (HBK.out _ HB7.out)
        obtain ⟨u0, u1, _, _⟩ := rec_cells (set_two (HBK.out _ HB7.out) (.int .i64 kk) (.slice aN N.length cN))
        obtain ⟨y0, y1, _, _⟩ := rec_cells HA7.out
        go_wp2_with fail
        refine bodyPost_ret (v := .agg #[.int .i64 kk, .slice aN N.length cN]) ?_ rfl F.out
        simp [results, Tryz.results19, go_sem, u0, u1]
      · have hc0 : (((c : Nat) : Int) == 0) = false := by rw [beq_eq_false_iff_ne]; omega
        have hc1 : ¬ ((c : Nat) : Int) = 0 := by omega
        clear hc
        go_wp2_with fail
        refine (HSO.out _).mono ?_
        rintro e w8 ⟨aS, cS, rfl, hS, hb8⟩
        have hb9 := Below.now HB7.out (Below.now hb8 (alloc_belowS w8 (.cells #[.int .i64 2, .slice aS 1 cS] 33)))
        have F := Lib.hid (HEND.out _ 2 [sortR] aS cS hb9 sortR_com (hS.later (alloc_belowS w8 (.cells #[.int .i64 2, .slice aS 1 cS] 33))))
        obtain ⟨z0, z1, f0, f1⟩ := rec_cells (HBK.out _ hb9)
        obtain ⟨u0, u1, _, _⟩ := rec_cells (set_two (HBK.out _ hb9) (.int .i64 2) (.slice aS 1 cS))
        obtain ⟨y0, y1, _, _⟩ := rec_cells (alloc_at w8 (.cells #[.int .i64 2, .slice aS 1 cS] 33))
        simp only [List.length_singleton] at F
        clear hS hb8 hb9 hc0 hc1
        go_wp2_with fail
        refine bodyPost_ret (v := .agg #[.int .i64 2, .slice aS 1 cS]) ?_ rfl F.out
        simp [results, Tryz.results19, go_sem, u0, u1]
    · exact absurd HST.out hst
  · have F := Lib.hid (HEND.out _ kk R aR cR HB5.out (HBB.out.1 rfl) HR5.out)
    obtain ⟨z0, z1, f0, f1⟩ := rec_cells (HBK.out _ HB5.out)
    obtain ⟨u0, u1, _, _⟩ := rec_cells (set_two (HBK.out _ HB5.out) (.int .i64 kk) (.slice aR R.length cR))
    go_wp2_with fail
    refine bodyPost_ret (v := .agg #[.int .i64 kk, .slice aR R.length cR]) ?_ rfl F.out
    simp [results, Tryz.results19, go_sem, u0, u1]
end Go.Proofs.YtgoeadgpbidgiaaGreatDoor
namespace Go.Proofs.YtgoeadgpbidgiaaGreatDoor
open Go.RowKit
set_option linter.unusedVariables false
def idemB (m : Nat) (ln : List Nat) (i : Nat) : Bool := decide (tm m ln i i = i)
def idemF (n : Int) (l : List Int) : List Int := thoseL n l (idemB n.toNat (l.map Int.toNat))
end Go.Proofs.YtgoeadgpbidgiaaGreatDoor
namespace Go.Proofs.YtgoeadgpbidgiaaGreatDoor
open Go.RowKit
set_option linter.unusedVariables false
theorem below_of_grownN {w wr wr' : World} {own : Option Nat} (h : Below w.heap.size w wr) (hg : wr.grownBy wr' own) (ho : ∀ k, own = some k → w.heap.size ≤ k) : Below w.heap.size w wr' := h.grown hg h.size ho
/-- two lists that are being built, apart from each other -/
def Two (w wr : World) (v : Value) (xs : List Int) (u : Value) (F : List Nat) : Prop :=
  Bld 3 1 w wr v xs.length (intVals xs) ∧ Bld 3 1 w wr u F.length (ivs F) ∧ ∀ k, v.ownBlock = some k → u.ownBlock ≠ some k
theorem Two.later {w wr wr' : World} {v u : Value} {xs : List Int} {F : List Nat} (h : Two w wr v xs u F) (hb : Below wr.heap.size wr wr') : Two w wr' v xs u F := ⟨h.1.later hb, h.2.1.later hb, h.2.2⟩
theorem kept_of {T : TypeId} {w wr wr' : World} {v : Value} {n : Nat} {xs : List Value} {own : Option Nat} (h : Bld T 1 w wr v n xs) (hg : wr.grownBy wr' own) (hne : ∀ k, v.ownBlock = some k → own ≠ some k) (ho : ∀ k, own = some k → w.heap.size ≤ k) : Bld T 1 w wr' v n xs := by
  refine ⟨h.1.kept hg ?_, below_of_grownN h.2 hg ho⟩
  cases hv : v.ownBlock with
  | none => exact .inl rfl
  | some k => exact .inr fun e => hne k hv (e.symm ▸ rfl)
theorem Two.putV {w wr w' : World} {v v' u : Value} {xs : List Int} {F : List Nat} {y : Int} (h : Two w wr v xs u F) (hb : Bld 3 1 w w' v' (xs.length + 1) (intVals xs ++ [.int .i64 y])) (hg : (wr.alloc (.cells #[.int .i64 y] 3)).grownBy w' v.ownBlock)
    (ho : v'.ownBlock = v.ownBlock ∨ v'.ownBlock = some (wr.alloc (.cells #[.int .i64 y] 3)).heap.size) : Two w w' v' (xs ++ [y]) u F := by
  have hal : Below wr.heap.size wr (wr.alloc (.cells #[.int .i64 y] 3)) := (Below.refl _ _).alloc (Nat.le_refl _) _
  refine ⟨?_, kept_of (h.2.1.later hal) hg (fun k hk e => h.2.2 k e hk) (fun k hk => (h.1.1.lt k hk).1), fun k hk e => ?_⟩
  · rw [List.length_append]; unfold intVals at *; rw [List.map_append]; exact hb
  · rcases ho with h1 | h1
    · exact h.2.2 k (h1 ▸ hk) e
    · rw [h1] at hk
      have h2 := Option.some.inj hk
      have h3 := (h.2.1.1.lt k e).2
      simp at h2; omega
theorem Two.putU {w wr w' : World} {v u u' : Value} {xs : List Int} {F : List Nat} {y : Nat} (h : Two w wr v xs u F) (hb : Bld 3 1 w w' u' (F.length + 1) (ivs F ++ [.int .i64 (y : Nat)])) (hg : (wr.alloc (.cells #[.int .i64 (y : Nat)] 3)).grownBy w' u.ownBlock)
    (ho : u'.ownBlock = u.ownBlock ∨ u'.ownBlock = some (wr.alloc (.cells #[.int .i64 (y : Nat)] 3)).heap.size) : Two w w' v xs u' (F ++ [y]) := by
  have hal : Below wr.heap.size wr (wr.alloc (.cells #[.int .i64 (y : Nat)] 3)) := (Below.refl _ _).alloc (Nat.le_refl _) _
  refine ⟨kept_of (h.1.later hal) hg (fun k hk e => h.2.2 k hk e) (fun k hk => (h.2.1.1.lt k hk).1), ?_, fun k hk e => ?_⟩
  · rw [List.length_append, ivs_app]; exact hb
  · rcases ho with h1 | h1
    · exact h.2.2 k hk (h1 ▸ e)
    · rw [h1] at e
      have h2 := Option.some.inj e
      have h3 := (h.1.1.lt k hk).2
      simp at h2; omega
section
variable {p : Nat → Nat → Bool}
end
end Go.Proofs.YtgoeadgpbidgiaaGreatDoor
namespace Go.Proofs.YtgoeadgpbidgiaaGreatDoor
open Go.RowKit
set_option linter.unusedVariables false
/-- x is a product of i and one of the first c elements -/
def idR (m : Nat) (ln : List Nat) (i c x : Nat) : Bool := (List.range c).any fun y => decide (tm m ln i y = x)
def idL (m : Nat) (ln : List Nat) (i c x : Nat) : Bool := (List.range c).any fun y => decide (tm m ln y i = x)
def idI (m : Nat) (ln : List Nat) (i y d x : Nat) : Bool := (List.range d).any fun z => decide (tm m ln (tm m ln y i) z = x)
def idB (m : Nat) (ln : List Nat) (i c x : Nat) : Bool := (List.range c).any fun y => idI m ln i y m x
/-- x lies in the ideal of i: of kind 1, 2, or any other -/
def inId (m : Nat) (ln : List Nat) (kind : Int) (i x : Nat) : Bool := if kind = 1 then idR m ln i m x else if kind = 2 then idL m ln i m x else idB m ln i m x
section
variable {m : Nat} {ln : List Nat}
theorem inId_1 (i x : Nat) : inId m ln 1 i x = idR m ln i m x := rfl
theorem inId_2 (i x : Nat) : inId m ln 2 i x = idL m ln i m x := rfl
/-- the elements of an ideal -/
def idLs (m : Nat) (ln : List Nat) (kind : Int) (i : Nat) : List Int := listTo (inId m ln kind i) m
theorem idLs_nn {kind : Int} {i : Nat} {x : Int} (h : x ∈ idLs m ln kind i) : 0 ≤ x := by
  obtain ⟨j, rfl, _⟩ := (listTo_mem _ _ _).1 h
  omega
end
/-- two elements are related -/
def relK (m : Nat) (ln : List Nat) (kind : Int) (i k : Nat) : Bool :=
  if kind = 4 then decide (idLs m ln 1 i = idLs m ln 1 k) && decide (idLs m ln 2 i = idLs m ln 2 k) else decide (idLs m ln kind i = idLs m ln kind k)
/-- what the program compares -/
def keyK (m : Nat) (ln : List Nat) (kind : Int) (i : Nat) : List Int := if kind = 4 then idLs m ln 1 i ++ [-1] ++ idLs m ln 2 i else idLs m ln kind i
theorem cut_eq : ∀ {a b c d : List Int}, (∀ x ∈ a, 0 ≤ x) → (∀ x ∈ c, 0 ≤ x) → a ++ -1 :: b = c ++ -1 :: d → a = c ∧ b = d
  | [], b, [], d, _, _, h => ⟨rfl, by simpa using h⟩
  | [], b, y :: c, d, _, hc, h => by
    simp only [List.nil_append, List.cons_append, List.cons.injEq] at h
    have := hc y (by simp); omega
  | x :: a, b, [], d, ha, _, h => by
    simp only [List.nil_append, List.cons_append, List.cons.injEq] at h
    have := ha x (by simp); omega
  | x :: a, b, y :: c, d, ha, hc, h => by
    simp only [List.cons_append, List.cons.injEq] at h
    obtain ⟨rfl, h⟩ := h
    obtain ⟨rfl, rfl⟩ := cut_eq (fun z hz => ha z (by simp [hz])) (fun z hz => hc z (by simp [hz])) h
    exact ⟨rfl, rfl⟩
theorem relK_key (m : Nat) (ln : List Nat) (kind : Int) (i k : Nat) : relK m ln kind i k = decide (keyK m ln kind i = keyK m ln kind k) := by
  unfold relK keyK
  by_cases h : kind = 4
  · rw [if_pos h, if_pos h, if_pos h, Bool.eq_iff_iff]
    simp only [Bool.and_eq_true, decide_eq_true_eq]
    constructor
    · rintro ⟨h1, h2⟩; rw [h1, h2]
    · intro h3
      simp only [List.append_assoc, List.cons_append, List.nil_append] at h3
      exact cut_eq (fun x hx => idLs_nn hx) (fun x hx => idLs_nn hx) h3
  · rw [if_neg h, if_neg h, if_neg h]
theorem relK_refl (m : Nat) (ln : List Nat) (kind : Int) (i : Nat) : relK m ln kind i i = true := by rw [relK_key]; simp
theorem relK_four (m : Nat) (ln : List Nat) (i k : Nat) : relK m ln 4 i k = (relK m ln 1 i k && relK m ln 2 i k) := rfl
theorem relK_not4 {m : Nat} {ln : List Nat} {kind : Int} (h : kind ≠ 4) (i k : Nat) : relK m ln kind i k = decide (idLs m ln kind i = idLs m ln kind k) := by unfold relK; rw [if_neg h]
end Go.Proofs.YtgoeadgpbidgiaaGreatDoor
namespace Go.Proofs.YtgoeadgpbidgiaaGreatDoor
open Go.RowKit
set_option linter.unusedVariables false
set_option linter.unusedSectionVars false
theorem listTo_congr {f g : Nat → Bool} {m : Nat} (h : ∀ x, x < m → f x = g x) : listTo f m = listTo g m := by
  unfold listTo
  congr 1
  exact List.filter_congr fun x hx => h x (List.mem_range.1 hx)
theorem listTo_inj {f g : Nat → Bool} {m : Nat} (h : listTo f m = listTo g m) {x : Nat} (hx : x < m) : f x = g x := by
  rw [Bool.eq_iff_iff]
  have key : ∀ f : Nat → Bool, f x = true ↔ ((x : Nat) : Int) ∈ listTo f m := fun f => by
    rw [listTo_mem]
    constructor
    · intro hf; exact ⟨x, rfl, hx, hf⟩
    · rintro ⟨j, e, _, hf⟩
      have : j = x := by omega
      rw [← this]; exact hf
  rw [key f, key g, h]
theorem listTo_at {f : Nat → Bool} {m x : Nat} : ((x : Nat) : Int) ∈ listTo f m ↔ x < m ∧ f x = true := by
  rw [listTo_mem]
  constructor
  · rintro ⟨j, e, hj, hf⟩
    have : j = x := by omega
    subst this
    exact ⟨hj, hf⟩
  · rintro ⟨h1, h2⟩; exact ⟨x, rfl, h1, h2⟩
section
variable {m : Nat} {ln : List Nat} (h : TabOk m ln)
theorem idR_iff {i x c : Nat} : idR m ln i c x = true ↔ ∃ y, y < c ∧ tm m ln i y = x := by
  unfold idR
  simp
theorem idL_iff {i x c : Nat} : idL m ln i c x = true ↔ ∃ y, y < c ∧ tm m ln y i = x := by
  unfold idL
  simp
include h
theorem idR_le {i k : Nat} (hi : i < m) (hk : k < m) (hr : ∃ a, a < m ∧ tm m ln k a = i) {x : Nat} (hx : idR m ln i m x = true) : idR m ln k m x = true := by
  obtain ⟨a, ha, rfl⟩ := hr
  obtain ⟨y, hy, rfl⟩ := idR_iff.1 hx
  exact idR_iff.2 ⟨tm m ln a y, h.tm_lt ha hy, (h.assoc k a y hk ha hy).symm⟩
theorem idL_le {i k : Nat} (hi : i < m) (hk : k < m) (hr : ∃ a, a < m ∧ tm m ln a k = i) {x : Nat} (hx : idL m ln i m x = true) : idL m ln k m x = true := by
  obtain ⟨a, ha, rfl⟩ := hr
  obtain ⟨y, hy, rfl⟩ := idL_iff.1 hx
  exact idL_iff.2 ⟨tm m ln y a, h.tm_lt hy ha, h.assoc y a k hy ha hk⟩
theorem rel1_iff {i k : Nat} (hi : i < m) (hk : k < m) : relK m ln 1 i k = true ↔ (∃ a, a < m ∧ tm m ln k a = i) ∧ (∃ b, b < m ∧ tm m ln i b = k) := by
  rw [relK_not4 (by decide), decide_eq_true_eq]
  constructor
  · intro he
    have h1 := listTo_inj he hi
    have h2 := listTo_inj he hk
    rw [inId_1, inId_1] at h1 h2
    exact ⟨idR_iff.1 (h1.symm.trans (idR_iff.2 ⟨0, h.lo, h.right i hi⟩)), idR_iff.1 (h2.trans (idR_iff.2 ⟨0, h.lo, h.right k hk⟩))⟩
  · rintro ⟨h1, h2⟩
    refine listTo_congr fun x hx => ?_
    rw [inId_1, inId_1, Bool.eq_iff_iff]
    exact ⟨idR_le h hi hk h1, idR_le h hk hi h2⟩
theorem rel2_iff {i k : Nat} (hi : i < m) (hk : k < m) : relK m ln 2 i k = true ↔ (∃ a, a < m ∧ tm m ln a k = i) ∧ (∃ b, b < m ∧ tm m ln b i = k) := by
  rw [relK_not4 (by decide), decide_eq_true_eq]
  constructor
  · intro he
    have h1 := listTo_inj he hi
    have h2 := listTo_inj he hk
    rw [inId_2, inId_2] at h1 h2
    exact ⟨idL_iff.1 (h1.symm.trans (idL_iff.2 ⟨0, h.lo, h.left i hi⟩)), idL_iff.1 (h2.trans (idL_iff.2 ⟨0, h.lo, h.left k hk⟩))⟩
  · rintro ⟨h1, h2⟩
    refine listTo_congr fun x hx => ?_
    rw [inId_2, inId_2, Bool.eq_iff_iff]
    exact ⟨idL_le h hi hk h1, idL_le h hk hi h2⟩
/-- related to an idempotent on both sides -/
theorem rel4_iff {i k : Nat} (hi : i < m) (hk : k < m) : relK m ln 4 i k = true ↔ ((∃ a, a < m ∧ tm m ln k a = i) ∧ (∃ b, b < m ∧ tm m ln i b = k)) ∧ ((∃ a, a < m ∧ tm m ln a k = i) ∧ (∃ b, b < m ∧ tm m ln b i = k)) := by
  rw [relK_four, Bool.and_eq_true, rel1_iff h hi hk, rel2_iff h hi hk]
theorem rel_unit {e y : Nat} (he : e < m) (hee : tm m ln e e = e) (hy : y < m) (hr : relK m ln 4 y e = true) : tm m ln e y = y ∧ tm m ln y e = y := by
  obtain ⟨⟨⟨a, ha, h1⟩, _⟩, ⟨b, hb, h2⟩, _⟩ := (rel4_iff h hy he).1 hr
  constructor
  · rw [← h1, ← h.assoc e e a he he ha, hee]
  · rw [← h2, h.assoc b e e hb he he, hee]
theorem rel_prod {e y z : Nat} (he : e < m) (hee : tm m ln e e = e) (hy : y < m) (hz : z < m) (hry : relK m ln 4 y e = true) (hrz : relK m ln 4 z e = true) : relK m ln 4 (tm m ln y z) e = true := by
  obtain ⟨ey, ye⟩ := rel_unit h he hee hy hry
  obtain ⟨ez, ze⟩ := rel_unit h he hee hz hrz
  obtain ⟨⟨_, b1, hb1, y1⟩, _, c1, hc1, y2⟩ := (rel4_iff h hy he).1 hry
  obtain ⟨⟨_, b2, hb2, z1⟩, _, c2, hc2, z2⟩ := (rel4_iff h hz he).1 hrz
  have hp := h.tm_lt hy hz
  refine (rel4_iff h hp he).2 ⟨⟨⟨_, hp, ?_⟩, tm m ln b2 b1, h.tm_lt hb2 hb1, ?_⟩, ⟨_, hp, ?_⟩, tm m ln c2 c1, h.tm_lt hc2 hc1, ?_⟩
  · rw [← h.assoc e y z he hy hz, ey]
  · rw [← h.assoc _ b2 b1 hp hb2 hb1, h.assoc y z b2 hy hz hb2, z1, ye, y1]
  · rw [h.assoc y z e hy hz he, ze]
  · rw [h.assoc c2 c1 _ hc2 hc1 hp, ← h.assoc c1 y z hc1 hy hz, y2, ez, z2]
theorem rel_inv {e y : Nat} (he : e < m) (hee : tm m ln e e = e) (hy : y < m) (hry : relK m ln 4 y e = true) : ∃ z, z < m ∧ relK m ln 4 z e = true ∧ tm m ln y z = e := by
  obtain ⟨ey, ye⟩ := rel_unit h he hee hy hry
  obtain ⟨⟨_, b, hb, y1⟩, _, d, hd, y2⟩ := (rel4_iff h hy he).1 hry
  have heb := h.tm_lt he hb
  have hz := h.tm_lt heb he
  have p1 : tm m ln y (tm m ln (tm m ln e b) e) = e := by
    rw [← h.assoc y (tm m ln e b) e hy heb he, ← h.assoc y e b hy he hb, ye, y1, hee]
  have p2 : tm m ln (tm m ln (tm m ln e b) e) y = e := by
    rw [h.assoc (tm m ln e b) e y heb he hy, ey]
    have e1 : tm m ln (tm m ln e b) y = tm m ln d (tm m ln y (tm m ln b y)) := by
      rw [← h.assoc d y _ hd hy (h.tm_lt hb hy), y2, h.assoc e b y he hb hy]
    rw [e1, ← h.assoc y b y hy hb hy, y1, ey, y2]
  have p3 : tm m ln e (tm m ln (tm m ln e b) e) = tm m ln (tm m ln e b) e := by
    rw [← h.assoc e (tm m ln e b) e he heb he, ← h.assoc e e b he he hb, hee]
  have p4 : tm m ln (tm m ln (tm m ln e b) e) e = tm m ln (tm m ln e b) e := by
    rw [h.assoc (tm m ln e b) e e heb he he, hee]
  exact ⟨_, hz, (rel4_iff h hz he).2 ⟨⟨⟨_, hz, p3⟩, y, hy, p2⟩, ⟨_, hz, p4⟩, y, hy, p1⟩, p1⟩
theorem idem_reg {i : Nat} (hi : i < m) (he : idemB m ln i = true) : isReg m ln i = true := by
  have hee : tm m ln i i = i := by simpa [idemB] using he
  unfold isReg
  rw [Bool.not_eq_true', Bool.eq_false_iff]
  intro ha
  have := all_range.1 ha i hi
  unfold regB at this
  rw [hee, hee] at this
  simp at this
theorem zero_idem : idemB m ln 0 = true := by unfold idemB; rw [decide_eq_true_eq]; exact h.left 0 h.lo
theorem unit_iff {i : Nat} : isUnit m ln i = true ↔ ∃ k, k < m ∧ tm m ln i k = 0 ∧ tm m ln k i = 0 := by
  unfold isUnit
  rw [Bool.not_eq_true']
  constructor
  · intro hf
    rcases Classical.em (∃ k, k < m ∧ tm m ln i k = 0 ∧ tm m ln k i = 0) with h1 | h1
    · exact h1
    · exfalso
      rw [Bool.eq_false_iff] at hf
      refine hf (all_range.2 fun k hk => ?_)
      cases hb : unB m ln i k
      · exfalso
        unfold unB at hb
        simp at hb
        exact h1 ⟨k, hk, hb.1, hb.2⟩
      · rfl
  · rintro ⟨k, hk, h1, h2⟩
    refine all_range_false hk ?_
    unfold unB
    simp [h1, h2]
theorem unit_rel {i : Nat} (hi : i < m) : relK m ln 4 i 0 = isUnit m ln i := by
  rw [Bool.eq_iff_iff, rel4_iff h hi h.lo, unit_iff h]
  constructor
  · rintro ⟨⟨_, b, hb, h1⟩, _, d, hd, h2⟩
    have e : d = b := by
      have h3 := h.assoc d i b hd hi hb
      rw [h2, h1, h.left b hb, h.right d hd] at h3
      exact h3.symm
    subst e
    exact ⟨d, hb, h1, h2⟩
  · rintro ⟨k, hk, h1, h2⟩
    exact ⟨⟨⟨i, hi, h.left i hi⟩, k, hk, h1⟩, ⟨i, hi, h.right i hi⟩, k, hk, h2⟩
end
theorem listTo_mono {f g : Nat → Bool} {m : Nat} (h : ∀ x, x < m → f x = true → g x = true) : (listTo f m).length ≤ (listTo g m).length := by
  unfold listTo
  rw [List.length_map, List.length_map]
  have key : ∀ l : List Nat, (∀ x ∈ l, x < m) → (l.filter f).length ≤ (l.filter g).length := by
    intro l
    induction l with
    | nil => intro _; exact Nat.le_refl _
    | cons x l ih =>
      intro hl
      have h1 := ih fun y hy => hl y (List.mem_cons_of_mem _ hy)
      rw [List.filter_cons, List.filter_cons]
      cases hf : f x
      · cases hg : g x <;> simp <;> omega
      · rw [h x (hl x List.mem_cons_self) hf]
        simp; omega
  exact key _ fun x hx => List.mem_range.1 hx
/-- the group with an idempotent -/
def mgF (n : Int) (l : List Int) (e : Int) : List Int := if decide (e ∈ idemF n l) then thoseL n l (fun i => relK n.toNat (l.map Int.toNat) 4 i e.toNat) else []
/-- the facts that the law asks for -/
structure RegG (n : Int) (l : List Int) : Prop where
  ne : (idemF n l).length ≠ 0
  zero : (0 : Int) ∈ idemF n l
  le : (idemF n l).length ≤ (regularOfF n l).length
  few : ((regularOfF n l).length : Int) ≤ n
  reg : ∀ x ∈ idemF n l, x ∈ regularOfF n l
  self : ∀ x ∈ idemF n l, x ∈ mgF n l x
  units : mgF n l 0 = unitsOfF n l
/-- the facts of one of its groups -/
structure RegE (m : Nat) (ln : List Nat) (x : Nat) (G : List Int) : Prop where
  el : ∀ y ∈ G, ∃ j : Nat, y = (j : Int) ∧ j < m ∧ tm m ln x j = j
  prod : ∀ i j : Nat, (i : Int) ∈ G → (j : Int) ∈ G → ((tm m ln i j : Nat) : Int) ∈ G
  inv : ∀ i : Nat, (i : Int) ∈ G → ∃ j : Nat, (j : Int) ∈ G ∧ tm m ln i j = x
theorem TabG.forms {m : Nat} {ln : List Nat} (h : TabOk m ln) : idemF (m : Nat) (ln.map Int.ofNat) = listTo (idemB m ln) m ∧ regularOfF (m : Nat) (ln.map Int.ofNat) = listTo (isReg m ln) m ∧ unitsOfF (m : Nat) (ln.map Int.ofNat) = listTo (isUnit m ln) m ∧
    ∀ x : Nat, x < m → idemB m ln x = true → mgF (m : Nat) (ln.map Int.ofNat) (x : Nat) = listTo (fun i => relK m ln 4 i x) m := by
  have ht := TabG.tab ⟨ln, rfl, h⟩
  have e1 : idemF (m : Nat) (ln.map Int.ofNat) = listTo (idemB m ln) m := by
    unfold idemF; rw [thoseL_yes ht, map_toNat]; rfl
  refine ⟨e1, by unfold regularOfF; rw [thoseL_yes ht, map_toNat]; rfl, by unfold unitsOfF; rw [thoseL_yes ht, map_toNat]; rfl, fun x hx hi => ?_⟩
  unfold mgF
  rw [e1, decide_eq_true (listTo_at.2 ⟨hx, hi⟩), if_pos rfl, thoseL_yes ht, map_toNat]
  rfl
theorem TabG.reg {m : Nat} {l : List Int} (h : TabG m l) : RegG (m : Nat) l := by
  obtain ⟨ln, rfl, h⟩ := h
  obtain ⟨e1, e2, e3, e4⟩ := TabG.forms h
  have h0 : (0 : Int) ∈ listTo (idemB m ln) m := listTo_at.2 ⟨h.lo, zero_idem h⟩
  refine ⟨?_, ?_, ?_, ?_, ?_, ?_, ?_⟩
  · rw [e1]; intro h1; rw [List.eq_nil_of_length_eq_zero h1] at h0; cases h0
  · rw [e1]; exact h0
  · rw [e1, e2]; exact listTo_mono fun x hx => idem_reg h hx
  · rw [e2]; exact Int.ofNat_le.2 (listTo_len _ _)
  · rw [e1, e2]
    intro x hx
    obtain ⟨j, rfl, hj, hi⟩ := (listTo_mem _ _ _).1 hx
    exact listTo_at.2 ⟨hj, idem_reg h hj hi⟩
  · rw [e1]
    intro x hx
    obtain ⟨j, rfl, hj, hi⟩ := (listTo_mem _ _ _).1 hx
    rw [e4 j hj hi]
    exact listTo_at.2 ⟨hj, relK_refl _ _ _ _⟩
  · rw [e3]
    have := e4 0 h.lo (zero_idem h)
    rw [show ((0 : Nat) : Int) = 0 from rfl] at this
    rw [this]
    exact listTo_congr fun x hx => unit_rel h hx
theorem TabG.el {m : Nat} {ln : List Nat} (h : TabOk m ln) {x : Int} (hx : x ∈ idemF (m : Nat) (ln.map Int.ofNat)) : ∃ j : Nat, x = (j : Int) ∧ j < m ∧ RegE m ln j (mgF (m : Nat) (ln.map Int.ofNat) x) := by
  obtain ⟨e1, e2, e3, e4⟩ := TabG.forms h
  rw [e1] at hx
  obtain ⟨j, rfl, hj, hi⟩ := (listTo_mem _ _ _).1 hx
  refine ⟨j, rfl, hj, ?_⟩
  rw [e4 j hj hi]
  have hee : tm m ln j j = j := by simpa [idemB] using hi
  refine ⟨fun y hy => ?_, fun i k hi hk => ?_, fun i hi => ?_⟩
  · obtain ⟨k, rfl, hk, hr⟩ := (listTo_mem _ _ _).1 hy
    exact ⟨k, rfl, hk, (rel_unit h hj hee hk hr).1⟩
  · obtain ⟨h1, h2⟩ := listTo_at.1 hi
    obtain ⟨h3, h4⟩ := listTo_at.1 hk
    exact listTo_at.2 ⟨h.tm_lt h1 h3, rel_prod h hj hee h1 h3 h2 h4⟩
  · obtain ⟨h1, h2⟩ := listTo_at.1 hi
    obtain ⟨z, hz, h3, h4⟩ := rel_inv h hj hee h1 h2
    exact ⟨z, listTo_at.2 ⟨hz, h3⟩, h4⟩
end Go.Proofs.YtgoeadgpbidgiaaGreatDoor
