/-
  'FnClasses' holds: for every argument the law answers true and leaves its argument as it was. No condition.
-/
import Derived.Test.YtgoeadgpbidgiaaGreatClp24
import Derived.Test.YtgoeadgpbidgiaaGreatClp27
import Derived.Test.YtgoeadgpbidgiaaGreatClp01
import Derived.Test.YtgoeadgpbidgiaaGreatClp12
import Derived.Test.YtgoeadgpbidgiaaGreatClp16
import Derived.Test.YtgoeadgpbidgiaaGreatClp23
import Derived.Test.YtgoeadgpbidgiaaGreatClp04
import Derived.Test.YtgoeadgpbidgiaaGreatClp22
namespace Go.Proofs.YtgoeadgpbidgiaaGreat
open Go.RowKit
set_option linter.unusedVariables false
theorem l13LetterM_any (x : Nat) (w : World) (hx : x < 26) : Calls Tryz.prog 41 #[.int .i64 (x : Nat)] w fun e w' => e = .returned (.string (letterN x)) ∧ Below w.heap.size w w' := by
  have kc := convC
  have hu : IntKind.u8.wrap (97 + (x : Int)) = 97 + (x : Int) := by simp [IntKind.wrap, IntKind.signed, IntKind.bits]; omega
  have HL : Hid (oneC (97 + (x : Int)) = letterN x) := Lib.hid rfl
  go_enter Tryz.func41, Tryz.ntmps41
  go_wp2_with fail
  go_ret
  exact ⟨rfl, (Below.refl _ _).alloc (Nat.le_refl _) _⟩
theorem Rec2.putM {TT T : TypeId} {size : Nat} {w wr w4 : World} {g : Nat} {x v v' : Value} {n m : Nat} {xs ys : List Value} (h : Rec2 TT T size w wr g x v n xs) (hg : wr.grownBy w4 v.ownBlock) (hn : w4.ownsRow (g + 1) T size v' m ys) :
    w4.heap[g]? = some (.cells #[x, v] TT (0, 0)) ∧ Rec2 TT T size w (w4.setCell ⟨g, 1, none⟩ v') g x v' m ys := by
  have h4 := (hg.block g h.lt (fun e => h.far e.symm)).trans h.blk
  have b4 : Below w.heap.size w w4 := h.below.grown hg h.below.size (fun k hk => by have := (h.own.lt k hk).1; have := h.le; omega)
  refine ⟨h4, ?_, ownsRow_setCell_below hn (by show g < g + 1; omega) _, h.le, b4.setCell h.le _⟩
  unfold World.setCell
  simp [Array.getElem?_modify, h4]
/-- the system that sorts two letters -/
def sortR : RulD := (letterN 1 ++ letterN 0, letterN 0 ++ letterN 1)
theorem sortR_com : ComplP 2 [sortR] := by
  refine ⟨⟨⟨⟨by omega, by decide⟩, fun r hr => ?_⟩, fun r hr => ?_⟩, ?_⟩
  · rw [List.mem_singleton.1 hr]
    refine ⟨⟨⟨by decide +kernel, by decide +kernel⟩, by decide +kernel, by decide +kernel⟩, by decide +kernel⟩
  · rw [List.mem_singleton.1 hr]
    decide +kernel
  · have h : pairsF [sortR] = [] := by decide +kernel
    unfold openF
    rw [h]
    rfl
set_option maxRecDepth 100000 in
set_option maxHeartbeats 4000000 in
theorem specSorting2_any (w : World) : Calls Tryz.prog 17 #[.int .i64 2] w fun e w' => ∃ a c, e = .returned (.tuple #[.agg #[.int .i64 2, .slice a 1 c], .bool true]) ∧ RulesIn w' a [sortR] ∧ Below w.heap.size w w' := by
  have HL1 := Lib.hid (fun W => l13LetterM_any 1 W (by omega))
  have HL0 := Lib.hid (fun W => l13LetterM_any 0 W (by omega))
  have HSR : Hid (ruleCells [sortR] = [.string (letterN 1 ++ letterN 0), .string (letterN 0 ++ letterN 1)]) := Lib.hid rfl
  have hz1 : (letterN 1).size = 1 := rfl
  have hz0 : (letterN 0).size = 1 := rfl
  have HZ : Hid ((letterN 1).size = 1 ∧ (letterN 0).size = 1) := Lib.hid ⟨hz1, hz0⟩
  clear hz1 hz0
  have HP : Hid (∀ W, Calls Tryz.prog 40 #[.int .i64 2, .int .i64 1, .int .i64 4] W fun e w' => e = .returned (.bool true) ∧ W = w') := Lib.hid (fun W => (l01In_any 2 1 4 W).mono (fun e w' h => ⟨by rw [h.1]; rfl, h.2⟩))
  have hb0 := alloc_belowS w (.cells #[.int .i64 0, .slice none 0 0] 25)
  have HR0 : Hid (Rec2 25 67 2 w ((w.alloc (.cells #[.int .i64 0, .slice none 0 0] 25)).alloc (.cells #[.int .i64 2, .slice none 0 0] 25)) (w.heap.size + 1) (.int .i64 2) (.slice none 0 0) ([] : List RulD).length (ruleCells [])) := Lib.hid (by
    have h := Rec2.start 25 67 2 hb0 (.int .i64 2)
    have e : (w.alloc (.cells #[.int .i64 0, .slice none 0 0] 25)).heap.size = w.heap.size + 1 := by simp
    rw [e] at h
    exact h)
  have HZ0 : Hid (((w.alloc (.cells #[.int .i64 0, .slice none 0 0] 25)).alloc (.cells #[.int .i64 2, .slice none 0 0] 25)).heap[w.heap.size]? = some (.cells #[.int .i64 0, .slice none 0 0] 25 (0, 0))) := Lib.hid (alloc_two w _ _).1
  clear hb0
  go_enter Tryz.func17, Tryz.ntmps17
  go_wp2_with fail
  refine (HP.out _).mono ?_
  rintro e w2 ⟨rfl, rfl⟩
  go_wp2_with fail
  generalize hP1 : letterN 1 = P1 at *
  generalize hP0 : letterN 0 = P0 at *
  go_loopw [5] (fun vy wr => ∃ (v : Value) (R : List RulD), (vy = .int .i64 1 ∧ R = [] ∨ vy = .int .i64 2 ∧ R = [sortR]) ∧ Hid (Rec2 25 67 2 w wr (w.heap.size + 1) (.int .i64 2) v R.length (ruleCells R)) ∧ Hid (wr.heap[w.heap.size]? = some (.cells #[.int .i64 0, .slice none 0 0] 25 (0, 0)))) (fun vy _ => 2 - (intOf vy).toNat)
  case atStart => exact ⟨_, [], .inl ⟨rfl, rfl⟩, HR0, HZ0⟩
  case round =>
    clear HR0 HZ0
    obtain ⟨v0, R, hc, HR, HZ0⟩ := hrel
    rcases hc with ⟨rfl, rfl⟩ | ⟨rfl, rfl⟩
    · go_wp2_with fail
      generalize hW0 : wr = wr0 at *
      clear hW0
      go_loopw [6] (fun vx wr => ∃ (v : Value) (R : List RulD), (vx = .int .i64 0 ∧ R = [] ∨ vx = .int .i64 1 ∧ R = [sortR]) ∧ Hid (Rec2 25 67 2 w wr (w.heap.size + 1) (.int .i64 2) v R.length (ruleCells R)) ∧ Hid (wr.heap[w.heap.size]? = some (.cells #[.int .i64 0, .slice none 0 0] 25 (0, 0)))) (fun vx _ => 1 - (intOf vx).toNat)
      case atStart => exact ⟨_, [], .inl ⟨rfl, rfl⟩, HR, HZ0⟩
      case round =>
        clear HR HZ0
        obtain ⟨v1, R, hc, HR, HZ0⟩ := hrel
        rcases hc with ⟨rfl, rfl⟩ | ⟨rfl, rfl⟩
        · have n10 : ¬ 9223372036854775807 < P1.size + P0.size := by have := HZ.out; omega
          have n01 : ¬ 9223372036854775807 < P0.size + P1.size := by have := HZ.out; omega
          obtain ⟨a1, c1, rfl⟩ := owns_form HR.out.own
          go_upto_region 10 with fail
          refine region_tail 14 (fun W => Below wr.heap.size wr W) (fun W W2 => Below W.heap.size W W2) (fun u => by simp only [List.take_succ_cons, List.take_zero, fPut, Act.put, List.setIfInBounds_toArray, List.set_cons_succ, List.set_cons_zero, Nat.zero_add, Nat.reduceAdd]; rfl) (by kernel_rfl) (by kernel_rfl) (by kernel_rfl) (by kernel_rfl) (by kernel_rfl) (by kernel_rfl) (by kernel_rfl) (Below.drew (Below.refl _ _)) ?_
          conv => arg 7; simp only [List.take_succ_cons, List.take_zero]
          apply each_read (fun _ => Below.refl _ _) rfl
          · intro u wv hC hf
            have y1 := (HR.out.later hC).facts.2.1
            clear hf
            go_simp
            try rfl
          apply each_read (fun _ => Below.refl _ _) rfl
          · intro u wv hC hf
            have y1 := (HR.out.later hC).facts.2.1
            obtain ⟨d0_0, -⟩ := hf
            have e0 : u 0 = _ := d0_0 rfl
            clear d0_0
            go_simp
            try rfl
          conv => arg 8; simp only [List.cons_append, List.nil_append]
          apply each_read (fun _ => Below.refl _ _) rfl
          · intro u wv hC hf
            have y1 := (HR.out.later hC).facts.2.1
            clear hf
            go_simp
            try rfl
          conv => arg 8; simp only [List.cons_append, List.nil_append]
          apply each_callR rfl
          · intro u wv hC hf
            have y1 := (HR.out.later hC).facts.2.1
            obtain ⟨d2_0, -⟩ := hf
            have e2 : u 2 = _ := d2_0 rfl
            clear d2_0
            apply Exists.intro; apply Exists.intro; apply And.intro
            · go_simp; exact ⟨rfl, rfl⟩
            · refine (HL1.out _).mono ?_
              rintro e w3 ⟨rfl, hb⟩
              exact ⟨rfl, Below.now hC hb, hb⟩
          conv => arg 8; simp only [List.cons_append, List.nil_append]
          apply each_read (fun _ => Below.refl _ _) rfl
          · intro u wv hC hf
            have y1 := (HR.out.later hC).facts.2.1
            clear hf
            go_simp
            try rfl
          conv => arg 8; simp only [List.cons_append, List.nil_append]
          apply each_callR rfl
          · intro u wv hC hf
            have y1 := (HR.out.later hC).facts.2.1
            obtain ⟨d4_0, d3_1, -⟩ := hf
            have e4 : u 4 = _ := d4_0 rfl
            clear d4_0
            have e3 : u 3 = _ := d3_1 rfl
            clear d3_1
            apply Exists.intro; apply Exists.intro; apply And.intro
            · go_simp; exact ⟨rfl, rfl⟩
            · refine (HL0.out _).mono ?_
              rintro e w3 ⟨rfl, hb⟩
              exact ⟨rfl, Below.now hC hb, hb⟩
          conv => arg 8; simp only [List.cons_append, List.nil_append]
          apply each_read (fun _ => Below.refl _ _) rfl
          · intro u wv hC hf
            have y1 := (HR.out.later hC).facts.2.1
            obtain ⟨d3_0, d5_1, -⟩ := hf
            have e3 : u 3 = _ := d3_0 rfl
            clear d3_0
            have e5 : u 5 = _ := d5_1 rfl
            clear d5_1
            go_simp
            try rfl
          conv => arg 8; simp only [List.cons_append, List.nil_append]
          apply each_read (fun _ => Below.refl _ _) rfl
          · intro u wv hC hf
            have y1 := (HR.out.later hC).facts.2.1
            clear hf
            go_simp
            try rfl
          conv => arg 8; simp only [List.cons_append, List.nil_append]
          apply each_callR rfl
          · intro u wv hC hf
            have y1 := (HR.out.later hC).facts.2.1
            obtain ⟨d7_0, d5_1, -⟩ := hf
            have e7 : u 7 = _ := d7_0 rfl
            clear d7_0
            have e5 : u 5 = _ := d5_1 rfl
            clear d5_1
            apply Exists.intro; apply Exists.intro; apply And.intro
            · go_simp; exact ⟨rfl, rfl⟩
            · refine (HL0.out _).mono ?_
              rintro e w3 ⟨rfl, hb⟩
              exact ⟨rfl, Below.now hC hb, hb⟩
          conv => arg 8; simp only [List.cons_append, List.nil_append]
          apply each_read (fun _ => Below.refl _ _) rfl
          · intro u wv hC hf
            have y1 := (HR.out.later hC).facts.2.1
            clear hf
            go_simp
            try rfl
          conv => arg 8; simp only [List.cons_append, List.nil_append]
          apply each_callR rfl
          · intro u wv hC hf
            have y1 := (HR.out.later hC).facts.2.1
            obtain ⟨d9_0, d8_1, -⟩ := hf
            have e9 : u 9 = _ := d9_0 rfl
            clear d9_0
            have e8 : u 8 = _ := d8_1 rfl
            clear d8_1
            apply Exists.intro; apply Exists.intro; apply And.intro
            · go_simp; exact ⟨rfl, rfl⟩
            · refine (HL1.out _).mono ?_
              rintro e w3 ⟨rfl, hb⟩
              exact ⟨rfl, Below.now hC hb, hb⟩
          conv => arg 8; simp only [List.cons_append, List.nil_append]
          apply each_read (fun _ => Below.refl _ _) rfl
          · intro u wv hC hf
            have y1 := (HR.out.later hC).facts.2.1
            obtain ⟨d8_0, d10_1, -⟩ := hf
            have e8 : u 8 = _ := d8_0 rfl
            clear d8_0
            have e10 : u 10 = _ := d10_1 rfl
            clear d10_1
            go_simp
            try rfl
          conv => arg 8; simp only [List.cons_append, List.nil_append]
          apply each_read (fun _ => Below.refl _ _) rfl
          · intro u wv hC hf
            have y1 := (HR.out.later hC).facts.2.1
            obtain ⟨d6_0, d11_1, -⟩ := hf
            have e6 : u 6 = _ := d6_0 rfl
            clear d6_0
            have e11 : u 11 = _ := d11_1 rfl
            clear d11_1
            go_simp
            try rfl
          conv => arg 8; simp only [List.cons_append, List.nil_append]
          refine each_do (fun v wv => ∃ g7, v = .slice (some ⟨g7, 0, none⟩) 1 1 ∧ wv.cell? ⟨g7, 0, none⟩ = some (.string (P1 ++ P0)) ∧ wv.cell? ⟨g7, 1, none⟩ = some (.string (P0 ++ P1))) (fun v w w2 _ hR ⟨g7, h1, hc, hd⟩ => ⟨g7, h1, (hR.cell (World.block_lt_of_cell? _ _ hc)).trans hc, (hR.cell (World.block_lt_of_cell? _ _ hd)).trans hd⟩) rfl ?_ ?_
          · intro u wv hC hf
            have y1 := (HR.out.later hC).facts.2.1
            obtain ⟨d12_0, -⟩ := hf
            have e12 : u 12 = _ := d12_0 rfl
            clear d12_0
            refine ⟨.slice (some ⟨wv.heap.size, 0, none⟩) 1 1, wv.alloc (.cells #[.string (P1 ++ P0), .string (P0 ++ P1)] 67), ?_, Below.alloc hC hC.size _, alloc_belowS _ _, wv.heap.size, rfl, (rec_cells (alloc_at wv _)).1, (rec_cells (alloc_at wv _)).2.1⟩
            go_simp
            try rfl
          intro u w7 d7 hall
          obtain ⟨a0, a1, a2, a3, a4, a5, a6, a7, a8, a9, a10, a11, a12, a13, -⟩ := hall
          have e0 : u 0 = _ := a0
          clear a0
          have e1 : u 1 = _ := a1
          clear a1
          have e2 : u 2 = _ := a2
          clear a2
          have e3 : u 3 = _ := a3
          clear a3
          have e4 : u 4 = _ := a4
          clear a4
          have e5 : u 5 = _ := a5
          clear a5
          have e6 : u 6 = _ := a6
          clear a6
          have e7 : u 7 = _ := a7
          clear a7
          have e8 : u 8 = _ := a8
          clear a8
          have e9 : u 9 = _ := a9
          clear a9
          have e10 : u 10 = _ := a10
          clear a10
          have e11 : u 11 = _ := a11
          clear a11
          have e12 : u 12 = _ := a12
          clear a12
          obtain ⟨g13, e13, r13, s13⟩ := a13
          replace e13 : u 13 = _ := e13
          change wpList _ _ _ (List.drop 14 _) _ _
          simp only [List.drop_succ_cons, List.drop_zero]
          simp only [e0, e1, e2, e3, e4, e5, e6, e7, e8, e9, e10, e11, e12, e13]
          clear e0 e1 e2 e3 e4 e5 e6 e7 e8 e9 e10 e11 e12 e13
          have HR7 := Lib.hid (HR.out.later d7)
          have HZ7 := Lib.hid (block_later HZ0.out _ d7)
          refine wpList_appB rfl (.tmp 24) (.tmp 36) rfl Tryz.underlying23 Tryz.infoRule rfl (by decide) rfl HR7.out.own HR7.out.lt rfl (m := 1) (news := [.string (P1 ++ P0), .string (P0 ++ P1)]) (fun j u hu => by
            match j, hu with
            | 0, hu =>
              obtain rfl := Option.some.inj hu
              rw [add_off]
              exact r13
            | 1, hu =>
              obtain rfl := Option.some.inj hu
              rw [add_off]
              exact s13
            | j + 2, hu => cases hu) rfl (by decide) (fun u hu => by simp at hu; rcases hu with rfl | rfl <;> rfl) (by unfold maxLen; simp) (by simp) ?_
          intro g4 c4 w9 hn9 hg9 _
          obtain ⟨hbk, hput⟩ := HR7.out.putM hg9 hn9
          have HZ9 : Hid ((w9.setCell ⟨w.heap.size + 1, 1, none⟩ (.slice (some ⟨g4, 0, none⟩) 1 c4)).heap[w.heap.size]? = some (.cells #[.int .i64 0, .slice none 0 0] 25 (0, 0))) := Lib.hid (by
            have h1 := (hg9.block w.heap.size (by have := (Array.getElem?_eq_some_iff.1 HZ7.out).1; omega) (fun e => by have := (HR7.out.own.lt _ e.symm).1; omega)).trans HZ7.out
            unfold World.setCell
            rw [Array.getElem?_modify, if_neg (by show ¬ w.heap.size + 1 = w.heap.size; omega)]
            exact h1)
          have HP9 : Hid (Rec2 25 67 2 w (w9.setCell ⟨w.heap.size + 1, 1, none⟩ (.slice (some ⟨g4, 0, none⟩) 1 c4)) (w.heap.size + 1) (.int .i64 2) (.slice (some ⟨g4, 0, none⟩) 1 c4) [sortR].length (ruleCells [sortR])) := Lib.hid (by rw [HSR.out]; exact hput)
          obtain ⟨q0, q1, f0, f1⟩ := rec_cells hbk
          clear hbk hput hn9 hg9 r13 s13
          go_wp2_with fail
          go_roundw
          case rel => exact ⟨_, [sortR], .inr ⟨rfl, rfl⟩, HP9, HZ9⟩
          case measure => simp [intOf]
        · go_wp2_with fail
          go_roundw
          case rel => exact ⟨_, [sortR], .inr ⟨rfl, rfl⟩, HR, HZ0⟩
          case measure => simp [intOf]
    · obtain ⟨a1, c1, rfl⟩ := owns_form HR.out.own
      obtain ⟨y0, y1, _, _⟩ := HR.out.facts
      obtain ⟨z0, z1, f0, f1⟩ := rec_cells HZ0.out
      obtain ⟨u0, u1, _, _⟩ := rec_cells (set_two HZ0.out (.int .i64 2) (.slice a1 1 c1))
      have F : Hid (RulesIn ((wr.setCell ⟨w.heap.size, 0, none⟩ (.int .i64 2)).setCell ⟨w.heap.size, 1, none⟩ (.slice a1 1 c1)) a1 [sortR] ∧ Below w.heap.size w ((wr.setCell ⟨w.heap.size, 0, none⟩ (.int .i64 2)).setCell ⟨w.heap.size, 1, none⟩ (.slice a1 1 c1))) := Lib.hid ⟨rules_set2 (owns_rules HR.out.own) HZ0.out _ _, (HR.out.below.setCell (Nat.le_refl _) _).setCell (Nat.le_refl _) _⟩
      go_wp2_with fail
      refine bodyPost_ret (v := .tuple #[.agg #[.int .i64 2, .slice a1 1 c1], .bool true]) ?_ rfl ⟨a1, c1, rfl, F.out.1, F.out.2⟩
      simp [results, Tryz.results17, go_sem, u0, u1]
/-- a complete system -/
def RetMC (w : World) (e : Ending) (w' : World) : Prop := ∃ (k : Int) (R : List RulD) (aR : Option Addr) (cR : Nat), ComplP k R ∧ e = .returned (.agg #[.int .i64 k, .slice aR R.length cR]) ∧ RulesIn w' aR R ∧ Below w.heap.size w w'
set_option maxRecDepth 100000 in
set_option maxHeartbeats 4000000 in
theorem specMakeComplete_any (a : Option Addr) (l : List UInt8) (cap n : Nat) (w : World) (hl : BytesIn w a l) (hlen : l.length ≤ 2 ^ 40) (hn : n ≤ 1000) :
    Calls Tryz.prog 4 #[.slice a l.length cap, .int .i64 (n : Nat)] w (RetMC w) := by
  have hlt := alloc_at w (.cells #[.int .i64 0, .slice none 0 0] 25)
  have HW1 := Lib.hid (alloc_belowS w (.cells #[.int .i64 0, .slice none 0 0] 25))
  have HN := Lib.hid (l31New_any a l cap n (w.alloc (.cells #[.int .i64 0, .slice none 0 0] 25)) (hl.later HW1.out) hlen hn)
  have hsz : w.heap.size < (w.alloc (.cells #[.int .i64 0, .slice none 0 0] 25)).heap.size := by simp
  have HBK : Hid (∀ W, Below (w.alloc (.cells #[.int .i64 0, .slice none 0 0] 25)).heap.size (w.alloc (.cells #[.int .i64 0, .slice none 0 0] 25)) W → W.heap[w.heap.size]? = some (.cells #[.int .i64 0, .slice none 0 0] 25 (0, 0))) := Lib.hid (fun W hW => (hW.block _ hsz).trans hlt)
  have HSO := Lib.hid (fun W => specSorting2_any W)
  -- the end: the result's box is set
  have HEND : Hid (∀ W kk R aR cR, Below (w.alloc (.cells #[.int .i64 0, .slice none 0 0] 25)).heap.size (w.alloc (.cells #[.int .i64 0, .slice none 0 0] 25)) W → ComplP kk R → RulesIn W aR R → RetMC w (.returned (.agg #[.int .i64 kk, .slice aR R.length cR])) ((W.setCell ⟨w.heap.size, 0, none⟩ (.int .i64 kk)).setCell ⟨w.heap.size, 1, none⟩ (.slice aR R.length cR))) :=
    Lib.hid (fun W kk R aR cR hW hc hR => ⟨kk, R, aR, cR, hc, rfl, rules_set2 hR (HBK.out W hW) _ _, ((Below.now HW1.out hW).setCell (Nat.le_refl _) _).setCell (Nat.le_refl _) _⟩)
  clear hl hlt hsz
  go_enter Tryz.func4, Tryz.ntmps4
  go_wp2_with fail
  generalize w.alloc (.cells #[.int .i64 0, .slice none 0 0] 25) = w1 at *
  refine HN.out.mono ?_
  rintro e w2 ⟨rfl, hc, hb⟩
  have HD := Lib.hid (l03Draw_any w1.heap.size a l cap w1 w2 hc hb (Nat.le_refl _))
  clear hc hb HN
  go_wp2_with fail
  refine HD.out.mono ?_
  rintro e w3 ⟨kk, R, aR, cR, hs, rfl, hR, hc3, hb3⟩
  have HS := Lib.hid hs
  have HR4 := Lib.hid (hR.later (alloc_belowS w3 (.cells #[.int .i64 kk, .slice aR R.length cR] 25)))
  have HB4 := Lib.hid (Below.now hb3 (alloc_belowS w3 (.cells #[.int .i64 kk, .slice aR R.length cR] 25)))
  have HAT := Lib.hid (alloc_at w3 (.cells #[.int .i64 kk, .slice aR R.length cR] 25))
  have HRL : Hid (R.length ≤ 2 ^ 40) := Lib.hid (by have := hs.1.1.2; omega)
  have HIC := Lib.hid (fun W h => specIsComplete_any kk R aR cR W h HRL.out (szR_of hs))
  have HCO := Lib.hid (fun W h => specComplete_any kk R aR cR W h HRL.out (szR_of hs))
  have HST : Hid (startP kk R) := Lib.hid ⟨hs.1.1.1, hs.1.1.2, fun r hr => (hs.1.2 r hr).1⟩
  have HBX : Hid (∀ W, Below (w3.alloc (.cells #[.int .i64 kk, .slice aR R.length cR] 25)).heap.size (w3.alloc (.cells #[.int .i64 kk, .slice aR R.length cR] 25)) W → W.cell? ⟨w3.heap.size, 0, none⟩ = some (.int .i64 kk) ∧ W.cell? ⟨w3.heap.size, 1, none⟩ = some (.slice aR R.length cR)) := Lib.hid (fun W hW => by
    have h := rec_cells (block_later HAT.out W hW)
    exact ⟨h.1, h.2.1⟩)
  obtain ⟨s0, s1⟩ := HBX.out _ (Below.refl _ _)
  clear hs hR hc3 hb3 HD HAT
  go_wp2_with fail
  generalize w3.alloc (.cells #[.int .i64 kk, .slice aR R.length cR] 25) = w4 at *
  generalize hg3 : w3.heap.size = g3 at *
  clear hg3
  refine (HIC.out _ HR4.out).mono ?_
  rintro e w5 ⟨bb, hbb, rfl, hb5⟩
  have HBB := Lib.hid hbb
  have HB5 := Lib.hid (Below.now HB4.out hb5)
  have HR5 := Lib.hid (HR4.out.later hb5)
  have HX5 : Hid (∀ W, Below w5.heap.size w5 W → W.cell? ⟨g3, 0, none⟩ = some (.int .i64 kk) ∧ W.cell? ⟨g3, 1, none⟩ = some (.slice aR R.length cR)) := Lib.hid (fun W hW => HBX.out W (Below.now hb5 hW))
  clear hbb hb5 s0 s1 HBX
  obtain ⟨s0, s1⟩ := HX5.out _ (Below.refl _ _)
  cases bb
  · go_wp2_with fail
    refine (HCO.out _ HR5.out).mono ?_
    rintro e w6 hr
    rcases hr with ⟨hst, c, N, Q, T, aN, cN, hrun, rfl, hN, hb6⟩ | ⟨hst, rfl, hb6⟩
    · have HB7 := Lib.hid (Below.now HB5.out (Below.now hb6 (alloc_belowS w6 (.cells #[.int .i64 kk, .slice aN N.length cN] 25))))
      have HN7 := Lib.hid (hN.later (alloc_belowS w6 (.cells #[.int .i64 kk, .slice aN N.length cN] 25)))
      have HA7 := Lib.hid (alloc_at w6 (.cells #[.int .i64 kk, .slice aN N.length cN] 25))
      have HRUN := Lib.hid hrun
      clear hrun hN hb6 s0 s1
      by_cases hc : c = 0
      · subst hc
        have F := Lib.hid (HEND.out _ kk N aN cN HB7.out (run_comp HST.out.work (by
          obtain ⟨h1, h2, h3⟩ := HRUN.out.work HST.out.work
          have := h3 rfl
          subst this
          exact HRUN.out)).1 HN7.out)
        obtain ⟨z0, z1, f0, f1⟩ := rec_cells (HBK.out _ HB7.out)
        obtain ⟨u0, u1, _, _⟩ := rec_cells (set_two (HBK.out _ HB7.out) (.int .i64 kk) (.slice aN N.length cN))
        obtain ⟨y0, y1, _, _⟩ := rec_cells HA7.out
        go_wp2_with fail
        refine bodyPost_ret (v := .agg #[.int .i64 kk, .slice aN N.length cN]) ?_ rfl F.out
        simp [results, Tryz.results4, go_sem, u0, u1]
      · have hc0 : (((c : Nat) : Int) == 0) = false := by rw [beq_eq_false_iff_ne]; omega
        have hc1 : ¬ ((c : Nat) : Int) = 0 := by omega
        clear hc
        go_wp2_with fail
        refine (HSO.out _).mono ?_
        rintro e w8 ⟨aS, cS, rfl, hS, hb8⟩
        have hb9 := Below.now HB7.out (Below.now hb8 (alloc_belowS w8 (.cells #[.int .i64 2, .slice aS 1 cS] 25)))
        have F := Lib.hid (HEND.out _ 2 [sortR] aS cS hb9 sortR_com (hS.later (alloc_belowS w8 (.cells #[.int .i64 2, .slice aS 1 cS] 25))))
        obtain ⟨z0, z1, f0, f1⟩ := rec_cells (HBK.out _ hb9)
        obtain ⟨u0, u1, _, _⟩ := rec_cells (set_two (HBK.out _ hb9) (.int .i64 2) (.slice aS 1 cS))
        obtain ⟨y0, y1, _, _⟩ := rec_cells (alloc_at w8 (.cells #[.int .i64 2, .slice aS 1 cS] 25))
        simp only [List.length_singleton] at F
        clear hS hb8 hb9 hc0 hc1
        go_wp2_with fail
        refine bodyPost_ret (v := .agg #[.int .i64 2, .slice aS 1 cS]) ?_ rfl F.out
        simp [results, Tryz.results4, go_sem, u0, u1]
    · exact absurd HST.out hst
  · have F := Lib.hid (HEND.out _ kk R aR cR HB5.out (HBB.out.1 rfl) HR5.out)
    obtain ⟨z0, z1, f0, f1⟩ := rec_cells (HBK.out _ HB5.out)
    obtain ⟨u0, u1, _, _⟩ := rec_cells (set_two (HBK.out _ HB5.out) (.int .i64 kk) (.slice aR R.length cR))
    go_wp2_with fail
    refine bodyPost_ret (v := .agg #[.int .i64 kk, .slice aR R.length cR]) ?_ rfl F.out
    simp [results, Tryz.results4, go_sem, u0, u1]
end Go.Proofs.YtgoeadgpbidgiaaGreat
namespace Go.Proofs.YtgoeadgpbidgiaaGreat.fnClasses
open Go.RowKit
set_option linter.unusedVariables false
theorem word_ok {k : Int} {s : ByteArray} {n : Nat} (hk : 1 ≤ k ∧ k ≤ 4) (h : allB (letB k) s = true) (hs : s.size ≤ n) (hn : n ≤ 16) : wordOkB k s = true := by
  unfold wordOkB
  rw [Bool.and_eq_true, Bool.and_eq_true]
  exact ⟨by simp [inB]; omega, decide_eq_true (by omega), h⟩
theorem sumZ_nat {l : List Int} (h : ∀ x ∈ l, 0 ≤ x) (j : Nat) : 0 ≤ sumZ l j ∧ sumZ l j ≤ l.sum := by
  unfold sumZ
  have key : ∀ (l : List Int), (∀ x ∈ l, 0 ≤ x) → 0 ≤ l.sum := by
    intro l
    induction l with
    | nil => intro _; simp
    | cons a l ih =>
      intro h
      have h1 := h a (List.mem_cons_self ..)
      have h2 := ih fun x hx => h x (List.mem_cons_of_mem _ hx)
      simp; omega
  have h1 := key (l.take j) fun x hx => h x (List.mem_of_mem_take hx)
  have h2 := key (l.drop j) fun x hx => h x (List.mem_of_mem_drop hx)
  have h3 : (l.take j ++ l.drop j).sum = l.sum := by rw [List.take_append_drop]
  rw [List.sum_append] at h3
  omega
set_option maxRecDepth 100000 in
set_option maxHeartbeats 8000000 in
theorem walkSmall (a : Option Addr) (l : List UInt8) (cap : Nat) (w : World) (hl : BytesIn w a l) (hlen : l.length ≤ 1048576) :
    Calls Tryz.prog 3 #[.slice a l.length cap] w fun e w' => e = .returned (.bool true) ∧ Below w.heap.size w w' := by
  have hq0 : ¬ (1048576 : Int) < (l.length : Int) := by omega
  have HM := Lib.hid (specMakeComplete_any a l cap 0 w hl (by omega) (by omega))
  have HNUM := Lib.hid (fun W (h : BytesIn W a l) => makeNum_any a l cap 40 W h (by omega) (by omega))
  have HMW := Lib.hid (fun kn n (h1 : 1 ≤ kn) (h4 : kn ≤ 4) (hn : n ≤ 3) W (h : BytesIn W a l) => makeWord_any a l cap 60 kn n W h (by omega) (by omega) h1 h4 (by omega))
  have HBY0 := Lib.hid hl
  clear hl
  go_enter Tryz.func3, Tryz.ntmps3
  go_wp2_with fail
  refine HM.out.mono ?_
  rintro e w1 ⟨k, R, aR, cR, hcom, rfl, hR, hb1⟩
  obtain ⟨kn, rfl⟩ : ∃ kn : Nat, k = (kn : Int) := ⟨k.toNat, by have := hcom.1.1.1.1; omega⟩
  have hk1 : 1 ≤ kn := by have := hcom.1.1.1.1; omega
  have hk4 : kn ≤ 4 := by have := hcom.1.1.1.1; omega
  have hR12 : R.length ≤ 12 := hcom.1.1.1.2
  have HCM := Lib.hid hcom
  have hSz : SzR R := szR_of hcom.1
  have HNF : Hid (∀ u W, RulesIn W aR R → wordOkB (kn : Int) u = true → Calls Tryz.prog 10 #[.agg #[.int .i64 (kn : Int), .slice aR R.length cR], .string u] W fun e w' => e = .returned (.tuple #[.string (nfC R u), .bool true]) ∧ Below W.heap.size W w') := Lib.hid (fun u W h hw => (implNormalForm_ok (kn : Int) R aR cR u W h hcom.1 hw).mono fun e w' ⟨x, hx, he, hb⟩ => ⟨by rw [nfC_eq hx]; exact he, hb⟩)
  have HCC := Lib.hid (fun n (hn : n ≤ 3) W h => implCountClassesUpTo_any kn R aR cR n W h hcom hn)
  have HGO := Lib.hid (fun n (hn : n ≤ 3) W h => implGrowthOf_any kn n R aR cR W h hcom.1 hn)
  have HEQ := Lib.hid (fun n u (hn : n ≤ 3) hu hun W h => implEqualWords_any kn R aR cR n u W h hcom hn hu hun)
  have HSO := Lib.hid (fun n (hn : n ≤ 3) W h => implSearchOk_any kn R aR cR n W h hcom.1 hn)
  have HB1 := Lib.hid hb1
  have HR1 := Lib.hid hR
  clear hcom hSz hR hb1 HM
  go_upto_region 4 with fail
  have HB2 := Lib.hid (alloc_belowS w1 (.cells #[.int .i64 (kn : Int), .slice aR R.length cR] 25))
  have HXS : Hid (∀ W, Below (w1.alloc (.cells #[.int .i64 (kn : Int), .slice aR R.length cR] 25)).heap.size (w1.alloc (.cells #[.int .i64 (kn : Int), .slice aR R.length cR] 25)) W → (W.cell? ⟨w1.heap.size, 0, none⟩ = some (.int .i64 (kn : Int)) ∧ W.cell? ⟨w1.heap.size, 1, none⟩ = some (.slice aR R.length cR)) ∧ RulesIn W aR R ∧ BytesIn W a l) := Lib.hid (fun W hW => ⟨⟨by rw [hW.cell (by simp)]; simp, by rw [hW.cell (by simp)]; simp⟩, (HR1.out.later HB2.out).later hW, ((HBY0.out.later HB1.out).later HB2.out).later hW⟩)
  have HBW := Lib.hid (Below.now HB1.out HB2.out)
  clear HB2 HR1 HBY0 HB1
  generalize hg1 : w1.heap.size = g1 at *
  clear hg1
  generalize (w1.alloc (.cells #[.int .i64 (kn : Int), .slice aR R.length cR] 25)) = w2 at *
  obtain ⟨-, -, hY2⟩ := HXS.out w2 (Below.refl _ _)
  have HY2 := Lib.hid hY2
  clear hY2
  go_wp2_with fail
  refine (HNUM.out _ HY2.out).mono ?_
  rintro e w3 ⟨x, hx, rfl, hb3⟩
  obtain ⟨n, hn, hie⟩ : ∃ n, n < 4 ∧ ((x : Int)).tmod 4 = ((n : Nat) : Int) := ⟨x % 4, Nat.mod_lt _ (by omega), (Int.ofNat_tmod x 4).symm⟩
  have hn3 : n ≤ 3 := by omega
  have HB3 := Lib.hid hb3
  obtain ⟨⟨s0, s1⟩, hR3, -⟩ := HXS.out w3 HB3.out
  have HR3 := Lib.hid hR3
  clear hR3 hb3 hx HY2
  go_wp2_with fail
  refine (HCC.out n hn3 _ HR3.out).mono ?_
  rintro e w4 ⟨rfl, hb4⟩
  have HB4 := Lib.hid (Below.now HB3.out hb4)
  clear s0 s1 hb4 HR3 HCC hie
  obtain ⟨⟨s0, s1⟩, hR4, -⟩ := HXS.out w4 HB4.out
  have HR4 := Lib.hid hR4
  clear hR4
  go_wp2_with fail
  refine (HGO.out n hn3 _ HR4.out).mono ?_
  rintro e w5 ⟨a5, c5, rfl, ho5, hb5⟩
  have hgl : (((growL R kn n).length : Nat) : Int) = (n : Int) + 1 := by rw [growL_len]; omega
  have HI5 := Lib.hid (owns_ints ho5)
  have HB5 := Lib.hid (Below.now HB4.out hb5)
  have HSM : Hid (∀ W, Below w5.heap.size w5 W → Calls Tryz.prog 11 #[.slice a5 (growL R kn n).length c5] W fun e w' => e = .returned (.int .i64 (growL R kn n).sum) ∧ W = w') := Lib.hid (fun W hW => lawSum_any (growL R kn n) a5 c5 W ((owns_ints ho5).later hW) (by rw [growL_len]; omega) (fun j hj => by
    have h1 := sumZ_nat (l := growL R kn n) (fun x hx => by
      unfold growL at hx
      obtain ⟨i, _, rfl⟩ := List.mem_map.1 hx
      exact Int.natCast_nonneg _) j
    have h2 := clsTo_all (sys_ne HCM.out.1.1) (sysG_of HCM.out.1).ne kn n
    have h3 := clsTo_le R (up kn n) (up kn n).length
    have h4 := up_len hk4 n (by omega)
    omega))
  clear s0 s1 ho5 hb5 HR4 HGO HB4 HI5
  obtain ⟨gl, hgle⟩ : ∃ gl, (growL R kn n).length = gl := ⟨_, rfl⟩
  obtain ⟨gs, hgs⟩ : ∃ gs, (growL R kn n).sum = gs := ⟨_, rfl⟩
  rw [hgle] at hgl HSM
  rw [hgs] at HSM
  rw [hgle, hgs]
  clear hgle hgs
  obtain ⟨⟨s0, s1⟩, -, hY5⟩ := HXS.out w5 HB5.out
  have HY5 := Lib.hid hY5
  clear hY5
  go_wp2_with fail
  refine (HMW.out kn n hk1 hk4 hn3 _ HY5.out).mono ?_
  rintro e w6 ⟨u, hu, rfl, hb6⟩
  have HWO := Lib.hid (word_ok (k := (kn : Int)) (by omega) hu.1 hu.2 (by omega))
  have hun : u.size ≤ n := hu.2
  have HB56 := Lib.hid hb6
  clear s0 s1 hu hb6 HY5 HMW
  obtain ⟨⟨s0, s1⟩, hR6, -⟩ := HXS.out w6 (Below.now HB5.out HB56.out)
  have HR6 := Lib.hid hR6
  clear hR6
  go_wp2_with fail
  refine (HEQ.out n u hn3 HWO.out hun _ HR6.out).mono ?_
  rintro e w7 ⟨T, aT, cT, hT, rfl, hoT, hb7⟩
  have HTH := Lib.hid hT.2
  have hTp : 0 < T.length := hT.1
  have HTI := Lib.hid (owns_strs hoT)
  have HB57 := Lib.hid (Below.now HB56.out hb7)
  clear s0 s1 hT hoT hb7 HR6 HEQ HB56
  obtain ⟨⟨s0, s1⟩, hR7, -⟩ := HXS.out w7 (Below.now HB5.out HB57.out)
  have HR7 := Lib.hid hR7
  clear hR7
  go_wp2_with fail
  refine (HNF.out u _ HR7.out HWO.out).mono ?_
  rintro e w8 ⟨rfl, hb8⟩
  obtain ⟨y, hy⟩ : ∃ y, nfC R u = y := ⟨_, rfl⟩
  obtain ⟨bT, oT, rfl, hbT, hcT⟩ := HTI.out.cell hTp
  have y0 := hcT 0 hTp
  rw [HTH.out, hy] at y0
  rw [hy]
  have HY0 : Hid (w8.cell? ⟨bT, oT + 0, none⟩ = some (.string y)) := Lib.hid ((hb8.cell (World.block_lt_of_cell? _ _ y0)).trans y0)
  have HB58 := Lib.hid (Below.now HB57.out hb8)
  have hTl : (0 : Int) < (T.length : Int) := by omega
  clear s0 s1 hb8 hcT y0 hy HTI HTH HR7 HNF HB57
  have y0 := HY0.out
  rw [Nat.add_zero] at y0
  obtain ⟨⟨s0, s1⟩, hR8, -⟩ := HXS.out w8 (Below.now HB5.out HB58.out)
  have HR8 := Lib.hid hR8
  clear hR8
  go_wp2_with fail
  refine (HSM.out _ HB58.out).mono ?_
  rintro e w9 ⟨rfl, rfl⟩
  go_wp2_with fail
  refine (HSO.out n hn3 _ HR8.out).mono ?_
  rintro e w10 ⟨rfl, hb10⟩
  have HF := Lib.hid (Below.now HBW.out (Below.now (Below.now HB5.out HB58.out) hb10))
  clear hb10
  go_wp2_with fail
  go_ret
  exact ⟨by first | rfl | simp, HF.out⟩
set_option maxHeartbeats 400000 in
theorem walkBig (a : Option Addr) (n cap : Nat) (w : World) (hn : n ≤ 9223372036854775807) (hlen : 1048576 < n) :
    Calls Tryz.prog 3 #[.slice a n cap] w fun e w' => e = .returned (.bool true) ∧ Below w.heap.size w w' := by
  have hq0 : (1048576 : Int) < (n : Int) := by omega
  go_enter Tryz.func3, Tryz.ntmps3
  go_wp2_with fail
  go_ret
  exact ⟨rfl, Below.refl _ _⟩
end Go.Proofs.YtgoeadgpbidgiaaGreat.fnClasses
namespace Go.Proofs.YtgoeadgpbidgiaaGreat
open Go.ChangeShapes Go.WideShapes Go.ChangeAt Go.RowKit Go.Joins Go.Deep
set_option linter.unusedVariables false
theorem open_bytesIn {H : Type} {enc : TypeId × Value → H} {P : Program} {w : World} {r : Go.Reach} {b0 : Nat} {t e : TypeId} {v : Value} {d : DataW H} {p : List MemPlace} (ht : P.underlying t = some (.slice e)) (he : P.underlying e = some (.int .u8)) (hc : P.cellsOf e = 1)
    (hv : Value.okWide P w r b0 t v) (h : DataW.Trod enc P w 0 (fun _ => true) true t v d p) : ∃ a l cap, v = .slice a (List.length (α := UInt8) l) cap ∧ BytesIn w a l ∧ l.length ≤ 9223372036854775807 := by
  obtain ⟨a0, len0, cap0, rfl⟩ := okWide_slice ht hv
  obtain ⟨fuel, hf⟩ := h
  rcases open_ints ht he hc hf with ⟨hcs, _⟩ | ⟨a, len, cap, zs, hcs, _, hl, hm, hz, _, hcell, hwz⟩
  · have e : (Value.slice a0 len0 cap0) = .slice none 0 0 := by simpa [Value.cells] using hcs
    rw [e]
    exact ⟨none, [], 0, rfl, .inl rfl, by simp⟩
  · have e : (Value.slice a0 len0 cap0) = .slice (some a) len cap := by simpa [Value.cells] using hcs
    rw [e]
    simp only [if_true] at hz
    have hlen : ((zs.take len).map fun n => UInt8.ofNat n.toNat).length = len := by rw [List.length_map, List.length_take]; omega
    refine ⟨some a, (zs.take len).map fun n => UInt8.ofNat n.toNat, cap, by rw [hlen], ?_, by rw [hlen]; unfold maxLen at hm; omega⟩
    by_cases h0 : len = 0
    · left; subst h0; simp
    · obtain ⟨b, off, rfl, hc'⟩ := ints_at hcell (by omega)
      right
      refine ⟨b, off, rfl, fun i hi => ?_⟩
      rw [List.length_map, hlen] at hi
      rw [hc' i (by omega)]
      have hb := range_u8 hwz i
      rw [List.getElem?_eq_getElem (show i < zs.length by omega), Option.getD_some] at hb
      have e : zs.getD i 0 = zs[i]'(by omega) := by simp [List.getD, List.getElem?_eq_getElem (show i < zs.length by omega)]
      simp only [List.getElem_map, List.getElem_take]
      rw [e]
      congr 2
      simp only [UInt8.toNat_ofNat']
      omega
end Go.Proofs.YtgoeadgpbidgiaaGreat
namespace Go.Proofs.YtgoeadgpbidgiaaGreat.fnClasses
open Go.ChangeShapes Go.WideShapes Go.ChangeAt Go.RowKit Go.Joins
set_option linter.unusedVariables false
theorem own : ownKnob Tryz.prog.godebug = none := by kernel_rfl
theorem laidOut : laidOutB Tryz.prog = true := by kernel_rfl
theorem cellsB : Tryz.prog.cellsOf 5 = 1 := by kernel_rfl
theorem rdB : Tryz.prog.readableRec 22 = true ∧ 22 < Tryz.prog.types.size := ⟨by kernel_rfl, of_decide_eq_true (by kernel_rfl)⟩
theorem rd : ∀ t ∈ Tryz.f3.params.toList, Tryz.prog.readableRec t = true ∧ t < Tryz.prog.types.size := by
  rw [Tryz.params3]
  intro t ht
  simp at ht
  subst ht
  exact rdB
theorem walk (a : Option Addr) (l : List UInt8) (cap : Nat) (w : World) (hl : BytesIn w a l) (hn : l.length ≤ 9223372036854775807) :
    Calls Tryz.prog 3 #[.slice a l.length cap] w fun e w' => e = .returned (.bool true) ∧ Below w.heap.size w w' := by
  by_cases h : l.length ≤ 1048576
  · exact walkSmall a l cap w hl h
  · exact walkBig a l.length cap w hn (by omega)
set_option maxRecDepth 100000 in
theorem lifted (os : Os) (started : os.Started) (H : Type) (enc : TypeId × Value → H) :
    ReturnsInHanded {} Tryz.checked os 3 .any (Rows.fnClassesSpec.pre6 enc Tryz.prog Tryz.f3 Rows.fnClassesRow.domain false) (Rows.fnClassesSpec.post enc Tryz.prog Tryz.f3 false true false false) := by
  refine returnsInHanded_of_change (C := Tryz.checked) own started (by kernel_rfl) Tryz.func3
    (ChangeSpec.witness6 (enc := enc) (C := Tryz.checked) false ⟨#[], #[.slice none 0 0], []⟩ 8 (by kernel_rfl) (by kernel_rfl) (by kernel_rfl) (by kernel_rfl)) ?_
  intro W base args ds gs before hval0 hW hcnd _
  have hval : ∀ (j : Nat) t v, Tryz.f3.params[j]? = some t → args[j]? = some v → Value.okWide Tryz.prog W .any base t v := hval0
  have hW' := hW
  obtain ⟨p, q, hA0, hV, rfl, hfz, hnd⟩ := hW
  have hA : DataW.TrodAll enc Tryz.prog W 0 (fun _ => true) true Tryz.f3.params.toList args.toList ds p := hA0
  rw [Tryz.params3] at hA hval
  obtain ⟨v0, vs0, d0, ds0, p0, q0, hargs, rfl, rfl, h0, r0⟩ := trodAll_cons hA
  obtain ⟨rfl, rfl, rfl⟩ := trodAll_nil r0
  obtain rfl : args = #[v0] := by cases args; simp_all
  obtain ⟨rfl, rfl⟩ := trodVars_none hV
  obtain ⟨a0, l0, c0, rfl, hl0, hn0⟩ := open_bytesIn Tryz.underlying22 Tryz.underlying5 cellsB (hval 0 22 v0 rfl rfl) h0
  clear hA0 hval0
  refine (walk a0 l0 c0 W hl0 hn0).mono fun e W' ⟨he, hg⟩ => ?_
  subst he
  exact ⟨_, rfl, law_post laidOut rd rfl hW' rfl Tryz.underlying4 rfl hg⟩
theorem over : Rows.fnClassesRow.holds Tryz.pinned (OpenSpec.ofChange Rows.fnClassesSpec) :=
  OpenClaim.holds_of_wide 3 Tryz.f3 rfl rfl rfl rfl rfl rfl rfl ⟨rfl, rfl, rfl, rfl, rfl⟩ rfl rfl rfl rfl rfl (by kernel_rfl) Tryz.func3 (by kernel_rfl)
    (of_decide_eq_true (by kernel_rfl)) (by unfold Func.isWrapper; first | (rw [if_pos (by decide +kernel)]; kernel_rfl) | (rw [if_neg (by decide +kernel)]; exact ⟨rfl, rfl⟩))
    (fun os started H enc _ => lifted os started H enc)
theorem proved : Rows.FnClassesSaid :=
  over
#print axioms proved
end Go.Proofs.YtgoeadgpbidgiaaGreat.fnClasses
