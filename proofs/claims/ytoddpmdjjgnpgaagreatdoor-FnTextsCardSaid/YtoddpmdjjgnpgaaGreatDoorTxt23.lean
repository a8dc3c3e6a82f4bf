/-
  ChainOf of the reference, coarsely.
-/
import Derived.Test.YtoddpmdjjgnpgaaGreatDoorTxt22
import Derived.Test.YtoddpmdjjgnpgaaGreatDoorTxt12
namespace Go.Proofs.YtoddpmdjjgnpgaaGreatDoor
open Go.RowKit
set_option linter.unusedVariables false
theorem rules_kept {w w' : World} {own : Option Nat} {a : Option Addr} {R : List RulD} (h : RulesIn w a R) (hg : w.grownBy w' own) (hne : R ≠ [] → ∀ x, a = some x → own ≠ some x.block) : RulesIn w' a R := by
  rcases h with h | ⟨b, off, ha, hc⟩
  · exact .inl h
  · refine .inr ⟨b, off, ha, fun i hi => ?_⟩
    rw [World.cell?_of_block (w := w) (hg.block b (World.block_lt_of_cell? w _ (hc i hi)) (fun e => hne (fun e2 => by subst e2; simp [ruleCells] at hi) _ ha e.symm))]
    exact hc i hi
/-- rules do not lie in a cursor's box -/
theorem rules_cur {w w' : World} {B : Nat} {a : Option Addr} {l : List UInt8} {cap : Nat} {aR : Option Addr} {R : List RulD} (h : RulesIn w aR R) (hc : CurOk w B a l cap) (hg : w.grownBy w' (some B)) : RulesIn w' aR R := by
  refine rules_kept h hg fun hne x hx e => ?_
  obtain ⟨i, hh, hb, _⟩ := hc.at_
  have hB : B = x.block := Option.some.inj e
  rcases h with h | ⟨b, off, ha, hcs⟩
  · have := ruleCells_len R
    rw [h] at this
    exact hne (List.length_eq_zero_iff.1 (by simp at this; omega))
  · rw [hx] at ha
    obtain rfl := Option.some.inj ha
    have h0 : 0 < (ruleCells R).length := by
      rw [ruleCells_len]
      have : 0 < R.length := List.length_pos_iff.2 hne
      omega
    have h1 := hcs 0 h0
    obtain ⟨s, hs⟩ := ruleCells_str R _ (List.getElem_mem h0)
    simp only [] at hB
    subst hB
    rw [hs] at h1
    simp only [World.cell?, hb] at h1
    match off + 0, h1 with
    | 0, h1 => cases h1
    | 1, h1 => cases h1
    | 2, h1 => cases h1
    | n + 3, h1 => cases h1
/-- some system and some word -/
def RetCs (B : Nat) (a : Option Addr) (l : List UInt8) (cap : Nat) (w0 wE : World) (e : Ending) (w' : World) : Prop := ∃ (k : Int) (R : List RulD) (aR : Option Addr) (cR : Nat) (s : ByteArray),
  ((ShortR 25 R ∧ R.length ≤ 13) ∧ s.size ≤ 24) ∧ e = .returned (.tuple #[.agg #[.int .i64 k, .slice aR R.length cR], .string s]) ∧ RulesIn w' aR R ∧ CurOk w' B a l cap ∧ Below w0.heap.size w0 w' ∧ wE.grownBy w' (some B)
theorem case_fin {B : Nat} {a : Option Addr} {l : List UInt8} {cap : Nat} {w0 wE wr : World} {z : Nat} {k : Int} {R : List RulD} {aR : Option Addr} {cR : Nat} {s : ByteArray}
    (hs : (ShortR 25 R ∧ R.length ≤ 13) ∧ s.size ≤ 24) (hl : RulesIn wr aR R) (hc : CurOk wr B a l cap) (hb : Below w0.heap.size w0 wr) (hg : wE.grownBy wr (some B)) (hz : wr.heap[z]? = some (.cells #[.int .i64 0, .slice none 0 0] 25 (0, 0))) (hlt : B < z ∧ w0.heap.size ≤ B ∧ wE.heap.size ≤ z) (hf : l ≠ [] → ∀ x, a = some x → x.block < z) :
    RetCs B a l cap w0 wE (.returned (.tuple #[.agg #[.int .i64 k, .slice aR R.length cR], .string s])) ((wr.setCell ⟨z, 0, none⟩ (.int .i64 k)).setCell ⟨z, 1, none⟩ (.slice aR R.length cR)) :=
  ⟨k, R, aR, cR, s, hs, rfl, rules_setFar2 hl hz (fun s e => by cases e) (fun s e => by cases e) _ _,
    (hc.grownO (setGrownB wr z 0 _) (fun e => by have := Option.some.inj e; omega) (fun hne x hx e => by have := hf hne x hx; have := Option.some.inj e; omega)).grownO (setGrownB _ z 1 _) (fun e => by have := Option.some.inj e; omega) (fun hne x hx e => by have := hf hne x hx; have := Option.some.inj e; omega),
    (hb.setCell (p := ⟨z, 0, none⟩) (by show w0.heap.size ≤ z; omega) _).setCell (p := ⟨z, 1, none⟩) (by show w0.heap.size ≤ z; omega) _,
    grown_since (grown_since hg (setGrownB wr z 0 _) (fun b e => by have := Option.some.inj e; omega)) (setGrownB _ z 1 _) (fun b e => by have := Option.some.inj e; omega)⟩
/-- a block above the cursor's is left alone -/
theorem blk_cur {w w' : World} {B z : Nat} {o : Obj} (h : w.heap[z]? = some o) (hg : w.grownBy w' (some B)) (hB : B < z) : w'.heap[z]? = some o :=
  (hg.block z (Array.getElem?_eq_some_iff.1 h).1 (fun e => by have := Option.some.inj e; omega)).trans h
set_option maxRecDepth 20000 in
set_option maxHeartbeats 4000000 in
theorem l04Case_c (B : Nat) (a : Option Addr) (l : List UInt8) (cap : Nat) (w0 w : World) (h : CurOk w B a l cap) (hb0 : Below w0.heap.size w0 w) (hB : w0.heap.size ≤ B) :
    Calls Tryz.prog 108 #[.pointer (some ⟨B, 0, none⟩)] w (RetCs B a l cap w0 w) := by
  have HC1 := Lib.hid (h.alloc (.cells #[.int .i64 0, .slice none 0 0] 25))
  have HB1 := Lib.hid (hb0.alloc hb0.size (.cells #[.int .i64 0, .slice none 0 0] 25))
  have HZ1 := Lib.hid (alloc_at w (.cells #[.int .i64 0, .slice none 0 0] 25))
  have HG1 := Lib.hid (grown_alloc (grown_self w (some B)) (.cells #[.int .i64 0, .slice none 0 0] 25))
  have HLT : Hid (B < w.heap.size ∧ w0.heap.size ≤ B ∧ w.heap.size ≤ w.heap.size) := Lib.hid ⟨h.lt, hB, Nat.le_refl _⟩
  have HFR := Lib.hid (curNe h.bytes)
  have HO : Hid (∀ W, CurOk W B a l cap → Calls Tryz.prog 84 #[.pointer (some ⟨B, 0, none⟩), .int .i64 10] W fun e w' => ∃ b : Bool, e = .returned (.bool b) ∧ CurOk w' B a l cap ∧ W.grownBy w' (some B)) := Lib.hid (fun W hW => l01Once_any B 10 a l cap W hW (by omega) (by omega))
  have HWD : Hid (∀ W, CurOk W B a l cap → Calls Tryz.prog 151 #[.pointer (some ⟨B, 0, none⟩)] W (RetWd B a l cap W)) := Lib.hid (fun W hW => l02Any_any B a l cap W hW)
  have HAN := Lib.hid (l03Any_c B a l cap w0 (w.alloc (.cells #[.int .i64 0, .slice none 0 0] 25)) HC1.out HB1.out hB)
  clear h hb0
  go_enter Tryz.func108, Tryz.ntmps108
  go_wp2_with fail
  refine HAN.out.mono ?_
  rintro e w3 ⟨k, R, aR, cR, hs, rfl, hR, hc3, hb3, hg3⟩
  have HS := Lib.hid hs
  have hb4 := alloc_belowS w3 (.cells #[.int .i64 k, .slice aR R.length cR] 25)
  have HC4 := Lib.hid (hc3.later hb4)
  have HB4 := Lib.hid (Below.now hb3 hb4)
  have HG4 := Lib.hid (grown_below (grown_tr HG1.out hg3) hb4)
  have HZ4 := Lib.hid (block_later (blk_cur HZ1.out hg3 HLT.out.1) _ hb4)
  have HR4 := Lib.hid (hR.later hb4)
  have HX4 := Lib.hid (alloc_at w3 (.cells #[.int .i64 k, .slice aR R.length cR] 25))
  have HXL : Hid (B < w3.heap.size) := Lib.hid hc3.lt
  obtain ⟨n, m1, hn1, hn4⟩ : ∃ n : Nat, max (1 : Int) (min k 4) = (n : Int) ∧ 1 ≤ n ∧ n ≤ 4 := ⟨(max (1 : Int) (min k 4)).toNat, by omega, by omega, by omega⟩
  have HDW : Hid (∀ W, CurOk W B a l cap → Calls Tryz.prog 43 #[.pointer (some ⟨B, 0, none⟩), .int .i64 (n : Nat), .int .i64 8] W fun e w' => ∃ s : ByteArray, (allB (letB (n : Nat)) s = true ∧ s.size ≤ 8) ∧ e = .returned (.string s) ∧ CurOk w' B a l cap ∧ W.grownBy w' (some B)) := Lib.hid (fun W hW => l02Draw_any B n 8 a l cap W hW hn1 hn4 (by omega))
  clear hb4 hR hc3 hb3 hg3 hs HC1 HB1 HZ1 HG1 HAN
  obtain ⟨x0, x1⟩ := sys_cells HX4.out
  go_upto_region 2 with fail
  generalize w3.alloc (.cells #[.int .i64 k, .slice aR R.length cR] 25) = w4 at *
  go_wp2_with fail
  refine (HDW.out _ HC4.out).mono ?_
  rintro e w5 ⟨s, ⟨-, hs8⟩, rfl, hc5, hg5⟩
  have HR5 := Lib.hid (rules_cur HR4.out HC4.out hg5)
  have HC5 := Lib.hid hc5
  have HB5 := Lib.hid (below_curs HB4.out hg5 hB)
  have HG5 := Lib.hid (grown_tr HG4.out hg5)
  have HZ5 := Lib.hid (blk_cur HZ4.out hg5 HLT.out.1)
  have HX5 := Lib.hid (blk_cur HX4.out hg5 HXL.out)
  clear hc5 hg5 HR4 HC4 HB4 HG4 HZ4 HX4 HDW m1 x0 x1
  go_wp2_with fail
  refine (HO.out _ HC5.out).mono ?_
  rintro e w6 ⟨b, rfl, hc6, hg6⟩
  have HR6 := Lib.hid (rules_cur HR5.out HC5.out hg6)
  have HC6 := Lib.hid hc6
  have HB6 := Lib.hid (below_curs HB5.out hg6 hB)
  have HG6 := Lib.hid (grown_tr HG5.out hg6)
  have HZ6 := Lib.hid (blk_cur HZ5.out hg6 HLT.out.1)
  have HX6 := Lib.hid (blk_cur HX5.out hg6 HXL.out)
  clear hc6 hg6 HR5 HC5 HB5 HG5 HZ5 HX5 HO
  cases b
  · have hz5 := HZ6.out
    have F := Lib.hid (case_fin (k := k) (cR := cR) (s := s) ⟨HS.out, by omega⟩ HR6.out HC6.out HB6.out HG6.out hz5 HLT.out HFR.out)
    obtain ⟨y0, y1⟩ := sys_cells HX6.out
    obtain ⟨x0, x1⟩ := sys_cells hz5
    obtain ⟨u0, u1⟩ := sys_cells (set_two hz5 (.int .i64 k) (.slice aR R.length cR))
    have ff0 : w6.frozen? ⟨w.heap.size, 0, none⟩ = false := by simp [World.frozen?, hz5]
    have ff1 : w6.frozen? ⟨w.heap.size, 1, none⟩ = false := by simp [World.frozen?, hz5]
    clear hz5
    go_wp2_with fail
    refine bodyPost_ret (v := .tuple #[.agg #[.int .i64 k, .slice aR R.length cR], .string s]) ?_ rfl F.out
    simp [results, Tryz.results108, go_sem, u0, u1]
  · go_wp2_with fail
    refine (HWD.out _ HC6.out).mono ?_
    rintro e w7 ⟨s2, hs2, rfl, hc7, hg7⟩
    have hz5 := blk_cur HZ6.out hg7 HLT.out.1
    have F := Lib.hid (case_fin (k := k) (cR := cR) (s := s2) ⟨HS.out, by omega⟩ (rules_cur HR6.out HC6.out hg7) hc7 (below_curs HB6.out hg7 hB) (grown_tr HG6.out hg7) hz5 HLT.out HFR.out)
    obtain ⟨y0, y1⟩ := sys_cells (blk_cur HX6.out hg7 HXL.out)
    obtain ⟨x0, x1⟩ := sys_cells hz5
    obtain ⟨u0, u1⟩ := sys_cells (set_two hz5 (.int .i64 k) (.slice aR R.length cR))
    have ff0 : w7.frozen? ⟨w.heap.size, 0, none⟩ = false := by simp [World.frozen?, hz5]
    have ff1 : w7.frozen? ⟨w.heap.size, 1, none⟩ = false := by simp [World.frozen?, hz5]
    clear hz5 hc7 hg7
    go_wp2_with fail
    refine bodyPost_ret (v := .tuple #[.agg #[.int .i64 k, .slice aR R.length cR], .string s2]) ?_ rfl F.out
    simp [results, Tryz.results108, go_sem, u0, u1]
/-- some link -/
def RetLk (B : Nat) (a : Option Addr) (l : List UInt8) (cap : Nat) (w : World) (e : Ending) (w' : World) : Prop := ∃ (x y : Int) (b : Bool), (I64 x ∧ I64 y) ∧ e = .returned (.agg #[.int .i64 x, .int .i64 y, .bool b]) ∧ CurOk w' B a l cap ∧ w.grownBy w' (some B)
theorem set_three {W : World} {g : Nat} {x y z : Value} {T : TypeId} (h : W.heap[g]? = some (.cells #[x, y, z] T (0, 0))) (u v t : Value) : (((W.setCell ⟨g, 0, none⟩ u).setCell ⟨g, 1, none⟩ v).setCell ⟨g, 2, none⟩ t).heap[g]? = some (.cells #[u, v, t] T (0, 0)) :=
  (set_hit ((set_hit ((set_hit h u).trans rfl) v).trans rfl) t).trans rfl
set_option maxRecDepth 20000 in
set_option maxHeartbeats 2000000 in
theorem l12Link_c (B : Nat) (a : Option Addr) (l : List UInt8) (cap : Nat) (w : World) (h : CurOk w B a l cap) :
    Calls Tryz.prog 109 #[.pointer (some ⟨B, 0, none⟩)] w (RetLk B a l cap w) := by
  have HC1 := Lib.hid (h.alloc (.cells #[.int .i64 0, .int .i64 0, .bool false] 114))
  have HZ1 := Lib.hid (alloc_at w (.cells #[.int .i64 0, .int .i64 0, .bool false] 114))
  have HG1 := Lib.hid (grown_alloc (grown_self w (some B)) (.cells #[.int .i64 0, .int .i64 0, .bool false] 114))
  have HLT : Hid (B < w.heap.size) := Lib.hid h.lt
  have HFR := Lib.hid (curNe h.bytes)
  have HB3 : Hid (∀ W, CurOk W B a l cap → Calls Tryz.prog 85 #[.pointer (some ⟨B, 0, none⟩), .int .i64 3] W fun e w' => ∃ x : Nat, x < 3 ∧ e = .returned (.int .i64 ((x : Nat) : Int)) ∧ CurOk w' B a l cap ∧ W.grownBy w' (some B)) := Lib.hid (fun W hW => l01Below_any B 3 a l cap W hW (by omega) (by omega))
  have HB6 : Hid (∀ W, CurOk W B a l cap → Calls Tryz.prog 85 #[.pointer (some ⟨B, 0, none⟩), .int .i64 6] W fun e w' => ∃ x : Nat, x < 6 ∧ e = .returned (.int .i64 ((x : Nat) : Int)) ∧ CurOk w' B a l cap ∧ W.grownBy w' (some B)) := Lib.hid (fun W hW => l01Below_any B 6 a l cap W hW (by omega) (by omega))
  have HO : Hid (∀ W, CurOk W B a l cap → Calls Tryz.prog 84 #[.pointer (some ⟨B, 0, none⟩), .int .i64 2] W fun e w' => ∃ b : Bool, e = .returned (.bool b) ∧ CurOk w' B a l cap ∧ W.grownBy w' (some B)) := Lib.hid (fun W hW => l01Once_any B 2 a l cap W hW (by omega) (by omega))
  clear h
  go_enter Tryz.func109, Tryz.ntmps109
  go_wp2_with fail
  refine (HB3.out _ HC1.out).mono ?_
  rintro e w2 ⟨x, hx, rfl, hc2, hg2⟩
  have HC2 := Lib.hid hc2
  have HG2 := Lib.hid (grown_tr HG1.out hg2)
  have HZ2 := Lib.hid (blk_cur HZ1.out hg2 HLT.out)
  clear hc2 hg2 HC1 HG1 HZ1 HB3
  go_wp2_with fail
  refine (HB6.out _ HC2.out).mono ?_
  rintro e w3 ⟨y, hy, rfl, hc3, hg3⟩
  have HC3 := Lib.hid hc3
  have HG3 := Lib.hid (grown_tr HG2.out hg3)
  have HZ3 := Lib.hid (blk_cur HZ2.out hg3 HLT.out)
  clear hc3 hg3 HC2 HG2 HZ2 HB6
  go_wp2_with fail
  refine (HO.out _ HC3.out).mono ?_
  rintro e w4 ⟨b, rfl, hc4, hg4⟩
  have HC4 := Lib.hid hc4
  have HG4 := Lib.hid (grown_tr HG3.out hg4)
  have hz4 := blk_cur HZ3.out hg4 HLT.out
  clear hc4 hg4 HC3 HG3 HZ3 HO
  have hne : ∀ o v, (setGrownB w4 w.heap.size o v) = (setGrownB w4 w.heap.size o v) := fun _ _ => rfl
  have HK : Hid (∀ W o v, CurOk W B a l cap → CurOk (W.setCell ⟨w.heap.size, o, none⟩ v) B a l cap) := Lib.hid (fun W o v hc => hc.grownO (setGrownB W w.heap.size o v) (fun e => by have := Option.some.inj e; have := HLT.out; omega) (fun hne x hx e => by have := HFR.out hne x hx; have := Option.some.inj e; omega))
  have HM : Hid (∀ W o v, w.grownBy W (some B) → w.grownBy (W.setCell ⟨w.heap.size, o, none⟩ v) (some B)) := Lib.hid (fun W o v hg => grown_since hg (setGrownB W w.heap.size o v) (fun b e => by have := Option.some.inj e; omega))
  have F : Hid (RetLk B a l cap w (.returned (.agg #[.int .i64 (x : Nat), .int .i64 (y : Nat), .bool b])) (((w4.setCell ⟨w.heap.size, 0, none⟩ (.int .i64 (x : Nat))).setCell ⟨w.heap.size, 1, none⟩ (.int .i64 (y : Nat))).setCell ⟨w.heap.size, 2, none⟩ (.bool b))) :=
    Lib.hid ⟨x, y, b, ⟨by unfold I64; omega, by unfold I64; omega⟩, rfl, HK.out _ _ _ (HK.out _ _ _ (HK.out _ _ _ HC4.out)), HM.out _ _ _ (HM.out _ _ _ (HM.out _ _ _ HG4.out))⟩
  obtain ⟨z0, z1, z2⟩ := link_cells hz4
  obtain ⟨u0, u1, u2⟩ := link_cells (set_three hz4 (.int .i64 (x : Nat)) (.int .i64 (y : Nat)) (.bool b))
  have ff0 : w4.frozen? ⟨w.heap.size, 0, none⟩ = false := by simp [World.frozen?, hz4]
  have ff1 : w4.frozen? ⟨w.heap.size, 1, none⟩ = false := by simp [World.frozen?, hz4]
  have ff2 : w4.frozen? ⟨w.heap.size, 2, none⟩ = false := by simp [World.frozen?, hz4]
  clear hz4 hne
  go_wp2_with fail
  refine bodyPost_ret (v := .agg #[.int .i64 (x : Nat), .int .i64 (y : Nat), .bool b]) ?_ rfl F.out
  simp [results, Tryz.results109, go_sem, u0, u1, u2]
end Go.Proofs.YtoddpmdjjgnpgaaGreatDoor
namespace Go.Proofs.YtoddpmdjjgnpgaaGreatDoor
open Go.RowKit
set_option linter.unusedVariables false
/-- links that are being drawn -/
structure DrwL (B : Nat) (a : Option Addr) (l : List UInt8) (cap : Nat) (w0 wE : World) (z g H : Nat) (wr : World) (k : Int) (aR : Option Addr) (cR : Nat) (R : List RulD) (v : Value) (L : List (Int × Int × Bool)) : Prop where
  own : wr.ownsRow H 114 3 v L.length (linkCells L)
  sys : wr.heap[g]? = some (.cells #[.int .i64 k, .slice aR R.length cR] 25 (0, 0))
  rul : RulesIn wr aR R
  rlt : R ≠ [] → ∀ x, aR = some x → x.block < H
  cur : CurOk wr B a l cap
  zero : wr.heap[z]? = some (.cells #[.int .i64 0, .slice none 0 0] 25 (0, 0))
  below : Below w0.heap.size w0 wr
  lt : (B < z ∧ w0.heap.size ≤ B ∧ wE.heap.size ≤ z) ∧ (B < g ∧ g < H) ∧ z < H ∧ H ≤ wr.heap.size
  gr : wE.grownBy wr (some B)
  far : l ≠ [] → ∀ x, a = some x → x.block < z
  rng : RngK L
section
variable {B : Nat} {a : Option Addr} {l : List UInt8} {cap : Nat} {w0 wE wr : World} {z g H : Nat} {k : Int} {aR : Option Addr} {cR : Nat} {R : List RulD} {v : Value} {L : List (Int × Int × Bool)}
theorem DrwL.later {w' : World} (h : DrwL B a l cap w0 wE z g H wr k aR cR R v L) (hb : Below wr.heap.size wr w') : DrwL B a l cap w0 wE z g H w' k aR cR R v L :=
  ⟨owns_later h.own hb, block_later h.sys _ hb, h.rul.later hb, h.rlt, h.cur.later hb, block_later h.zero _ hb, Below.now h.below hb, ⟨h.lt.1, h.lt.2.1, h.lt.2.2.1, Nat.le_trans h.lt.2.2.2 hb.size⟩, grown_below h.gr hb, h.far, h.rng⟩
theorem DrwL.next {w' : World} (h : DrwL B a l cap w0 wE z g H wr k aR cR R v L) (hc : CurOk w' B a l cap) (hg : wr.grownBy w' (some B)) : DrwL B a l cap w0 wE z g H w' k aR cR R v L := by
  have h1 := h.lt
  have hne : v.ownBlock ≠ some B := fun e => by have := (h.own.lt B e).1; omega
  exact ⟨h.own.kept hg (.inr hne), blk_cur h.sys hg (by omega), rules_cur h.rul h.cur hg, h.rlt, hc, blk_cur h.zero hg (by omega), below_curs h.below hg h1.1.2.1, ⟨h1.1, h1.2.1, h1.2.2.1, Nat.le_trans h1.2.2.2 hg.size⟩, grown_tr h.gr hg, h.far, h.rng⟩
theorem DrwL.put {w4 : World} {v' : Value} {x : Int × Int × Bool} {ob : Obj} (h : DrwL B a l cap w0 wE z g H wr k aR cR R v L) (hx : InK x) (hg : (wr.alloc ob).grownBy w4 v.ownBlock) (ho : w4.ownsRow H 114 3 v' (L.length + 1) (linkCells L ++ lkCell x)) :
    DrwL B a l cap w0 wE z g H w4 k aR cR R v' (L ++ [x]) := by
  replace h := h.later (alloc_belowS wr ob)
  have h1 := h.lt
  have hb : ∀ b, v.ownBlock = some b → H ≤ b := fun b hb => (h.own.lt b hb).1
  refine ⟨by rw [List.length_append, linkCells_app]; exact ho, (hg.block g (Array.getElem?_eq_some_iff.1 h.sys).1 (fun e => by have := hb _ e.symm; omega)).trans h.sys, rules_kept h.rul hg (fun hne y hy e => by have := h.rlt hne y hy; have := hb _ e; omega), h.rlt,
    h.cur.grownO hg (fun e => by have := hb _ e; omega) (fun hne y hy e => by have := h.far hne y hy; have := hb _ e; omega), (hg.block z (Array.getElem?_eq_some_iff.1 h.zero).1 (fun e => by have := hb _ e.symm; omega)).trans h.zero, ?_, ⟨h1.1, h1.2.1, h1.2.2.1, Nat.le_trans h1.2.2.2 hg.size⟩, grown_since h.gr hg (fun b e => by have := hb b e; omega), h.far, h.rng.app hx⟩
  exact h.below.grown hg h.below.size (fun b e => by have := hb b e; omega)
theorem rules_lt {w : World} {a : Option Addr} {R : List RulD} (h : RulesIn w a R) : R ≠ [] → ∀ x, a = some x → x.block < w.heap.size := fun hne x hx => by
  obtain ⟨b, off, ha, hb, _⟩ := h.cell (i := 0) (List.length_pos_iff.2 hne)
  rw [hx] at ha
  rw [Option.some.inj ha]
  exact hb
end
/-- some system, some word, some links -/
def RetCh (B : Nat) (a : Option Addr) (l : List UInt8) (cap : Nat) (w0 wE : World) (e : Ending) (w' : World) : Prop := ∃ (k : Int) (R : List RulD) (aR : Option Addr) (cR : Nat) (s : ByteArray) (L : List (Int × Int × Bool)) (aL : Option Addr) (cL : Nat),
  (((ShortR 25 R ∧ R.length ≤ 13) ∧ s.size ≤ 24) ∧ RngK L ∧ L.length ≤ 24) ∧ e = .returned (.tuple #[.agg #[.int .i64 k, .slice aR R.length cR], .string s, .slice aL L.length cL]) ∧ RulesIn w' aR R ∧ LinksIn w' aL L ∧ CurOk w' B a l cap ∧ Below w0.heap.size w0 w' ∧ wE.grownBy w' (some B)
theorem links_setFar {wr : World} {aL : Option Addr} {L : List (Int × Int × Bool)} {b : Nat} (hl : LinksIn wr aL L) (hb : L ≠ [] → ∀ x, aL = some x → x.block ≠ b) (o : Nat) (u : Value) : LinksIn (wr.setCell ⟨b, o, none⟩ u) aL L := by
  rcases hl with hl | ⟨c, off, ha, hcs⟩
  · exact .inl hl
  · refine .inr ⟨c, off, ha, fun i hi => ?_⟩
    have hne : L ≠ [] := fun e => by subst e; simp [linkCells] at hi
    rw [World.cell?_of_block (w := wr) (by exact set_miss (fun e => hb hne _ ha e.symm) u)]
    exact hcs i hi
theorem chain_fin {B : Nat} {a : Option Addr} {l : List UInt8} {cap : Nat} {w0 wE wr : World} {z : Nat} {k : Int} {R : List RulD} {aR : Option Addr} {cR : Nat} {s : ByteArray} {L : List (Int × Int × Bool)} {aL : Option Addr} {cL : Nat}
    (hs : ((ShortR 25 R ∧ R.length ≤ 13) ∧ s.size ≤ 24) ∧ RngK L ∧ L.length ≤ 24) (hl : RulesIn wr aR R) (hL : LinksIn wr aL L) (hLz : L ≠ [] → ∀ x, aL = some x → z < x.block) (hc : CurOk wr B a l cap) (hb : Below w0.heap.size w0 wr) (hg : wE.grownBy wr (some B)) (hz : wr.heap[z]? = some (.cells #[.int .i64 0, .slice none 0 0] 25 (0, 0))) (hlt : B < z ∧ w0.heap.size ≤ B ∧ wE.heap.size ≤ z) (hf : l ≠ [] → ∀ x, a = some x → x.block < z) :
    RetCh B a l cap w0 wE (.returned (.tuple #[.agg #[.int .i64 k, .slice aR R.length cR], .string s, .slice aL L.length cL])) ((wr.setCell ⟨z, 0, none⟩ (.int .i64 k)).setCell ⟨z, 1, none⟩ (.slice aR R.length cR)) :=
  ⟨k, R, aR, cR, s, L, aL, cL, hs, rfl, rules_setFar2 hl hz (fun s e => by cases e) (fun s e => by cases e) _ _,
    links_setFar (links_setFar hL (fun hne x hx e => by have := hLz hne x hx; omega) _ _) (fun hne x hx e => by have := hLz hne x hx; omega) _ _,
    (hc.grownO (setGrownB wr z 0 _) (fun e => by have := Option.some.inj e; omega) (fun hne x hx e => by have := hf hne x hx; have := Option.some.inj e; omega)).grownO (setGrownB _ z 1 _) (fun e => by have := Option.some.inj e; omega) (fun hne x hx e => by have := hf hne x hx; have := Option.some.inj e; omega),
    (hb.setCell (p := ⟨z, 0, none⟩) (by show w0.heap.size ≤ z; omega) _).setCell (p := ⟨z, 1, none⟩) (by show w0.heap.size ≤ z; omega) _,
    grown_since (grown_since hg (setGrownB wr z 0 _) (fun b e => by have := Option.some.inj e; omega)) (setGrownB _ z 1 _) (fun b e => by have := Option.some.inj e; omega)⟩
/-- the first link's place is set -/
theorem links_place {wr : World} {b off : Nat} {x : Int × Int × Bool} {L : List (Int × Int × Bool)} (h : LinksIn wr (some ⟨b, off, none⟩) (x :: L)) (p : Int) : LinksIn (wr.setCell ⟨b, off + 1, none⟩ (.int .i64 p)) (some ⟨b, off, none⟩) ((x.1, p, x.2.2) :: L) := by
  rcases h with h | ⟨b', off', ha, hc⟩
  · simp [linkCells] at h
  · obtain ⟨rfl, rfl⟩ : b' = b ∧ off' = off := by
      have := Option.some.inj ha
      simp only [Addr.mk.injEq] at this
      exact ⟨this.1.symm, this.2.1.symm⟩
    refine .inr ⟨b', off', rfl, fun i hi => ?_⟩
    have hi2 : i < (linkCells (x :: L)).length := by rw [linkCells_len] at hi ⊢; exact hi
    have hci := hc i hi2
    by_cases h1 : i = 1
    · subst h1
      exact (World.cell?_setCell_same _ _ _ hci).trans rfl
    · rw [World.cell?_setCell_other _ _ _ _ (fun e => by have e2 := congrArg Addr.off e; simp only [] at e2; omega), hci]
      match i, h1 with
      | 0, _ => rfl
      | 1, h1 => exact absurd rfl h1
      | i + 2, _ => rfl
set_option maxRecDepth 20000 in
set_option maxHeartbeats 8000000 in
theorem l12Chain_c (B : Nat) (a : Option Addr) (l : List UInt8) (cap : Nat) (w0 w : World) (h : CurOk w B a l cap) (hb0 : Below w0.heap.size w0 w) (hB : w0.heap.size ≤ B) :
    Calls Tryz.prog 63 #[.pointer (some ⟨B, 0, none⟩)] w (RetCh B a l cap w0 w) := by
  have HC1 := Lib.hid (h.alloc (.cells #[.int .i64 0, .slice none 0 0] 25))
  have HB1 := Lib.hid (hb0.alloc hb0.size (.cells #[.int .i64 0, .slice none 0 0] 25))
  have HZ1 := Lib.hid (alloc_at w (.cells #[.int .i64 0, .slice none 0 0] 25))
  have HG1 := Lib.hid (grown_alloc (grown_self w (some B)) (.cells #[.int .i64 0, .slice none 0 0] 25))
  have HLT : Hid (B < w.heap.size ∧ w0.heap.size ≤ B ∧ w.heap.size ≤ w.heap.size) := Lib.hid ⟨h.lt, hB, Nat.le_refl _⟩
  have HFR := Lib.hid (curNe h.bytes)
  have HO : Hid (∀ W, CurOk W B a l cap → Calls Tryz.prog 84 #[.pointer (some ⟨B, 0, none⟩), .int .i64 8] W fun e w' => ∃ b : Bool, e = .returned (.bool b) ∧ CurOk w' B a l cap ∧ W.grownBy w' (some B)) := Lib.hid (fun W hW => l01Once_any B 8 a l cap W hW (by omega) (by omega))
  have HLK : Hid (∀ W, CurOk W B a l cap → Calls Tryz.prog 109 #[.pointer (some ⟨B, 0, none⟩)] W (RetLk B a l cap W)) := Lib.hid (fun W hW => l12Link_c B a l cap W hW)
  have HNR : Hid (∀ W, CurOk W B a l cap → Calls Tryz.prog 111 #[.pointer (some ⟨B, 0, none⟩), .int .i64 0, .int .i64 5] W (RetZR B a l cap W)) := Lib.hid (fun W hW => l01Near_any B a l cap 0 5 W hW (by omega) (by omega))
  have HCA := Lib.hid (l04Case_c B a l cap w0 (w.alloc (.cells #[.int .i64 0, .slice none 0 0] 25)) HC1.out HB1.out hB)
  clear h hb0
  go_enter Tryz.func63, Tryz.ntmps63
  go_wp2_with fail
  refine HCA.out.mono ?_
  rintro e w3 ⟨k, R, aR, cR, s, ⟨hs, hs24⟩, rfl, hR, hc3, hb3, hg3⟩
  have HS : Hid ((ShortR 25 R ∧ R.length ≤ 13) ∧ s.size ≤ 24) := Lib.hid ⟨hs, hs24⟩
  have hb4 := alloc_belowS w3 (.cells #[.int .i64 k, .slice aR R.length cR] 25)
  have hz4 := block_later (blk_cur HZ1.out hg3 HLT.out.1) _ hb4
  have hx4 := alloc_at w3 (.cells #[.int .i64 k, .slice aR R.length cR] 25)
  have hR4 := hR.later hb4
  have hc4 := hc3.later hb4
  have hB4 := Below.now hb3 hb4
  have hg4 := grown_below (grown_tr HG1.out hg3) hb4
  have hl4 : w3.heap.size < (w3.alloc (.cells #[.int .i64 k, .slice aR R.length cR] 25)).heap.size := by simp
  have hBx := hc3.lt
  have hAP := fun x i p b W h hx => specApplyLink_c k R aR cR x i p b W h (by omega) (hs.1.sz (by unfold maxLen; omega)) hx
  have HAP := Lib.hid hAP
  have hzl := (Array.getElem?_eq_some_iff.1 hz4).1
  go_upto_region 2 with fail
  generalize w3.alloc (.cells #[.int .i64 k, .slice aR R.length cR] 25) = w4 at *
  have hb5 := alloc_belowS w4 (.cells #[] 114)
  have HL0 : Hid (DrwL B a l cap w0 w w.heap.size w3.heap.size w4.heap.size (w4.alloc (.cells #[] 114)) k aR cR R (.slice (some ⟨w4.heap.size, 0, none⟩) 0 0) []) :=
    Lib.hid ⟨(Bld.empty 114 3 w4).1, block_later hx4 _ hb5, hR4.later hb5, rules_lt hR4, hc4.later hb5, block_later hz4 _ hb5, Below.now hB4 hb5, ⟨HLT.out, ⟨hBx, hl4⟩, hzl, hb5.size⟩, grown_below hg4 hb5, HFR.out, RngK.nil⟩
  clear hb4 hz4 hx4 hR4 hc4 hB4 hg4 hl4 hBx hAP hzl hb5 hR hc3 hb3 hg3 hs HC1 HB1 HZ1 HG1 HCA
  go_wp2_with fail
  generalize w3.heap.size = g at *
  generalize w4.heap.size = H at *
  go_loopw [7, 8, 9] (fun v u i wr => ∃ (j : Nat) (x : ByteArray) (L : List (Int × Int × Bool)), (j ≤ 24 ∧ x.size ≤ 24 ∧ L.length ≤ j) ∧ i = .int .i64 (j : Nat) ∧ u = .string x ∧ Hid (DrwL B a l cap w0 w w.heap.size g H wr k aR cR R v L)) (fun _ _ i _ => 24 - (intOf i).toNat)
  case atStart => exact ⟨0, s, [], ⟨Nat.zero_le _, hs24, Nat.le_refl _⟩, rfl, rfl, HL0⟩
  case round =>
    clear HL0
    obtain ⟨j, x, L, ⟨hj, hx, hLj⟩, rfl, rfl, HD⟩ := hrel
    obtain ⟨a3, c3, rfl⟩ := owns_form HD.out.own
    by_cases hlt : j < 24
    · have hji : (j : Int) < 24 := by omega
      go_wp2_with fail
      refine (HLK.out _ HD.out.cur).mono ?_
      rintro e w5 ⟨p, q, bk, ⟨hp, hq⟩, rfl, hc5, hg5⟩
      have hb6 := alloc_belowS w5 (.cells #[.int .i64 p, .int .i64 q, .bool bk] 114)
      have HD6 := Lib.hid ((HD.out.next hc5 hg5).later hb6)
      have HX6 := Lib.hid (alloc_at w5 (.cells #[.int .i64 p, .int .i64 q, .bool bk] 114))
      have HIK : Hid (InK (p, q, bk)) := Lib.hid ⟨hp, hq⟩
      clear hc5 hg5 hb6 HD hp hq
      obtain ⟨y0, y1, y2⟩ := link_cells HX6.out
      obtain ⟨x0, x1⟩ := sys_cells HD6.out.sys
      go_upto_region 8 with fail
      generalize w5.alloc (.cells #[.int .i64 p, .int .i64 q, .bool bk] 114) = w6 at *
      go_wp2_with fail
      refine (HAP.out x p q bk _ HD6.out.rul (by omega)).mono ?_
      rintro e w7 ⟨y, by_, hy, rfl, hb7⟩
      have HD7 := Lib.hid (HD6.out.later hb7)
      have HX7 := Lib.hid (block_later HX6.out _ hb7)
      clear hb7 HD6 HX6 y0 y1 y2 x0 x1
      obtain ⟨y0, y1, y2⟩ := link_cells HX7.out
      have hfin : by_ = true ∧ y.size ≤ 10 ∨ (by_ = false ∨ ¬ y.size ≤ 10) := by cases by_ <;> simp <;> omega
      rcases hfin with ⟨rfl, hy10⟩ | hno
      · have hyi : (y.size : Int) ≤ 10 := by omega
        have HN1 : Hid ([Value.int .i64 p, .int .i64 q, .bool bk].length = 3) := Lib.hid rfl
        have HN2 : Hid (∀ v ∈ [Value.int .i64 p, .int .i64 q, .bool bk], v.oneCell' = true) := Lib.hid (fun v hv => by simp at hv; rcases hv with rfl | rfl | rfl <;> rfl)
        go_wp2_with (at_builtin; refine wpList_appH (n := L.length) (wr := w7) (news := [Value.int .i64 p, .int .i64 q, .bool bk]) rfl (.tmp 39) (.tmp 41) rfl Tryz.underlying52 Tryz.infoLink rfl (by decide) rfl HD7.out.own HD7.out.lt.2.2.2 rfl HN1.out HN2.out (by unfold maxLen; omega) (by omega) ?_; intro g4 c4 w8 ho4 hg4 hr4)
        have HD8 := Lib.hid (HD7.out.put (x := (p, q, bk)) HIK.out hg4 ho4)
        clear ho4 hg4 hr4
        go_wp2_with fail
        go_roundw
        case rel => exact ⟨j + 1, y, L ++ [(p, q, bk)], ⟨by omega, by omega, by rw [List.length_append]; show L.length + 1 ≤ j + 1; omega⟩, by go_num, rfl, HD8⟩
        case measure => simp [intOf]; omega
      · cases by_
        · clear hno
          go_wp2_with fail
          go_roundw
          case rel => exact ⟨j + 1, x, L, ⟨by omega, hx, by omega⟩, by go_num, rfl, HD7⟩
          case measure => simp [intOf]; omega
        · have hyi : ¬ (y.size : Int) ≤ 10 := by
            rcases hno with h | h
            · cases h
            · omega
          clear hno
          go_wp2_with fail
          go_roundw
          case rel => exact ⟨j + 1, x, L, ⟨by omega, hx, by omega⟩, by go_num, rfl, HD7⟩
          case measure => simp [intOf]; omega
    · have hji : ¬ (j : Int) < 24 := by omega
      clear HAP HLK
      by_cases h0 : 0 < L.length
      · have hl0 : (0 : Int) < (L.length : Int) := by omega
        go_wp2_with fail
        refine (HO.out _ HD.out.cur).mono ?_
        rintro e w5 ⟨b, rfl, hc5, hg5⟩
        have HD5 := Lib.hid (HD.out.next hc5 hg5)
        clear hc5 hg5 HD HO
        cases b
        · clear HNR
          have hz5 := HD5.out.zero
          have F := Lib.hid (chain_fin (k := k) (cR := cR) (s := s) (cL := c3) ⟨HS.out, HD5.out.rng, by omega⟩ HD5.out.rul (owns_links HD5.out.own) (fun hne x hx => by have h1 := (HD5.out.own.lt x.block (by rw [hx]; rfl)).1; have h2 := HD5.out.lt; omega) HD5.out.cur HD5.out.below HD5.out.gr hz5 HLT.out HFR.out)
          obtain ⟨y0, y1⟩ := sys_cells HD5.out.sys
          obtain ⟨x0, x1⟩ := sys_cells hz5
          obtain ⟨u0, u1⟩ := sys_cells (set_two hz5 (.int .i64 k) (.slice aR R.length cR))
          have ff0 : w5.frozen? ⟨w.heap.size, 0, none⟩ = false := by simp [World.frozen?, hz5]
          have ff1 : w5.frozen? ⟨w.heap.size, 1, none⟩ = false := by simp [World.frozen?, hz5]
          clear hz5
          go_wp2_with fail
          refine bodyPost_ret (v := .tuple #[.agg #[.int .i64 k, .slice aR R.length cR], .string s, .slice a3 L.length c3]) ?_ rfl F.out
          simp [results, Tryz.results63, go_sem, u0, u1]
        · go_wp2_with fail
          refine (HNR.out _ HD5.out.cur).mono ?_
          rintro e w6 ⟨p, hp, rfl, hc6, hg6⟩
          have HD6 := Lib.hid (HD5.out.next hc6 hg6)
          have HP := Lib.hid hp
          clear hc6 hg6 HD5 HNR hp
          obtain ⟨gv, hgv, hcells⟩ : ∃ gv, a3 = some ⟨gv, 0, none⟩ ∧ ∃ cs, w6.heap[gv]? = some (.cells cs 114 (0, 0)) := by
            rcases HD6.out.own.2 with ⟨h, h2⟩ | ⟨gv, cap', cur, hv, h1, h2, _⟩
            · omega
            · have := congrArg (fun v : Value => match v with | .slice a _ _ => a | _ => none) hv
              exact ⟨gv, this, cur, h2⟩
          subst hgv
          obtain ⟨cs, hcs⟩ := hcells
          have ff5 : ∀ o, w6.frozen? ⟨gv, o, none⟩ = false := fun o => by simp [World.frozen?, hcs]
          have hgH : H ≤ gv := (HD6.out.own.lt gv rfl).1
          have h1 := HD6.out.lt
          obtain ⟨x1, L1, rfl⟩ : ∃ x1 L1, L = x1 :: L1 := by
            match L, h0 with
            | x1 :: L1, _ => exact ⟨x1, L1, rfl⟩
          have hLI := owns_links HD6.out.own
          obtain ⟨L9, hL9⟩ : ∃ L9, L9 = (x1.1, p, x1.2.2) :: L1 := ⟨_, rfl⟩
          have hLn : L9.length = (x1 :: L1).length := by rw [hL9]; rfl
          have HSY9 : Hid ((w6.setCell ⟨gv, 1, none⟩ (.int .i64 p)).heap[g]? = some (.cells #[.int .i64 k, .slice aR R.length cR] 25 (0, 0))) := Lib.hid ((set_miss (by omega) _).trans HD6.out.sys)
          have HZ9 : Hid ((w6.setCell ⟨gv, 1, none⟩ (.int .i64 p)).heap[w.heap.size]? = some (.cells #[.int .i64 0, .slice none 0 0] 25 (0, 0))) := Lib.hid ((set_miss (by omega) _).trans HD6.out.zero)
          have HRU9 : Hid (RulesIn (w6.setCell ⟨gv, 1, none⟩ (.int .i64 p)) aR R) := Lib.hid (rules_kept HD6.out.rul (setGrownB w6 gv 1 _) (fun hne x hx e => by have := HD6.out.rlt hne x hx; have := Option.some.inj e; omega))
          have HLI9 : Hid (LinksIn (w6.setCell ⟨gv, 1, none⟩ (.int .i64 p)) (some ⟨gv, 0, none⟩) L9) := Lib.hid (by rw [hL9]; exact links_place hLI p)
          have HRN9 : Hid (RngK L9) := Lib.hid (by
            rw [hL9]
            intro j hj
            match j, hj with
            | 0, _ => exact ⟨(HD6.out.rng 0 (by simp)).1, HP.out⟩
            | j + 1, hj => exact HD6.out.rng (j + 1) (by simpa using hj))
          have HLN9 : Hid (L9.length ≤ 24) := Lib.hid (by omega)
          have HLZ9 : Hid (L9 ≠ [] → ∀ x, some (⟨gv, 0, none⟩ : Addr) = some x → w.heap.size < x.block) := Lib.hid (fun _ x hx => by rw [← Option.some.inj hx]; show w.heap.size < gv; omega)
          have HCU9 : Hid (CurOk (w6.setCell ⟨gv, 1, none⟩ (.int .i64 p)) B a l cap) := Lib.hid (HD6.out.cur.grownO (setGrownB w6 gv 1 _) (fun e => by have := Option.some.inj e; omega) (fun hne x hx e => by have := HD6.out.far hne x hx; have := Option.some.inj e; omega))
          have HBE9 : Hid (Below w0.heap.size w0 (w6.setCell ⟨gv, 1, none⟩ (.int .i64 p))) := Lib.hid (HD6.out.below.setCell (p := ⟨gv, 1, none⟩) (by show w0.heap.size ≤ gv; omega) _)
          have HGR9 : Hid (w.grownBy (w6.setCell ⟨gv, 1, none⟩ (.int .i64 p)) (some B)) := Lib.hid (grown_since HD6.out.gr (setGrownB w6 gv 1 _) (fun b e => by have := Option.some.inj e; omega))
          have cl0 : ∃ u, w6.cell? ⟨gv, 1, none⟩ = some u := by
            rcases hLI with h | ⟨b, off, ha, hc⟩
            · simp [linkCells] at h
            · have e := Option.some.inj ha
              have h := hc 1 (by rw [linkCells_len, List.length_cons]; omega)
              simp only [Addr.mk.injEq] at e
              rw [← e.1, ← e.2.1] at h
              exact ⟨_, h⟩
          obtain ⟨u9, cl9⟩ := cl0
          have hll : ¬ ((x1 :: L1).length : Int) ≤ 0 := by omega
          have ff6 := ff5 1
          rw [← hLn]
          rw [← hLn] at hll hl0
          clear HD6 HP hcs ff5 hgH h1 hLI hL9 h0 hLj hLn
          go_upto_region 14 with fail
          generalize w6.setCell ⟨gv, 1, none⟩ (.int .i64 p) = w9 at *
          clear cl9 ff6
          have hz5 := HZ9.out
          have F := Lib.hid (chain_fin (k := k) (cR := cR) (s := s) (cL := c3) ⟨HS.out, HRN9.out, HLN9.out⟩ HRU9.out HLI9.out HLZ9.out HCU9.out HBE9.out HGR9.out hz5 HLT.out HFR.out)
          obtain ⟨y0, y1⟩ := sys_cells HSY9.out
          obtain ⟨x0, x1⟩ := sys_cells hz5
          obtain ⟨u0, u1⟩ := sys_cells (set_two hz5 (.int .i64 k) (.slice aR R.length cR))
          have ff0 : w9.frozen? ⟨w.heap.size, 0, none⟩ = false := by simp [World.frozen?, hz5]
          have ff1 : w9.frozen? ⟨w.heap.size, 1, none⟩ = false := by simp [World.frozen?, hz5]
          clear hz5
          go_wp2_with fail
          refine bodyPost_ret (v := .tuple #[.agg #[.int .i64 k, .slice aR R.length cR], .string s, .slice (some ⟨gv, 0, none⟩) L9.length c3]) ?_ rfl F.out
          simp [results, Tryz.results63, go_sem, u0, u1]
      · have hl0 : ¬ (0 : Int) < (L.length : Int) := by omega
        clear HO HNR
        have hz5 := HD.out.zero
        have F := Lib.hid (chain_fin (k := k) (cR := cR) (s := s) (cL := c3) ⟨HS.out, HD.out.rng, by omega⟩ HD.out.rul (owns_links HD.out.own) (fun hne x hx => by have h1 := (HD.out.own.lt x.block (by rw [hx]; rfl)).1; have h2 := HD.out.lt; omega) HD.out.cur HD.out.below HD.out.gr hz5 HLT.out HFR.out)
        obtain ⟨y0, y1⟩ := sys_cells HD.out.sys
        obtain ⟨x0, x1⟩ := sys_cells hz5
        obtain ⟨u0, u1⟩ := sys_cells (set_two hz5 (.int .i64 k) (.slice aR R.length cR))
        have ff0 : wr.frozen? ⟨w.heap.size, 0, none⟩ = false := by simp [World.frozen?, hz5]
        have ff1 : wr.frozen? ⟨w.heap.size, 1, none⟩ = false := by simp [World.frozen?, hz5]
        clear hz5
        go_wp2_with fail
        refine bodyPost_ret (v := .tuple #[.agg #[.int .i64 k, .slice aR R.length cR], .string s, .slice a3 L.length c3]) ?_ rfl F.out
        simp [results, Tryz.results63, go_sem, u0, u1]
end Go.Proofs.YtoddpmdjjgnpgaaGreatDoor
namespace Go.Proofs.YtoddpmdjjgnpgaaGreatDoor
open Go.RowKit
set_option linter.unusedVariables false
/-- something and a truth value -/
def RetVB (w : World) (e : Ending) (w' : World) : Prop := ∃ (v : Value) (b : Bool), e = .returned (.tuple #[v, .bool b]) ∧ Below w.heap.size w w'
set_option maxRecDepth 20000 in
set_option maxHeartbeats 4000000 in
theorem specChainOf_c (k : Int) (R : List RulD) (aR : Option Addr) (cR : Nat) (s : ByteArray) (L : List (Int × Int × Bool)) (aL : Option Addr) (cL : Nat) (w : World) (hR : RulesIn w aR R) (hlen : R.length ≤ 2 ^ 40) (hz : SzR R) (hs : s.size ≤ 1000) (hL : LinksIn w aL L) (hl : L.length ≤ 200) :
    Calls Tryz.prog 67 #[.agg #[.int .i64 k, .slice aR R.length cR], .string s, .slice aL L.length cL] w (RetVB w) := by
  have HB1 := Lib.hid (alloc_belowS w (.cells #[.int .i64 k, .slice aR R.length cR] 25))
  have HX1 := Lib.hid (alloc_at w (.cells #[.int .i64 k, .slice aR R.length cR] 25))
  have HR1 := Lib.hid (hR.later HB1.out)
  have HL1 := Lib.hid (hL.later HB1.out)
  have HAP := Lib.hid (fun x i p b W h hx => specApplyLink_c k R aR cR x i p b W h hlen hz hx)
  clear hR hL hz
  have hl2 : ¬ (200 : Int) < (L.length : Int) := by omega
  go_enter Tryz.func67, Tryz.ntmps67
  go_upto_region 1 with fail
  generalize w.alloc (.cells #[.int .i64 k, .slice aR R.length cR] 25) = w1 at *
  have HS : Hid (Bld 9 1 w1 (w1.alloc (.cells #[.string s] 9)) (.slice (some ⟨w1.heap.size, 0, none⟩) 1 1) 1 [.string s]) := Lib.hid ⟨World.ownsRow_lit w1 (e := 9) (size := 1) #[.string s] 1 (Nat.le_refl _) (by unfold maxLen; omega) rfl, alloc_belowS _ _⟩
  go_wp2_with fail
  go_loopw [1, 8, 20] (fun x v i wr => ∃ (j : Nat) (z : ByteArray) (xs : List Value), (j ≤ L.length ∧ z.size ≤ 1000) ∧ i = .int .i64 (j : Nat) ∧ x = .string z ∧ Bld 9 1 w1 wr v (j + 1) xs) (fun _ _ i _ => L.length - (intOf i).toNat)
  case atStart => exact ⟨0, s, _, ⟨Nat.zero_le _, hs⟩, rfl, rfl, HS.out⟩
  case round =>
    clear HS
    obtain ⟨j, z, xs, ⟨hj, hzz⟩, rfl, rfl, hbd⟩ := hrel
    obtain ⟨a3, c3, rfl⟩ := owns_form hbd.1
    have HB := Lib.hid hbd
    have hbw := hbd.2
    clear hbd
    have HBW := Lib.hid (Below.now HB1.out hbw)
    have hx := block_later HX1.out _ hbw
    have HRW := Lib.hid (HR1.out.later hbw)
    by_cases hlt : j < L.length
    · obtain ⟨b, off, rfl, hb, hc⟩ := (HL1.out.later hbw).cell hlt
      obtain ⟨c1, c2, d3⟩ := hc j hlt
      clear hc
      generalize (nthK L j).1 = p1 at *
      generalize (nthK L j).2.1 = p2 at *
      generalize (nthK L j).2.2 = bk at *
      have hb4 := alloc_belowS wr (.cells #[.int .i64 p1, .int .i64 p2, .bool bk] 114)
      have HB4 := Lib.hid (HB.out.later hb4)
      have HR4 := Lib.hid (HRW.out.later hb4)
      have hx4 := block_later hx _ hb4
      have hk4 := alloc_at wr (.cells #[.int .i64 p1, .int .i64 p2, .bool bk] 114)
      obtain ⟨x0, x1⟩ := sys_cells hx4
      obtain ⟨y0, y1, y2⟩ := link_cells hk4
      have HBW4 := Lib.hid (Below.now HBW.out hb4)
      clear hb4 hx4 hk4 HRW HB HBW hbw hx
      go_upto_region 7 with fail
      clear c1 c2 d3
      generalize wr.alloc (.cells #[.int .i64 p1, .int .i64 p2, .bool bk] 114) = w4 at *
      go_wp2_with fail
      refine (HAP.out z p1 p2 bk _ HR4.out hzz).mono ?_
      rintro e w5 ⟨z2, bz, hz2, rfl, hb5⟩
      have HB5 := Lib.hid (HB4.out.later hb5)
      have HBW5 := Lib.hid (Below.now HBW4.out hb5)
      clear hb5 HB4 HR4 HBW4 x0 x1 y0 y1 y2
      cases bz
      · have F : Hid (RetVB w (.returned (.tuple #[.slice none 0 0, .bool false])) w5) := Lib.hid ⟨_, _, rfl, HBW5.out⟩
        go_wp2_with fail
        refine bodyPost_ret (v := .tuple #[.slice none 0 0, .bool false]) ?_ rfl F.out
        simp [results, Tryz.results67, go_sem]
      · go_wp2_with (at_builtin; refine wpList_app1 rfl _ _ rfl Tryz.underlying47 Tryz.infoStr rfl (by decide) rfl HB5.out rfl rfl ?c1 ?c2 ?c3 ?c4)
        case c1 => simp [Value.oneCell']
        case c2 => unfold maxLen; omega
        case c3 => omega
        intro v2 w7 hb2
        have F2 := Lib.hid hb2
        clear hb2
        go_wp2_with fail
        go_roundw
        case rel => exact ⟨j + 1, z2, _, ⟨by omega, by omega⟩, by go_num, rfl, F2.out⟩
        case measure => simp [intOf]; omega
    · have hij : ¬ (j : Int) < (L.length : Int) := by omega
      have F : Hid (∀ v, RetVB w (.returned (.tuple #[v, .bool true])) wr) := Lib.hid (fun v => ⟨v, true, rfl, HBW.out⟩)
      clear hbw hx
      go_wp2_with fail
      refine bodyPost_ret (v := .tuple #[.slice a3 (j + 1) c3, .bool true]) ?_ rfl (F.out _)
      simp [results, Tryz.results67, go_sem]
end Go.Proofs.YtoddpmdjjgnpgaaGreatDoor
