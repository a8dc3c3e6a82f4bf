/-
  MakeSystem.
-/
import Derived.Test.YtoddpmdjjgnpgaaGreatDoorGra22
import Derived.Test.YtoddpmdjjgnpgaaGreatDoorGra11
import Derived.Test.YtoddpmdjjgnpgaaGreatDoorGra14
import Derived.Test.YtoddpmdjjgnpgaaGreatDoorGra12
namespace Go.Proofs.YtoddpmdjjgnpgaaGreatDoor
open Go.RowKit
set_option linter.unusedVariables false
/-- blocks from n on stay as they are -/
def FarA (n : Nat) (W W2 : World) : Prop := ∀ g o, n ≤ g → W.heap[g]? = some o → W2.heap[g]? = some o
theorem farA_refl (n : Nat) (W : World) : FarA n W W := fun _ _ _ h => h
theorem farA_grown {n B : Nat} {W W2 : World} (hg : W.grownBy W2 (some B)) (hB : B < n) : FarA n W W2 := fun g o hn h => (hg.block g (Array.getElem?_eq_some_iff.1 h).1 (fun e => by have := Option.some.inj e; omega)).trans h
theorem farA_below {n : Nat} {W W2 : World} (hb : Below W.heap.size W W2) : FarA n W W2 := fun g o _ h => (hb.block g (Array.getElem?_eq_some_iff.1 h).1).trans h
theorem below_curA {w0 wr w' : World} {B : Nat} (h : Below w0.heap.size w0 wr) (hg : wr.grownBy w' (some B)) (hB : w0.heap.size ≤ B) : Below w0.heap.size w0 w' := h.grown hg h.size (fun b e => by have := Option.some.inj e; omega)
/-- an automaton that is being drawn -/
structure DrwA (B : Nat) (a : Option Addr) (l : List UInt8) (cap : Nat) (w0 w : World) (g : Nat) (wr : World) (k : Int) (v u : Value) (N : List Int) (F : List Bool) : Prop where
  aut : AutB w0 wr g k v u N F
  cur : CurOk wr B a l cap
  zero : wr.heap[w.heap.size]? = some (.cells #[.int .i64 0, .slice none 0 0, .slice none 0 0] 30 (0, 0))
  lt : B < w.heap.size ∧ w0.heap.size ≤ B ∧ w.heap.size < g
  far : l ≠ [] → ∀ x, a = some x → x.block < w.heap.size
section
variable {B : Nat} {a : Option Addr} {l : List UInt8} {cap : Nat} {w0 w wr : World} {g : Nat} {k : Int} {v u : Value} {N : List Int} {F : List Bool}
theorem DrwA.later {w' : World} (h : DrwA B a l cap w0 w g wr k v u N F) (hb : Below wr.heap.size wr w') : DrwA B a l cap w0 w g w' k v u N F :=
  ⟨h.aut.later hb, h.cur.later hb, block_later h.zero _ hb, h.lt, h.far⟩
theorem DrwA.next {w' : World} (h : DrwA B a l cap w0 w g wr k v u N F) (hc : CurOk w' B a l cap) (hg : wr.grownBy w' (some B)) : DrwA B a l cap w0 w g w' k v u N F := by
  have h1 := h.lt
  have h2 := h.aut.lt
  refine ⟨h.aut.kept hg (fun e => by have := Option.some.inj e; omega) (.inr fun e => by have := (h.aut.nx.lt _ e).1; omega) (.inr fun e => by have := (h.aut.fn.lt _ e).1; omega) (fun b e => by have := Option.some.inj e; omega), hc, ?_, h.lt, h.far⟩
  exact (hg.block _ (by omega) (fun e => by have := Option.some.inj e; omega)).trans h.zero
theorem DrwA.start {w2 : World} (hc : CurOk w2 B a l cap) (hb : Below w0.heap.size w0 w2) (hz : w2.heap[w.heap.size]? = some (.cells #[.int .i64 0, .slice none 0 0, .slice none 0 0] 30 (0, 0))) (hB : B < w.heap.size ∧ w0.heap.size ≤ B) (hf : l ≠ [] → ∀ x, a = some x → x.block < w.heap.size) :
    DrwA B a l cap w0 w w2.heap.size (w2.alloc (.cells #[.int .i64 k, .slice none 0 0, .slice none 0 0] 30)) k (.slice none 0 0) (.slice none 0 0) [] [] :=
  ⟨AutB.start hb k, hc.alloc _, block_later hz _ (alloc_belowS w2 _), ⟨hB.1, hB.2, (Array.getElem?_eq_some_iff.1 hz).1⟩, hf⟩
theorem DrwA.putN (h : DrwA B a l cap w0 w g wr k v u N F) {w4 : World} {v' : Value} {x : Int} (hg : wr.grownBy w4 v.ownBlock) (ho : w4.ownsRow (g + 1) 3 1 v' (N.length + 1) (intVals N ++ [.int .i64 x])) :
    DrwA B a l cap w0 w g (w4.setCell ⟨g, 1, none⟩ v') k v' u (N ++ [x]) F := by
  have h1 := h.lt
  have hlt := h.aut.lt
  have hb : ∀ b, v.ownBlock = some b → g + 1 ≤ b := fun b hb => (h.aut.nx.lt b hb).1
  have hc1 : CurOk w4 B a l cap := h.cur.grownO hg (fun e => by have := hb _ e; omega) (fun hne x hx e => by have := h.far hne x hx; have := hb _ e; omega)
  have hz1 := (hg.block w.heap.size (by omega) (fun e => by have := hb _ e.symm; omega)).trans h.zero
  refine ⟨h.aut.putN hg ho, hc1.grownO (setGrownB w4 _ 1 _) (fun e => by have := Option.some.inj e; omega) (fun hne x hx e => by have := h.far hne x hx; have := Option.some.inj e; omega), ?_, h.lt, h.far⟩
  exact (set_missA (by omega) _).trans hz1
theorem DrwA.putF (h : DrwA B a l cap w0 w g wr k v u N F) {w4 : World} {u' : Value} {x : Bool} (hg : wr.grownBy w4 u.ownBlock) (ho : w4.ownsRow (g + 1) 4 1 u' (F.length + 1) (boolsV F ++ [.bool x])) :
    DrwA B a l cap w0 w g (w4.setCell ⟨g, 2, none⟩ u') k v u' N (F ++ [x]) := by
  have h1 := h.lt
  have hlt := h.aut.lt
  have hb : ∀ b, u.ownBlock = some b → g + 1 ≤ b := fun b hb => (h.aut.fn.lt b hb).1
  have hc1 : CurOk w4 B a l cap := h.cur.grownO hg (fun e => by have := hb _ e; omega) (fun hne x hx e => by have := h.far hne x hx; have := hb _ e; omega)
  have hz1 := (hg.block w.heap.size (by omega) (fun e => by have := hb _ e.symm; omega)).trans h.zero
  refine ⟨h.aut.putF hg ho, hc1.grownO (setGrownB w4 _ 2 _) (fun e => by have := Option.some.inj e; omega) (fun hne x hx e => by have := h.far hne x hx; have := Option.some.inj e; omega), ?_, h.lt, h.far⟩
  exact (set_missA (by omega) _).trans hz1
end
/-- some valid automaton of few states is handed back -/
def RetDA (B : Nat) (a : Option Addr) (l : List UInt8) (cap : Nat) (w0 : World) (e : Ending) (w' : World) : Prop := ∃ (k : Nat) (aN : Option Addr) (N : List Int) (cN : Nat) (aF : Option Addr) (F : List Bool) (cF : Nat),
  (AutP k N F ∧ F.length ≤ 40) ∧ e = .returned (.agg #[.int .i64 (k : Nat), .slice aN N.length cN, .slice aF F.length cF]) ∧ OwnA w' w0.heap.size aN N cN aF F cF ∧ CurOk w' B a l cap ∧ Below w0.heap.size w0 w'
/-- the three cells of the result are stored -/
theorem aut_fin {B : Nat} {a : Option Addr} {l : List UInt8} {cap : Nat} {w0 wr : World} {z H : Nat} {k : Nat} {N : List Int} {F : List Bool} {aN aF : Option Addr} {cN cF : Nat}
    (hs : AutP k N F ∧ F.length ≤ 40) (hl : OwnA wr H aN N cN aF F cF) (hH : z < H) (hc : CurOk wr B a l cap) (hb : Below w0.heap.size w0 wr) (hlt : B < z ∧ w0.heap.size ≤ B) (hf : l ≠ [] → ∀ x, a = some x → x.block < z) :
    RetDA B a l cap w0 (.returned (.agg #[.int .i64 (k : Nat), .slice aN N.length cN, .slice aF F.length cF])) (((wr.setCell ⟨z, 0, none⟩ (.int .i64 (k : Nat))).setCell ⟨z, 1, none⟩ (.slice aN N.length cN)).setCell ⟨z, 2, none⟩ (.slice aF F.length cF)) :=
  ⟨k, aN, N, cN, aF, F, cF, hs, rfl, (hl.set3 hH _ _ _).mono (by omega),
    ((hc.grownO (setGrownB wr z 0 _) (fun e => by have := Option.some.inj e; omega) (fun hne x hx e => by have := hf hne x hx; have := Option.some.inj e; omega)).grownO (setGrownB _ z 1 _) (fun e => by have := Option.some.inj e; omega) (fun hne x hx e => by have := hf hne x hx; have := Option.some.inj e; omega)).grownO (setGrownB _ z 2 _) (fun e => by have := Option.some.inj e; omega) (fun hne x hx e => by have := hf hne x hx; have := Option.some.inj e; omega),
    ((hb.setCell (p := ⟨z, 0, none⟩) (by show w0.heap.size ≤ z; omega) _).setCell (p := ⟨z, 1, none⟩) (by show w0.heap.size ≤ z; omega) _).setCell (p := ⟨z, 2, none⟩) (by show w0.heap.size ≤ z; omega) _⟩
set_option maxRecDepth 20000 in
set_option maxHeartbeats 8000000 in
theorem l27Draw_c (B : Nat) (a : Option Addr) (l : List UInt8) (cap : Nat) (w0 w : World) (h : CurOk w B a l cap) (hb0 : Below w0.heap.size w0 w) (hB : w0.heap.size ≤ B) :
    Calls Tryz.prog 52 #[.pointer (some ⟨B, 0, none⟩)] w (RetDA B a l cap w0) := by
  have HC1 := Lib.hid (h.alloc (.cells #[.int .i64 0, .slice none 0 0, .slice none 0 0] 30))
  have HB1 := Lib.hid (hb0.alloc hb0.size (.cells #[.int .i64 0, .slice none 0 0, .slice none 0 0] 30))
  have HZ1 := Lib.hid (alloc_at w (.cells #[.int .i64 0, .slice none 0 0, .slice none 0 0] 30))
  have HLT : Hid (B < w.heap.size ∧ w0.heap.size ≤ B) := Lib.hid ⟨h.lt, hB⟩
  have HFR := Lib.hid (curNe h.bytes)
  have HO2 : Hid (∀ W, CurOk W B a l cap → Calls Tryz.prog 84 #[.pointer (some ⟨B, 0, none⟩), .int .i64 2] W fun e w' => ∃ b : Bool, e = .returned (.bool b) ∧ CurOk w' B a l cap ∧ W.grownBy w' (some B)) := Lib.hid (fun W hW => l01Once_any B 2 a l cap W hW (by omega) (by omega))
  have HB5 : Hid (∀ W, CurOk W B a l cap → Calls Tryz.prog 85 #[.pointer (some ⟨B, 0, none⟩), .int .i64 5] W fun e w' => ∃ x : Nat, x < 5 ∧ e = .returned (.int .i64 ((x : Nat) : Int)) ∧ CurOk w' B a l cap ∧ W.grownBy w' (some B)) := Lib.hid (fun W hW => l01Below_any B 5 a l cap W hW (by omega) (by omega))
  have HB2 : Hid (∀ W, CurOk W B a l cap → Calls Tryz.prog 85 #[.pointer (some ⟨B, 0, none⟩), .int .i64 2] W fun e w' => ∃ x : Nat, x < 2 ∧ e = .returned (.int .i64 ((x : Nat) : Int)) ∧ CurOk w' B a l cap ∧ W.grownBy w' (some B)) := Lib.hid (fun W hW => l01Below_any B 2 a l cap W hW (by omega) (by omega))
  have HBN : Hid (∀ (n : Nat) W, n ≤ 5 → CurOk W B a l cap → Calls Tryz.prog 85 #[.pointer (some ⟨B, 0, none⟩), .int .i64 ((n : Int) + 1)] W fun e w' => ∃ x : Nat, x < n + 1 ∧ e = .returned (.int .i64 ((x : Nat) : Int)) ∧ CurOk w' B a l cap ∧ W.grownBy w' (some B)) := Lib.hid (fun n W hn hW => by
    have h1 := l01Below_any B (n + 1) a l cap W hW (by omega) (by omega)
    rwa [Int.natCast_add] at h1)
  have HL3 : Hid (∀ W, CurOk W B a l cap → Below w0.heap.size w0 W → Calls Tryz.prog 37 #[.pointer (some ⟨B, 0, none⟩)] W (RetDrwZ B a l cap w0 W)) := Lib.hid (fun W hW hbW => l03Draw_z B a l cap w0 W hW hbW hB)
  clear h hb0
  go_enter Tryz.func52, Tryz.ntmps52
  go_wp2_with fail
  refine (HO2.out _ HC1.out).mono ?_
  rintro e w2 ⟨b, rfl, hc2, hg2⟩
  have HC2 := Lib.hid hc2
  have HBW2 : Hid (Below w0.heap.size w0 w2) := Lib.hid (below_curA HB1.out hg2 hB)
  have HZ2 := Lib.hid ((hg2.block w.heap.size (by simp) (fun e => by have := Option.some.inj e; have := HLT.out; omega)).trans HZ1.out)
  clear hc2 hg2 HC1 HB1 HZ1
  cases b
  · clear HL3
    go_wp2_with fail
    refine (HB5.out _ HC2.out).mono ?_
    rintro e w3 ⟨x, hx, rfl, hc3, hg3⟩
    have HC3 := Lib.hid hc3
    have HBW3 : Hid (Below w0.heap.size w0 w3) := Lib.hid (below_curA HBW2.out hg3 hB)
    have hlt2 := (Array.getElem?_eq_some_iff.1 HZ2.out).1
    have HZ3 := Lib.hid ((hg3.block w.heap.size hlt2 (fun e => by have := Option.some.inj e; have := HLT.out; omega)).trans HZ2.out)
    clear hc3 hg3 HC2 HBW2 HZ2 hlt2 HB5
    go_wp2_with fail
    refine (HB2.out _ HC3.out).mono ?_
    rintro e w4 ⟨y, hy, rfl, hc4, hg4⟩
    have HC4 := Lib.hid hc4
    have HBW4 : Hid (Below w0.heap.size w0 w4) := Lib.hid (below_curA HBW3.out hg4 hB)
    have hlt3 := (Array.getElem?_eq_some_iff.1 HZ3.out).1
    have HZ4 := Lib.hid ((hg4.block w.heap.size hlt3 (fun e => by have := Option.some.inj e; have := HLT.out; omega)).trans HZ3.out)
    have HD4 : Hid (DrwA B a l cap w0 w w4.heap.size (w4.alloc (.cells #[.int .i64 (1 + (y : Int)), .slice none 0 0, .slice none 0 0] 30)) (1 + (y : Int)) (.slice none 0 0) (.slice none 0 0) [] []) := Lib.hid (DrwA.start HC4.out HBW4.out HZ4.out HLT.out HFR.out)
    clear hc4 hg4 HC3 HBW3 HZ3 hlt3 HB2 HC4 HBW4 HZ4
    go_wp2_with fail
    generalize hr1 : (1 + (x : Int)) = r1 at *
    generalize hr2 : (1 + (y : Int)) = r2 at *
    obtain ⟨n, rfl⟩ : ∃ n : Nat, r1 = n := ⟨1 + x, by omega⟩
    obtain ⟨k, rfl⟩ : ∃ k : Nat, r2 = k := ⟨1 + y, by omega⟩
    have hn : 1 ≤ n ∧ n ≤ 5 := by omega
    have hk : 1 ≤ k ∧ k ≤ 2 := by omega
    clear hr1 hr2 hx hy
    generalize w4.heap.size = g at *
    go_loopw [7] (fun vi wr => ∃ (i : Nat) (F : List Bool) (N : List Int) (v u : Value), i ≤ n ∧ vi = .int .i64 (i : Nat) ∧ Hid (F.length = i) ∧ Hid (N.length = i * k ∧ ∀ v ∈ N, -1 ≤ v ∧ v < (n : Int)) ∧ Hid (DrwA B a l cap w0 w g wr (k : Nat) v u N F)) (fun vi _ => n - (intOf vi).toNat)
    case atStart => exact ⟨0, [], [], .slice none 0 0, .slice none 0 0, Nat.zero_le _, rfl, Lib.hid rfl, Lib.hid ⟨by simp, fun v hv => by cases hv⟩, HD4⟩
    case round =>
      clear HD4
      obtain ⟨i, F, N, v, u, hi, rfl, HFL, HNL, HDr⟩ := hrel
      obtain ⟨aF, cF, rfl⟩ := owns_form HDr.out.aut.fn
      by_cases hj : i < n
      · have hji : (i : Int) < (n : Int) := by omega
        have hfl : F.length ≤ 5 := by rw [HFL.out]; omega
        have HBW : Hid (B < wr.heap.size) := Lib.hid (by have := HDr.out.lt; have := HDr.out.aut.lt; omega)
        go_upto_region 10 with fail
        refine region_tail 5 (fun W => DrwA B a l cap w0 w g W (k : Nat) v (.slice aF F.length cF) N F ∧ wr.heap.size ≤ W.heap.size) (FarA wr.heap.size) (fun u => by simp only [List.take_succ_cons, List.take_zero, fPut, Act.put, List.setIfInBounds_toArray, List.set_cons_succ, List.set_cons_zero, Nat.zero_add, Nat.reduceAdd]; rfl) (by kernel_rfl) (by kernel_rfl) (by kernel_rfl) (by kernel_rfl) (by kernel_rfl) (by kernel_rfl) (by kernel_rfl) (⟨HDr.out.later (Below.drew (Below.refl _ _)), Nat.le_refl _⟩) ?_
        conv => arg 7; simp only [List.take_succ_cons, List.take_zero]
        apply each_read (fun _ => farA_refl _ _) rfl
        · intro u wv hC hf
          obtain ⟨z0, z1, z2⟩ := hC.1.aut.cells
          clear hf
          go_simp
          try rfl
        apply each_read (fun _ => farA_refl _ _) rfl
        · intro u wv hC hf
          obtain ⟨z0, z1, z2⟩ := hC.1.aut.cells
          obtain ⟨d0_0, -⟩ := hf
          have e0 : u 0 = _ := d0_0 rfl
          clear d0_0
          go_simp
          try rfl
        conv => arg 8; simp only [List.cons_append, List.nil_append]
        apply each_read (fun _ => farA_refl _ _) rfl
        · intro u wv hC hf
          obtain ⟨z0, z1, z2⟩ := hC.1.aut.cells
          clear hf
          go_simp
          try rfl
        conv => arg 8; simp only [List.cons_append, List.nil_append]
        refine each_call (fun v _ => ∃ b : Bool, v = .bool b) (fun _ _ _ _ _ h => h) rfl ?_ ?_
        · intro u wv hC hf
          obtain ⟨z0, z1, z2⟩ := hC.1.aut.cells
          obtain ⟨d2_0, -⟩ := hf
          have e2 : u 2 = _ := d2_0 rfl
          clear d2_0
          apply Exists.intro; apply Exists.intro; apply And.intro
          · go_simp; exact ⟨rfl, rfl⟩
          · refine (HO2.out _ hC.1.cur).mono ?_
            rintro e w9 ⟨b, rfl, hc9, hg9⟩
            exact ⟨_, rfl, ⟨hC.1.next hc9 hg9, Nat.le_trans hC.2 hg9.size⟩, farA_grown hg9 HBW.out, b, rfl⟩
        conv => arg 8; simp only [List.cons_append, List.nil_append]
        refine each_do (fun v wv => ∃ (s : Bool) (g4 : Nat), ( wr.heap.size ≤ g4) ∧ v = .slice (some ⟨g4, 0, none⟩) 1 1 ∧ wv.heap[g4]? = some (.cells #[.bool s] 4 (0, 0))) (fun v w w2 _ hR ⟨s, g, h0, h1, h2⟩ => ⟨s, g, h0, h1, hR g _ h0 h2⟩) rfl ?_ ?_
        · intro u wv hC hf
          obtain ⟨z0, z1, z2⟩ := hC.1.aut.cells
          obtain ⟨d3_0, -⟩ := hf
          obtain ⟨b3, e3⟩ := d3_0 rfl
          replace e3 : u 3 = _ := e3
          refine ⟨.slice (some ⟨wv.heap.size, 0, none⟩) 1 1, wv.alloc (.cells #[.bool b3] 4), ?_, ⟨hC.1.later (alloc_belowS _ _), Nat.le_trans hC.2 (alloc_belowS wv _).size⟩, farA_below (alloc_belowS _ _), b3, wv.heap.size, hC.2, rfl, alloc_at wv _⟩
          go_simp
          try rfl
        intro u w7 d7 hall
        obtain ⟨a0, a1, a2, a3, a4, -⟩ := hall
        have e0 : u 0 = _ := a0
        clear a0
        have e1 : u 1 = _ := a1
        clear a1
        have e2 : u 2 = _ := a2
        clear a2
        obtain ⟨b3, e3⟩ := a3
        replace e3 : u 3 = _ := e3
        obtain ⟨s, g4, hg4, e4, b4⟩ := a4
        replace e4 : u 4 = _ := e4
        change wpList _ _ _ (List.drop 5 _) _ _
        simp only [List.drop_succ_cons, List.drop_zero]
        simp only [e0, e1, e2, e3, e4]
        clear e0 e1 e2 e3 e4
        have HR7 := Lib.hid d7.1
        clear d7
        refine wpList_appB rfl (.tmp 32) (.tmp 35) rfl Tryz.underlying28 Tryz.infoBool rfl (by decide) rfl HR7.out.aut.fn HR7.out.aut.lt rfl (m := 1) (news := [.bool s]) (fun i u hu => by
          match i, hu with
          | 0, hu =>
            obtain rfl := Option.some.inj hu
            rw [add_off]
            simp [World.cell?, b4]
          | i + 1, hu => cases hu) rfl (by decide) (fun u hu => by rw [List.mem_singleton.1 hu]; rfl) (by unfold maxLen; omega) (by omega) ?_
        intro g5 c5 w9 hn9 hg9 _
        obtain ⟨q0, q1, q2, qf0, qf1, qf2⟩ := aut_facts (HR7.out.aut.grownF hg9)
        have HRN := Lib.hid (HR7.out.putF hg9 hn9)
        have HFL2 : Hid ((F ++ [s]).length = i + 1) := Lib.hid (by rw [List.length_append, HFL.out]; rfl)
        clear hn9 hg9 b4
        generalize F ++ [s] = F2 at *
        go_upto_region 11 with fail
        clear q0 q1 q2 qf0 qf1 qf2
        generalize w9.setCell ⟨g, 2, none⟩ (.slice (some ⟨g5, 0, none⟩) (F.length + 1) c5) = w10 at *
        generalize Value.slice (some ⟨g5, 0, none⟩) (F.length + 1) c5 = u2 at *
        clear HDr HFL HR7 hfl HBW
        go_wp2_with fail
        go_loopw [8] (fun vx wr => ∃ (x : Nat) (N : List Int) (v : Value), x ≤ k ∧ vx = .int .i64 (x : Nat) ∧ Hid (N.length = i * k + x ∧ ∀ v ∈ N, -1 ≤ v ∧ v < (n : Int)) ∧ Hid (DrwA B a l cap w0 w g wr (k : Nat) v u2 N F2)) (fun vx _ => k - (intOf vx).toNat)
        case atStart => exact ⟨0, N, v, Nat.zero_le _, rfl, HNL, HRN⟩
        case round =>
          clear HNL HRN
          obtain ⟨x, N, v, hx, rfl, HNL, HDr⟩ := hrel
          obtain ⟨aN, cN, rfl⟩ := owns_form HDr.out.aut.nx
          obtain ⟨y0, y1, y2⟩ := HDr.out.aut.cells
          by_cases hlx : x < k
          · have hxi : (x : Int) < (k : Int) := by omega
            have hnl : N.length ≤ 1000 := by
              rw [HNL.out.1]
              have : i * k ≤ 5 * 2 := Nat.mul_le_mul (by omega) hk.2
              omega
            have HBW : Hid (B < wr.heap.size) := Lib.hid (by have := HDr.out.lt; have := HDr.out.aut.lt; omega)
            have hw1 : IntKind.i64.wrap ((n : Int) + 1) = (n : Int) + 1 := IntWalk.i64_in _ (by omega)
            go_upto_region 14 with fail
            clear y0 y1 y2
            refine region_tail 8 (fun W => DrwA B a l cap w0 w g W (k : Nat) (.slice aN N.length cN) u2 N F2 ∧ wr.heap.size ≤ W.heap.size) (FarA wr.heap.size) (fun u => by simp only [List.take_succ_cons, List.take_zero, fPut, Act.put, List.setIfInBounds_toArray, List.set_cons_succ, List.set_cons_zero, Nat.zero_add, Nat.reduceAdd]; rfl) (by kernel_rfl) (by kernel_rfl) (by kernel_rfl) (by kernel_rfl) (by kernel_rfl) (by kernel_rfl) (by kernel_rfl) (⟨HDr.out.later (Below.drew (Below.refl _ _)), Nat.le_refl _⟩) ?_
            conv => arg 7; simp only [List.take_succ_cons, List.take_zero]
            apply each_read (fun _ => farA_refl _ _) rfl
            · intro u wv hC hf
              obtain ⟨z0, z1, z2⟩ := hC.1.aut.cells
              clear hf
              go_simp
              try rfl
            apply each_read (fun _ => farA_refl _ _) rfl
            · intro u wv hC hf
              obtain ⟨z0, z1, z2⟩ := hC.1.aut.cells
              obtain ⟨d0_0, -⟩ := hf
              have e0 : u 0 = _ := d0_0 rfl
              clear d0_0
              go_simp
              try rfl
            conv => arg 8; simp only [List.cons_append, List.nil_append]
            apply each_read (fun _ => farA_refl _ _) rfl
            · intro u wv hC hf
              obtain ⟨z0, z1, z2⟩ := hC.1.aut.cells
              clear hf
              go_simp
              try rfl
            conv => arg 8; simp only [List.cons_append, List.nil_append]
            apply each_read (fun _ => farA_refl _ _) rfl
            · intro u wv hC hf
              obtain ⟨z0, z1, z2⟩ := hC.1.aut.cells
              clear hf
              go_simp
              try rfl
            conv => arg 8; simp only [List.cons_append, List.nil_append]
            apply each_read (fun _ => farA_refl _ _) rfl
            · intro u wv hC hf
              obtain ⟨z0, z1, z2⟩ := hC.1.aut.cells
              obtain ⟨d3_0, -⟩ := hf
              have e3 : u 3 = _ := d3_0 rfl
              clear d3_0
              go_simp
              try rfl
            conv => arg 8; simp only [List.cons_append, List.nil_append]
            refine each_call (fun v _ => ∃ x : Nat, x < n + 1 ∧ v = .int .i64 (x : Nat)) (fun _ _ _ _ _ h => h) rfl ?_ ?_
            · intro u wv hC hf
              obtain ⟨z0, z1, z2⟩ := hC.1.aut.cells
              obtain ⟨d2_0, d4_1, -⟩ := hf
              have e2 : u 2 = _ := d2_0 rfl
              clear d2_0
              have e4 : u 4 = _ := d4_1 rfl
              clear d4_1
              apply Exists.intro; apply Exists.intro; apply And.intro
              · go_simp; exact ⟨rfl, rfl⟩
              · refine (HBN.out n _ (by omega) hC.1.cur).mono ?_
                rintro e w9 ⟨x9, hx9, rfl, hc9, hg9⟩
                exact ⟨_, rfl, ⟨hC.1.next hc9 hg9, Nat.le_trans hC.2 hg9.size⟩, farA_grown hg9 HBW.out, x9, hx9, rfl⟩
            conv => arg 8; simp only [List.cons_append, List.nil_append]
            refine each_do (fun v _ => ∃ s : Int, (-1 ≤ s ∧ s < (n : Int)) ∧ v = .int .i64 s) (fun _ _ _ _ _ h => h) rfl ?_ ?_
            · intro u wv hC hf
              obtain ⟨z0, z1, z2⟩ := hC.1.aut.cells
              obtain ⟨d5_0, -⟩ := hf
              obtain ⟨x5, hx5, e5⟩ := d5_0 rfl
              replace e5 : u 5 = _ := e5
              refine ⟨.int .i64 ((x5 : Int) - 1), wv, ?_, hC, farA_refl _ _, _, ⟨by omega, by omega⟩, rfl⟩
              have hw5 : IntKind.i64.wrap ((x5 : Int) - 1) = (x5 : Int) - 1 := IntWalk.i64_in _ (by omega)
              go_simp
              try rfl
            conv => arg 8; simp only [List.cons_append, List.nil_append]
            refine each_do (fun v wv => ∃ (s : Int) (g4 : Nat), ((-1 ≤ s ∧ s < (n : Int)) ∧ wr.heap.size ≤ g4) ∧ v = .slice (some ⟨g4, 0, none⟩) 1 1 ∧ wv.heap[g4]? = some (.cells #[.int .i64 s] 3 (0, 0))) (fun v w w2 _ hR ⟨s, g, h0, h1, h2⟩ => ⟨s, g, h0, h1, hR g _ h0.2 h2⟩) rfl ?_ ?_
            · intro u wv hC hf
              obtain ⟨z0, z1, z2⟩ := hC.1.aut.cells
              obtain ⟨d6_0, -⟩ := hf
              obtain ⟨s6, hs6, e6⟩ := d6_0 rfl
              replace e6 : u 6 = _ := e6
              refine ⟨.slice (some ⟨wv.heap.size, 0, none⟩) 1 1, wv.alloc (.cells #[.int .i64 s6] 3), ?_, ⟨hC.1.later (alloc_belowS _ _), Nat.le_trans hC.2 (alloc_belowS wv _).size⟩, farA_below (alloc_belowS _ _), s6, wv.heap.size, ⟨hs6, hC.2⟩, rfl, alloc_at wv _⟩
              go_simp
              try rfl
            intro u w7 d7 hall
            obtain ⟨a0, a1, a2, a3, a4, a5, a6, a7, -⟩ := hall
            have e0 : u 0 = _ := a0
            clear a0
            have e1 : u 1 = _ := a1
            clear a1
            have e2 : u 2 = _ := a2
            clear a2
            have e3 : u 3 = _ := a3
            clear a3
            have e4 : u 4 = _ := a4
            clear a4
            obtain ⟨x5, hx5, e5⟩ := a5
            replace e5 : u 5 = _ := e5
            obtain ⟨s6, hs6, e6⟩ := a6
            replace e6 : u 6 = _ := e6
            obtain ⟨s, g7, ⟨hs7, hg7⟩, e7, b7⟩ := a7
            replace e7 : u 7 = _ := e7
            change wpList _ _ _ (List.drop 8 _) _ _
            simp only [List.drop_succ_cons, List.drop_zero]
            simp only [e0, e1, e2, e3, e4, e5, e6, e7]
            clear e0 e1 e2 e3 e4 e5 e6 e7
            have HR7 := Lib.hid d7.1
            clear d7
            refine wpList_appB rfl (.tmp 45) (.tmp 51) rfl Tryz.underlying27 Tryz.infoInt rfl (by decide) rfl HR7.out.aut.nx HR7.out.aut.lt rfl (m := 1) (news := [.int .i64 s]) (fun i u hu => by
              match i, hu with
              | 0, hu =>
                obtain rfl := Option.some.inj hu
                rw [add_off]
                simp [World.cell?, b7]
              | i + 1, hu => cases hu) rfl (by decide) (fun u hu => by rw [List.mem_singleton.1 hu]; rfl) (by unfold maxLen; omega) (by omega) ?_
            intro g5 c5 w9 hn9 hg9 _
            obtain ⟨q0, q1, q2, qf0, qf1, qf2⟩ := aut_facts (HR7.out.aut.grownN hg9)
            have HRN := Lib.hid (HR7.out.putN hg9 hn9)
            have HNL2 : Hid ((N ++ [s]).length = i * k + (x + 1) ∧ ∀ v ∈ N ++ [s], -1 ≤ v ∧ v < (n : Int)) := Lib.hid ⟨by rw [List.length_append, HNL.out.1]; simp; omega, fun v hv => by
              rcases List.mem_append.1 hv with hv | hv
              · exact HNL.out.2 v hv
              · rw [List.mem_singleton.1 hv]; exact hs7⟩
            clear hn9 hg9 b7
            go_wp2_with fail
            go_roundw
            case rel => exact ⟨x + 1, N ++ [s], _, by omega, by go_num, HNL2, HRN⟩
            case measure => simp [intOf]; omega
          · have hxi : ¬ (x : Int) < (k : Int) := by omega
            obtain rfl : k = x := by omega
            have HNL2 : Hid (N.length = (i + 1) * k ∧ ∀ v ∈ N, -1 ≤ v ∧ v < (n : Int)) := Lib.hid ⟨by rw [HNL.out.1, Nat.add_mul]; omega, HNL.out.2⟩
            generalize hW : wr = wr0 at *
            clear hW
            go_wp2_with fail
            go_roundw
            case rel => exact ⟨i + 1, F2, N, _, _, by omega, by go_num, HFL2, HNL2, HDr⟩
            case measure => simp [intOf]; omega
      · have hji : ¬ (i : Int) < (n : Int) := by omega
        obtain rfl : n = i := by omega
        obtain ⟨aN, cN, rfl⟩ := owns_form HDr.out.aut.nx
        have hP : AutP k N F ∧ F.length ≤ 40 := ⟨⟨⟨⟨hk.1, by omega⟩, by rw [HFL.out]; omega, by rw [HFL.out]; omega⟩, by rw [HNL.out.1, HFL.out], fun v hv => by rw [HFL.out]; exact HNL.out.2 v hv⟩, by rw [HFL.out]; omega⟩
        have FR := Lib.hid (aut_fin (z := w.heap.size) (cN := cN) (cF := cF) hP (show OwnA wr (g + 1) aN N cN aF F cF from ⟨HDr.out.aut.nx, HDr.out.aut.fn⟩) (by have := HDr.out.lt; omega) HDr.out.cur HDr.out.aut.bel HLT.out HFR.out)
        have hz5 := HDr.out.zero
        obtain ⟨y0, y1, y2⟩ := HDr.out.aut.cells
        obtain ⟨z0, z1, z2, ff0, ff1, ff2⟩ := aut_facts hz5
        obtain ⟨u0, u1, u2⟩ := aut_cells (aut_three hz5 (.int .i64 (k : Nat)) (.slice aN N.length cN) (.slice aF F.length cF))
        clear hz5 HDr hP
        go_wp2_with fail
        refine bodyPost_ret (v := .agg #[.int .i64 (k : Nat), .slice aN N.length cN, .slice aF F.length cF]) ?_ rfl FR.out
        simp [results, Tryz.results52, go_sem, u0, u1, u2]
  · go_wp2_with fail
    refine (HL3.out _ HC2.out HBW2.out).mono ?_
    rintro e w3 ⟨kk, R, aR, cR, ⟨hsy, hsm⟩, rfl, hR, hc3, hb3, hg3⟩
    have hsz := sys_sizes hsy
    obtain ⟨k, rfl⟩ : ∃ k : Nat, kk = k := ⟨kk.toNat, by omega⟩
    have hlt2 := (Array.getElem?_eq_some_iff.1 HZ2.out).1
    have HZ3 := Lib.hid ((hg3.block w.heap.size hlt2 (fun e => by have := Option.some.inj e; have := HLT.out; omega)).trans HZ2.out)
    have HC3 := Lib.hid hc3
    have HBW3 := Lib.hid hb3
    have HRS := Lib.hid (specRed_c k R aR cR w3 (owns_rules hR) hsy hsm)
    have hlt3 := (Array.getElem?_eq_some_iff.1 HZ3.out).1
    clear hR hc3 hb3 hg3 hsy hsm hsz HC2 HBW2 HZ2 hlt2 HL3 HO2 HB5 HB2 HBN
    go_wp2_with fail
    refine HRS.out.mono ?_
    rintro e w4 ⟨aN, N, cN, aF, F, cF, rfl, hP, hO, hb4⟩
    have hb5 := alloc_belowS w4 (.cells #[.int .i64 (k : Nat), .slice aN N.length cN, .slice aF F.length cF] 30)
    have HC5 := Lib.hid ((HC3.out.later hb4).later hb5)
    have HB5 := Lib.hid (Below.now (Below.now HBW3.out hb4) hb5)
    have hz5 := block_later (block_later HZ3.out _ hb4) _ hb5
    have HO5 := Lib.hid (hO.later hb5)
    have hx5 := alloc_at w4 (.cells #[.int .i64 (k : Nat), .slice aN N.length cN, .slice aF F.length cF] 30)
    clear hb4 hO HC3 HBW3 HZ3 HRS
    go_upto_region 3 with fail
    generalize w4.alloc (.cells #[.int .i64 (k : Nat), .slice aN N.length cN, .slice aF F.length cF] 30) = w5 at *
    have FR := Lib.hid (aut_fin (z := w.heap.size) (cN := cN) (cF := cF) hP HO5.out hlt3 HC5.out HB5.out HLT.out HFR.out)
    obtain ⟨y0, y1, y2⟩ := aut_cells hx5
    obtain ⟨z0, z1, z2, ff0, ff1, ff2⟩ := aut_facts hz5
    obtain ⟨u0, u1, u2⟩ := aut_cells (aut_three hz5 (.int .i64 (k : Nat)) (.slice aN N.length cN) (.slice aF F.length cF))
    clear hz5 hx5 hb5 hP
    go_wp2_with fail
    refine bodyPost_ret (v := .agg #[.int .i64 (k : Nat), .slice aN N.length cN, .slice aF F.length cF]) ?_ rfl FR.out
    simp [results, Tryz.results52, go_sem, u0, u1, u2]
/-- some valid automaton -/
def RetMA (w : World) (e : Ending) (w' : World) : Prop := ∃ (k : Nat) (aN : Option Addr) (N : List Int) (cN : Nat) (aF : Option Addr) (F : List Bool) (cF : Nat),
  (AutP k N F ∧ F.length ≤ 40) ∧ e = .returned (.agg #[.int .i64 (k : Nat), .slice aN N.length cN, .slice aF F.length cF]) ∧ IntsIn w' aN N ∧ BoolsIn w' aF F ∧ Below w.heap.size w w'
set_option maxRecDepth 20000 in
set_option maxHeartbeats 2000000 in
theorem specMakeAut_c (a : Option Addr) (l : List UInt8) (cap i : Nat) (w : World) (hl : BytesIn w a l) (hlen : l.length ≤ 2 ^ 40) (hi : i ≤ 1000) :
    Calls Tryz.prog 13 #[.slice a l.length cap, .int .i64 (i : Nat)] w (RetMA w) := by
  have hlt := alloc_at w (.cells #[.int .i64 0, .slice none 0 0, .slice none 0 0] 30)
  have HW1 := Lib.hid (alloc_belowS w (.cells #[.int .i64 0, .slice none 0 0, .slice none 0 0] 30))
  have HN := Lib.hid (l31New_any a l cap i (w.alloc (.cells #[.int .i64 0, .slice none 0 0, .slice none 0 0] 30)) (hl.later HW1.out) hlen hi)
  have hsz : w.heap.size < (w.alloc (.cells #[.int .i64 0, .slice none 0 0, .slice none 0 0] 30)).heap.size := by simp
  go_enter Tryz.func13, Tryz.ntmps13
  go_wp2_with fail
  generalize w.alloc (.cells #[.int .i64 0, .slice none 0 0, .slice none 0 0] 30) = w1 at *
  refine HN.out.mono ?_
  rintro e w2 ⟨rfl, hc, hb⟩
  have HD := Lib.hid (l27Draw_c w1.heap.size a l cap w1 w2 hc hb (Nat.le_refl _))
  clear hc hb HN
  go_wp2_with fail
  refine HD.out.mono ?_
  rintro e w3 ⟨k, aN, N, cN, aF, F, cF, hP, rfl, hO, hc3, hb3⟩
  have hz := (hb3.block w.heap.size hsz).trans hlt
  have HB3 := Lib.hid (Below.now HW1.out hb3)
  have hO2 := hO.set3 hsz (.int .i64 (k : Nat)) (.slice aN N.length cN) (.slice aF F.length cF)
  have FR : Hid (RetMA w (.returned (.agg #[.int .i64 (k : Nat), .slice aN N.length cN, .slice aF F.length cF])) (((w3.setCell ⟨w.heap.size, 0, none⟩ (.int .i64 (k : Nat))).setCell ⟨w.heap.size, 1, none⟩ (.slice aN N.length cN)).setCell ⟨w.heap.size, 2, none⟩ (.slice aF F.length cF))) := Lib.hid ⟨k, aN, N, cN, aF, F, cF, hP, rfl, hO2.ints, hO2.bools, ((HB3.out.setCell (p := ⟨w.heap.size, 0, none⟩) (Nat.le_refl _) _).setCell (p := ⟨w.heap.size, 1, none⟩) (Nat.le_refl _) _).setCell (p := ⟨w.heap.size, 2, none⟩) (Nat.le_refl _) _⟩
  obtain ⟨z0, z1, z2, ff0, ff1, ff2⟩ := aut_facts hz
  obtain ⟨u0, u1, u2⟩ := aut_cells (aut_three hz (.int .i64 (k : Nat)) (.slice aN N.length cN) (.slice aF F.length cF))
  clear hz hc3 hb3 hP hO hO2 HD hlt
  go_wp2_with fail
  refine bodyPost_ret (v := .agg #[.int .i64 (k : Nat), .slice aN N.length cN, .slice aF F.length cF]) ?_ rfl FR.out
  simp [results, Tryz.results13, go_sem, u0, u1, u2]
end Go.Proofs.YtoddpmdjjgnpgaaGreatDoor
namespace Go.Proofs.YtoddpmdjjgnpgaaGreatDoor
open Go.RowKit
set_option linter.unusedVariables false
theorem rules_setFar {wr : World} {aR : Option Addr} {R : List RulD} {g : Nat} {x y : Value} {T : TypeId} (hl : RulesIn wr aR R) (hz : wr.heap[g]? = some (.cells #[x, y] T (0, 0))) (hx : ∀ s, x ≠ .string s) (hy : ∀ s, y ≠ .string s) (u v : Value) : RulesIn ((wr.setCell ⟨g, 0, none⟩ u).setCell ⟨g, 1, none⟩ v) aR R := by
  rcases hl with hl | ⟨b, off, ha, hcs⟩
  · exact .inl hl
  · refine .inr ⟨b, off, ha, fun i hi => ?_⟩
    have hc := hcs i hi
    have hne : b ≠ g := by
      rintro rfl
      obtain ⟨s, hs⟩ := ruleCells_str R _ (List.getElem_mem hi)
      rw [hs, cell_of_row _ _ _ _ _ _ hz] at hc
      match off + i, hc with
      | 0, hc => exact hx s (Option.some.inj hc)
      | 1, hc => exact hy s (Option.some.inj hc)
      | n + 2, hc => cases hc
    rw [World.cell?_of_block (w := wr) (by
      unfold World.setCell
      rw [Array.getElem?_modify, if_neg (fun e => hne e.symm), Array.getElem?_modify, if_neg (fun e => hne e.symm)])]
    exact hc
/-- some ordered system -/
def RetMk (w : World) (e : Ending) (w' : World) : Prop := ∃ (k : Int) (R : List RulD) (aR : Option Addr) (cR : Nat),
  sysP k R ∧ e = .returned (.agg #[.int .i64 k, .slice aR R.length cR]) ∧ RulesIn w' aR R ∧ Below w.heap.size w w'
set_option maxRecDepth 20000 in
set_option maxHeartbeats 2000000 in
theorem specMakeSystem_any (a : Option Addr) (l : List UInt8) (cap k : Nat) (w : World) (hl : BytesIn w a l) (hlen : l.length ≤ 2 ^ 40) (hk : k ≤ 1000) :
    Calls Tryz.prog 5 #[.slice a l.length cap, .int .i64 (k : Nat)] w (RetMk w) := by
  have hlt := alloc_at w (.cells #[.int .i64 0, .slice none 0 0] 25)
  have HW1 := Lib.hid (alloc_belowS w (.cells #[.int .i64 0, .slice none 0 0] 25))
  have HN := Lib.hid (l31New_any a l cap k (w.alloc (.cells #[.int .i64 0, .slice none 0 0] 25)) (hl.later HW1.out) hlen hk)
  have hsz : w.heap.size < (w.alloc (.cells #[.int .i64 0, .slice none 0 0] 25)).heap.size := by simp
  go_enter Tryz.func5, Tryz.ntmps5
  go_wp2_with fail
  generalize w.alloc (.cells #[.int .i64 0, .slice none 0 0] 25) = w1 at *
  refine HN.out.mono ?_
  rintro e w2 ⟨rfl, hc, hb⟩
  have HD := Lib.hid (l03Draw_any w1.heap.size a l cap w1 w2 hc hb (Nat.le_refl _))
  clear hc hb HN
  go_wp2_with fail
  refine HD.out.mono ?_
  rintro e w3 ⟨kk, R, aR, cR, hs, rfl, hR, hc3, hb3⟩
  have hz := (hb3.block w.heap.size hsz).trans hlt
  have HB3 := Lib.hid (Below.now HW1.out hb3)
  have F : Hid (RetMk w (.returned (.agg #[.int .i64 kk, .slice aR R.length cR])) ((w3.setCell ⟨w.heap.size, 0, none⟩ (.int .i64 kk)).setCell ⟨w.heap.size, 1, none⟩ (.slice aR R.length cR))) := Lib.hid ⟨kk, R, aR, cR, hs, rfl, rules_setFar hR hz (fun s e => by cases e) (fun s e => by cases e) _ _, (HB3.out.setCell (Nat.le_refl _) _).setCell (Nat.le_refl _) _⟩
  obtain ⟨z0, z1⟩ := sys_cells hz
  obtain ⟨u0, u1⟩ := sys_cells (set_two hz (.int .i64 kk) (.slice aR R.length cR))
  have ff0 : w3.frozen? ⟨w.heap.size, 0, none⟩ = false := by simp [World.frozen?, hz]
  have ff1 : w3.frozen? ⟨w.heap.size, 1, none⟩ = false := by simp [World.frozen?, hz]
  clear hz hc3 hb3 hs hR HD hlt
  go_wp2_with fail
  refine bodyPost_ret (v := .agg #[.int .i64 kk, .slice aR R.length cR]) ?_ rfl F.out
  simp [results, Tryz.results5, go_sem, u0, u1]
end Go.Proofs.YtoddpmdjjgnpgaaGreatDoor
