/-
  ReplaceAt and ApplyLink of the reference, coarsely.
-/
import Derived.Test.YtoddpmdjjgnpgaaGreatDoorTxt17
import Derived.Test.YtoddpmdjjgnpgaaGreatDoorTxt19
import Derived.Test.YtoddpmdjjgnpgaaGreatDoorTxt21
import Derived.Test.YtoddpmdjjgnpgaaGreatDoorTxt06
import Derived.Test.YtoddpmdjjgnpgaaGreatDoorTxt10
namespace Go.Proofs.YtoddpmdjjgnpgaaGreatDoor
open Go.RowKit
set_option linter.unusedVariables false
theorem set_hit {W : World} {g i : Nat} {xs : Array Value} {T : TypeId} (h : W.heap[g]? = some (.cells xs T (0, 0))) (v : Value) : (W.setCell ⟨g, i, none⟩ v).heap[g]? = some (.cells (xs.setIfInBounds i v) T (0, 0)) := by
  unfold World.setCell
  simp [Array.getElem?_modify, h]
theorem set_miss {W : World} {g b i : Nat} (h : g ≠ b) (v : Value) : (W.setCell ⟨g, i, none⟩ v).heap[b]? = W.heap[b]? := by
  unfold World.setCell
  rw [Array.getElem?_modify, if_neg (show ¬ g = b from h)]
/-- a system that is being drawn, whose rules lie anywhere since H -/
structure DrwY (B : Nat) (a : Option Addr) (l : List UInt8) (cap : Nat) (w0 wE : World) (z H g : Nat) (wr : World) (k : Int) (v : Value) (R : List RulD) : Prop where
  blk : wr.heap[g]? = some (.cells #[.int .i64 k, v] 25 (0, 0))
  own : wr.ownsRow H 120 2 v R.length (ruleCells R)
  ne : v.ownBlock ≠ some g
  cur : CurOk wr B a l cap
  zero : wr.heap[z]? = some (.cells #[.int .i64 0, .slice none 0 0] 25 (0, 0))
  below : Below w0.heap.size w0 wr
  lt : B < z ∧ w0.heap.size ≤ B ∧ z < H ∧ H ≤ g ∧ wE.heap.size ≤ z
  gr : wE.grownBy wr (some B)
  far : l ≠ [] → ∀ x, a = some x → x.block < z
  sz : ShortR 25 R
  len : R.length ≤ 13
section
variable {B : Nat} {a : Option Addr} {l : List UInt8} {cap : Nat} {w0 wE wr : World} {z H g : Nat} {k : Int} {v : Value} {R : List RulD}
theorem DrwY.facts (h : DrwY B a l cap w0 wE z H g wr k v R) : wr.cell? ⟨g, 0, none⟩ = some (.int .i64 k) ∧ wr.cell? ⟨g, 1, none⟩ = some v ∧ wr.frozen? ⟨g, 0, none⟩ = false ∧ wr.frozen? ⟨g, 1, none⟩ = false := rec_cells h.blk
theorem DrwY.glt (h : DrwY B a l cap w0 wE z H g wr k v R) : g < wr.heap.size := (Array.getElem?_eq_some_iff.1 h.blk).1
theorem DrwY.hs (h : DrwY B a l cap w0 wE z H g wr k v R) : H ≤ wr.heap.size := by have := h.lt; have := h.glt; omega
theorem DrwY.later {w' : World} (h : DrwY B a l cap w0 wE z H g wr k v R) (hb : Below wr.heap.size wr w') : DrwY B a l cap w0 wE z H g w' k v R :=
  ⟨block_later h.blk _ hb, owns_later h.own hb, h.ne, h.cur.later hb, block_later h.zero _ hb, Below.now h.below hb, h.lt, grown_below h.gr hb, h.far, h.sz, h.len⟩
theorem DrwY.next {w' : World} (h : DrwY B a l cap w0 wE z H g wr k v R) (hc : CurOk w' B a l cap) (hg : wr.grownBy w' (some B)) : DrwY B a l cap w0 wE z H g w' k v R := by
  have h1 := h.lt
  have hne : v.ownBlock ≠ some B := fun e => by have := (h.own.lt B e).1; omega
  refine ⟨(hg.block g h.glt (fun e => by have := Option.some.inj e; omega)).trans h.blk, h.own.kept hg (.inr hne), h.ne, hc, ?_, below_curs h.below hg h1.2.1, h1, grown_tr h.gr hg, h.far, h.sz, h.len⟩
  exact (hg.block z (by have := h.glt; omega) (fun e => by have := Option.some.inj e; omega)).trans h.zero
theorem DrwY.setK (h : DrwY B a l cap w0 wE z H g wr k v R) (k' : Int) : DrwY B a l cap w0 wE z H g (wr.setCell ⟨g, 0, none⟩ (.int .i64 k')) k' v R := by
  have h1 := h.lt
  refine ⟨(set_hit h.blk _).trans rfl, h.own.kept (setGrownB wr g 0 _) (.inr h.ne), h.ne, h.cur.grownO (setGrownB wr g 0 _) (fun e => by have := Option.some.inj e; omega) (fun hne x hx e => by have := h.far hne x hx; have := Option.some.inj e; omega), (set_miss (by omega) _).trans h.zero, h.below.setCell (p := ⟨g, 0, none⟩) (by show w0.heap.size ≤ g; omega) _, h1, grown_since h.gr (setGrownB wr g 0 _) (fun b e => by have := Option.some.inj e; omega), h.far, h.sz, h.len⟩
theorem DrwY.grown {w4 : World} (h : DrwY B a l cap w0 wE z H g wr k v R) (hg : wr.grownBy w4 v.ownBlock) : w4.cell? ⟨g, 0, none⟩ = some (.int .i64 k) ∧ w4.cell? ⟨g, 1, none⟩ = some v ∧ w4.frozen? ⟨g, 0, none⟩ = false ∧ w4.frozen? ⟨g, 1, none⟩ = false :=
  rec_cells ((hg.block g h.glt (fun e => h.ne e.symm)).trans h.blk)
theorem DrwY.put {w4 : World} {g5 c5 : Nat} {p : RulD} (h : DrwY B a l cap w0 wE z H g wr k v R) (hp : p.1.size ≤ 25 ∧ p.2.size ≤ 25) (hg : wr.grownBy w4 v.ownBlock) (ho : w4.ownsRow H 120 2 (.slice (some ⟨g5, 0, none⟩) (R.length + 1) c5) (R.length + 1) (ruleCells R ++ [.string p.1, .string p.2]))
    (hr : v.ownBlock = some g5 ∨ g5 = wr.heap.size) (hl : R.length ≤ 12) : DrwY B a l cap w0 wE z H g (w4.setCell ⟨g, 1, none⟩ (.slice (some ⟨g5, 0, none⟩) (R.length + 1) c5)) k (.slice (some ⟨g5, 0, none⟩) (R.length + 1) c5) (R ++ [p]) := by
  have h1 := h.lt
  have hgl := h.glt
  have hb : ∀ b, v.ownBlock = some b → H ≤ b := fun b hb => (h.own.lt b hb).1
  have h4 := (hg.block g hgl (fun e => h.ne e.symm)).trans h.blk
  have hne5 : (Value.slice (some ⟨g5, 0, none⟩) (R.length + 1) c5).ownBlock ≠ some g := fun e => by
    have e5 : g5 = g := Option.some.inj e
    rcases hr with hr | hr
    · rw [e5] at hr; exact h.ne hr
    · omega
  have hc4 : CurOk w4 B a l cap := h.cur.grownO hg (fun e => by have := hb _ e; omega) (fun hne x hx e => by have := h.far hne x hx; have := hb _ e; omega)
  have b4 : Below w0.heap.size w0 w4 := h.below.grown hg h.below.size (fun b hb' => by have := hb b hb'; omega)
  refine ⟨(set_hit h4 _).trans rfl, ?_, hne5, hc4.grownO (setGrownB w4 g 1 _) (fun e => by have := Option.some.inj e; omega) (fun hne x hx e => by have := h.far hne x hx; have := Option.some.inj e; omega), (set_miss (by omega) _).trans ((hg.block z (by omega) (fun e => by have := hb _ e.symm; omega)).trans h.zero), b4.setCell (p := ⟨g, 1, none⟩) (by show w0.heap.size ≤ g; omega) _, h1, grown_since (grown_since h.gr hg (fun b e => by have := hb b e; omega)) (setGrownB w4 g 1 _) (fun b e => by have := Option.some.inj e; omega), h.far, h.sz.app hp, by rw [List.length_append]; show R.length + 1 ≤ 13; omega⟩
  rw [List.length_append, ruleCells_app, show ruleCells [p] = [Value.string p.1, .string p.2] from rfl]
  exact ho.kept (setGrownB w4 g 1 _) (.inr hne5)
end
/-- some system in memory -/
def RetSyC (B : Nat) (a : Option Addr) (l : List UInt8) (cap : Nat) (w0 wE : World) (e : Ending) (w' : World) : Prop := ∃ (k : Int) (R : List RulD) (aR : Option Addr) (cR : Nat),
  (ShortR 25 R ∧ R.length ≤ 13) ∧ e = .returned (.agg #[.int .i64 k, .slice aR R.length cR]) ∧ RulesIn w' aR R ∧ CurOk w' B a l cap ∧ Below w0.heap.size w0 w' ∧ wE.grownBy w' (some B)
theorem DrwY.fin {B : Nat} {a : Option Addr} {l : List UInt8} {cap : Nat} {w0 wE wr : World} {z H g : Nat} {k : Int} {R : List RulD} {aR : Option Addr} {cR : Nat} (h : DrwY B a l cap w0 wE z H g wr k (.slice aR R.length cR) R) :
    RetSyC B a l cap w0 wE (.returned (.agg #[.int .i64 k, .slice aR R.length cR])) ((wr.setCell ⟨z, 0, none⟩ (.int .i64 k)).setCell ⟨z, 1, none⟩ (.slice aR R.length cR)) := by
  have h1 := h.lt
  exact ⟨k, R, aR, cR, ⟨h.sz, h.len⟩, rfl, rules_setFar2 (owns_rules h.own) h.zero (fun s e => by cases e) (fun s e => by cases e) _ _,
    (h.cur.grownO (setGrownB wr z 0 _) (fun e => by have := Option.some.inj e; omega) (fun hne x hx e => by have := h.far hne x hx; have := Option.some.inj e; omega)).grownO (setGrownB _ z 1 _) (fun e => by have := Option.some.inj e; omega) (fun hne x hx e => by have := h.far hne x hx; have := Option.some.inj e; omega),
    (h.below.setCell (p := ⟨z, 0, none⟩) (by show w0.heap.size ≤ z; omega) _).setCell (p := ⟨z, 1, none⟩) (by show w0.heap.size ≤ z; omega) _, grown_since (grown_since h.gr (setGrownB wr z 0 _) (fun b e => by have := Option.some.inj e; omega)) (setGrownB _ z 1 _) (fun b e => by have := Option.some.inj e; omega)⟩
set_option maxRecDepth 20000 in
set_option maxHeartbeats 8000000 in
theorem l03Any_c (B : Nat) (a : Option Addr) (l : List UInt8) (cap : Nat) (w0 w : World) (h : CurOk w B a l cap) (hb0 : Below w0.heap.size w0 w) (hB : w0.heap.size ≤ B) :
    Calls Tryz.prog 150 #[.pointer (some ⟨B, 0, none⟩)] w (RetSyC B a l cap w0 w) := by
  have HC1 := Lib.hid (h.alloc (.cells #[.int .i64 0, .slice none 0 0] 25))
  have HB1 := Lib.hid (hb0.alloc hb0.size (.cells #[.int .i64 0, .slice none 0 0] 25))
  have HZ1 := Lib.hid (alloc_at w (.cells #[.int .i64 0, .slice none 0 0] 25))
  have HLT : Hid (B < w.heap.size ∧ w0.heap.size ≤ B) := Lib.hid ⟨h.lt, hB⟩
  have HFR := Lib.hid (curNe h.bytes)
  have hws : (w.alloc (.cells #[.int .i64 0, .slice none 0 0] 25)).heap.size = w.heap.size + 1 := by simp
  have HBE : Hid (∀ W, CurOk W B a l cap → Calls Tryz.prog 85 #[.pointer (some ⟨B, 0, none⟩), .int .i64 12] W fun e w' => ∃ x : Nat, x < 12 ∧ e = .returned (.int .i64 ((x : Nat) : Int)) ∧ CurOk w' B a l cap ∧ W.grownBy w' (some B)) := Lib.hid (fun W hW => l01Below_any B 12 a l cap W hW (by omega) (by omega))
  have HD2 : Hid (∀ W, CurOk W B a l cap → Calls Tryz.prog 43 #[.pointer (some ⟨B, 0, none⟩), .int .i64 2, .int .i64 2] W fun e w' => ∃ s : ByteArray, (allB (letB 2) s = true ∧ s.size ≤ 2) ∧ e = .returned (.string s) ∧ CurOk w' B a l cap ∧ W.grownBy w' (some B)) := Lib.hid (fun W hW => l02Draw_any B 2 2 a l cap W hW (by omega) (by omega) (by omega))
  have HD4 : Hid (∀ W, CurOk W B a l cap → Calls Tryz.prog 43 #[.pointer (some ⟨B, 0, none⟩), .int .i64 2, .int .i64 4] W fun e w' => ∃ s : ByteArray, (allB (letB 2) s = true ∧ s.size ≤ 4) ∧ e = .returned (.string s) ∧ CurOk w' B a l cap ∧ W.grownBy w' (some B)) := Lib.hid (fun W hW => l02Draw_any B 2 4 a l cap W hW (by omega) (by omega) (by omega))
  have HWD : Hid (∀ W, CurOk W B a l cap → Calls Tryz.prog 151 #[.pointer (some ⟨B, 0, none⟩)] W (RetWd B a l cap W)) := Lib.hid (fun W hW => l02Any_any B a l cap W hW)
  have HNR : Hid (∀ W, CurOk W B a l cap → Calls Tryz.prog 111 #[.pointer (some ⟨B, 0, none⟩), .int .i64 1, .int .i64 4] W (RetZR B a l cap W)) := Lib.hid (fun W hW => l01Near_any B a l cap 1 3 W hW (by omega) (by omega))
  have HDR := Lib.hid (l03Draw_o B a l cap w0 (w.alloc (.cells #[.int .i64 0, .slice none 0 0] 25)) HC1.out HB1.out hB)
  clear h hb0
  go_enter Tryz.func150, Tryz.ntmps150
  go_wp2_with fail
  refine HDR.out.mono ?_
  rintro e w3 ⟨k, R, aR, cR, hsP, rfl, hown, hc3, hb3, hg3⟩
  rw [hws] at hown
  have hz3 : w3.heap[w.heap.size]? = some (.cells #[.int .i64 0, .slice none 0 0] 25 (0, 0)) := (hg3.block w.heap.size (by simp) (fun e => by have := Option.some.inj e; have := HLT.out; omega)).trans HZ1.out
  have hs3 : w.heap.size + 1 ≤ w3.heap.size := by have := hg3.size; omega
  have hb4 := alloc_belowS w3 (.cells #[.int .i64 k, .slice aR R.length cR] 25)
  have HY0 : Hid (DrwY B a l cap w0 w w.heap.size (w.heap.size + 1) w3.heap.size (w3.alloc (.cells #[.int .i64 k, .slice aR R.length cR] 25)) k (.slice aR R.length cR) R) := Lib.hid
    ⟨alloc_at _ _, owns_later hown hb4, fun e => by have := (hown.lt _ e).2; omega, hc3.alloc _, block_later hz3 _ hb4, Below.now hb3 hb4, ⟨HLT.out.1, HLT.out.2, by omega, hs3, Nat.le_refl _⟩, grown_alloc (grown_tr (grown_alloc (grown_self w _) _) hg3) _, HFR.out, fun r hr => by have := (hsP.1.2 r hr).1.2; omega, by have := hsP.1.1.2; omega⟩
  have hR12 := hsP.1.1.2
  clear hz3 hs3 hb4 hown hc3 hb3 hg3 HC1 HB1 HZ1 HDR hsP hws
  go_upto_region 2 with fail
  generalize hW4 : w3.alloc (.cells #[.int .i64 k, .slice aR R.length cR] 25) = w4 at *
  generalize hg3 : w3.heap.size = g at *
  generalize hz : w.heap.size = z at *
  generalize hH : z + 1 = H at *
  clear hW4 hg3 hz hH
  go_wp2_with fail
  refine (HBE.out _ HY0.out.cur).mono ?_
  rintro e wr ⟨x, hx, rfl, hc5, hg5⟩
  have HY := Lib.hid (HY0.out.next hc5 hg5)
  have HBW : Hid (B < wr.heap.size) := Lib.hid (by have := HY.out.lt; have := HY.out.glt; omega)
  clear hc5 hg5 HY0 HBE
  by_cases x0 : x = 0
  · subst x0
    clear HD2 HD4 HWD
    go_wp2_with fail
    refine (HNR.out _ HY.out.cur).mono ?_
    rintro e w8 ⟨k9, -, rfl, hc8, hg8⟩
    have HY8 := Lib.hid (HY.out.next hc8 hg8)
    have HY9 := Lib.hid (HY8.out.setK k9)
    obtain ⟨y0, y1, y2, y3⟩ := HY8.out.facts
    clear hc8 hg8 HY
    go_upto_region 9 with fail
    clear y0 y1 y2 y3
    generalize w8.setCell ⟨g, 0, none⟩ (.int .i64 k9) = w9 at *
    have hz5 := HY9.out.zero
    have F := Lib.hid (HY9.out.fin)
    obtain ⟨y0, y1, y2, y3⟩ := HY9.out.facts
    obtain ⟨x0, x1⟩ := sys_cells hz5
    obtain ⟨u0, u1⟩ := sys_cells (set_two hz5 (.int .i64 k9) (.slice aR R.length cR))
    have ff0 : w9.frozen? ⟨z, 0, none⟩ = false := by simp [World.frozen?, hz5]
    have ff1 : w9.frozen? ⟨z, 1, none⟩ = false := by simp [World.frozen?, hz5]
    clear hz5 HY9
    go_wp2_with fail
    refine bodyPost_ret (v := .agg #[.int .i64 k9, .slice aR R.length cR]) ?_ rfl F.out
    simp [results, Tryz.results150, go_sem, u0, u1]
  by_cases x1 : x = 1
  · subst x1
    clear HNR HWD
    go_upto_region 6 with fail
    refine region_tail 8 (fun W => DrwY B a l cap w0 w z H g W k (.slice aR R.length cR) R ∧ wr.heap.size ≤ W.heap.size) (FarR wr.heap.size) (fun u => by simp only [List.take_succ_cons, List.take_zero, fPut, Act.put, List.setIfInBounds_toArray, List.set_cons_succ, List.set_cons_zero, Nat.zero_add, Nat.reduceAdd]; rfl) (by kernel_rfl) (by kernel_rfl) (by kernel_rfl) (by kernel_rfl) (by kernel_rfl) (by kernel_rfl) (by kernel_rfl) (⟨HY.out.later (Below.drew (Below.refl _ _)), Nat.le_refl _⟩) ?_
    conv => arg 7; simp only [List.take_succ_cons, List.take_zero]
    apply each_read (fun _ => farR_refl _ _) rfl
    · intro u wv hC hf
      obtain ⟨z0, z1, z2, z3⟩ := hC.1.facts
      clear hf
      go_simp
      try rfl
    apply each_read (fun _ => farR_refl _ _) rfl
    · intro u wv hC hf
      obtain ⟨z0, z1, z2, z3⟩ := hC.1.facts
      obtain ⟨d0_0, -⟩ := hf
      have e0 : u 0 = _ := d0_0 rfl
      clear d0_0
      go_simp
      try rfl
    conv => arg 8; simp only [List.cons_append, List.nil_append]
    apply each_read (fun _ => farR_refl _ _) rfl
    · intro u wv hC hf
      obtain ⟨z0, z1, z2, z3⟩ := hC.1.facts
      clear hf
      go_simp
      try rfl
    conv => arg 8; simp only [List.cons_append, List.nil_append]
    refine each_call (fun v _ => ∃ s : ByteArray, s.size ≤ 4 ∧ v = .string s) (fun _ _ _ _ _ h => h) rfl ?_ ?_
    · intro u wv hC hf
      obtain ⟨z0, z1, z2, z3⟩ := hC.1.facts
      obtain ⟨d2_0, -⟩ := hf
      have e2 : u 2 = _ := d2_0 rfl
      clear d2_0
      apply Exists.intro; apply Exists.intro; apply And.intro
      · go_simp; exact ⟨rfl, rfl⟩
      · refine (HD2.out _ hC.1.cur).mono ?_
        rintro e w9 ⟨s, ⟨-, hs4⟩, rfl, hc9, hg9⟩
        exact ⟨_, rfl, ⟨hC.1.next hc9 hg9, Nat.le_trans hC.2 hg9.size⟩, farR_grown hg9 HBW.out, s, by omega, rfl⟩
    conv => arg 8; simp only [List.cons_append, List.nil_append]
    apply each_read (fun _ => farR_refl _ _) rfl
    · intro u wv hC hf
      obtain ⟨z0, z1, z2, z3⟩ := hC.1.facts
      clear hf
      go_simp
      try rfl
    conv => arg 8; simp only [List.cons_append, List.nil_append]
    refine each_call (fun v _ => ∃ s : ByteArray, s.size ≤ 4 ∧ v = .string s) (fun _ _ _ _ _ h => h) rfl ?_ ?_
    · intro u wv hC hf
      obtain ⟨z0, z1, z2, z3⟩ := hC.1.facts
      obtain ⟨d4_0, d3_1, -⟩ := hf
      have e4 : u 4 = _ := d4_0 rfl
      clear d4_0
      obtain ⟨s3, hs3, e3⟩ := d3_1 rfl
      apply Exists.intro; apply Exists.intro; apply And.intro
      · go_simp; exact ⟨rfl, rfl⟩
      · refine (HD4.out _ hC.1.cur).mono ?_
        rintro e w9 ⟨s, ⟨-, hs4⟩, rfl, hc9, hg9⟩
        exact ⟨_, rfl, ⟨hC.1.next hc9 hg9, Nat.le_trans hC.2 hg9.size⟩, farR_grown hg9 HBW.out, s, by omega, rfl⟩
    conv => arg 8; simp only [List.cons_append, List.nil_append]
    refine each_do (fun v _ => ∃ x y : ByteArray, (x.size ≤ 25 ∧ y.size ≤ 25) ∧ v = .agg #[.string x, .string y]) (fun _ _ _ _ _ h => h) rfl ?_ ?_
    · intro u wv hC hf
      obtain ⟨z0, z1, z2, z3⟩ := hC.1.facts
      obtain ⟨d3_0, d5_1, -⟩ := hf
      obtain ⟨s3, hs3, e3⟩ := d3_0 rfl
      obtain ⟨s5, hs5, e5⟩ := d5_1 rfl
      refine ⟨.agg #[.string (s3), .string (s5)], wv, ?_, hC, farR_refl _ _, _, _, ⟨by omega, by omega⟩, rfl⟩
      go_simp
      try rfl
    conv => arg 8; simp only [List.cons_append, List.nil_append]
    refine each_do (fun v wv => ∃ (x y : ByteArray) (g4 : Nat), ((x.size ≤ 25 ∧ y.size ≤ 25) ∧ wr.heap.size ≤ g4) ∧ v = .slice (some ⟨g4, 0, none⟩) 1 1 ∧ wv.heap[g4]? = some (.cells #[.string x, .string y] 120 (0, 0))) (fun v w w2 _ hR ⟨x, y, g, h0, h1, h2⟩ => ⟨x, y, g, h0, h1, hR g _ h0.2 h2⟩) rfl ?_ ?_
    · intro u wv hC hf
      obtain ⟨z0, z1, z2, z3⟩ := hC.1.facts
      obtain ⟨d6_0, -⟩ := hf
      obtain ⟨q1, q2, hqs, e6⟩ := d6_0 rfl
      refine ⟨.slice (some ⟨wv.heap.size, 0, none⟩) 1 1, wv.alloc (.cells #[.string q1, .string q2] 120), ?_, ⟨hC.1.later (alloc_belowS _ _), Nat.le_trans hC.2 (alloc_belowS wv _).size⟩, farR_below (alloc_belowS _ _), q1, q2, wv.heap.size, ⟨hqs, hC.2⟩, rfl, alloc_at wv _⟩
      go_simp
      try rfl
    intro u w7 d7 hall
    obtain ⟨a0, a1, a2, a3, a4, a5, a6, a7, -⟩ := hall
    have e0 : u 0 = _ := a0
    clear a0
    have e1 : u 1 = _ := a1
    clear a1
    have e2 : u 2 = _ := a2
    clear a2
    obtain ⟨s3, hs3, e3⟩ := a3
    replace e3 : u 3 = _ := e3
    have e4 : u 4 = _ := a4
    clear a4
    obtain ⟨s5, hs5, e5⟩ := a5
    replace e5 : u 5 = _ := e5
    obtain ⟨q1, q2, hqs, e6⟩ := a6
    replace e6 : u 6 = _ := e6
    obtain ⟨p1, p2, g4, ⟨hps, hg4⟩, e7, b4⟩ := a7
    replace e7 : u 7 = _ := e7
    change wpList _ _ _ (List.drop 8 _) _ _
    simp only [List.drop_succ_cons, List.drop_zero]
    simp only [e0, e1, e2, e3, e4, e5, e6, e7]
    clear e0 e1 e2 e3 e4 e5 e6 e7
    have HR7 := Lib.hid d7.1
    clear d7
    obtain ⟨hp1, hp2⟩ := hps
    refine wpList_appB rfl (.tmp 16) (.tmp 22) rfl Tryz.underlying23 Tryz.infoRule rfl (by decide) rfl HR7.out.own HR7.out.hs rfl (m := 1) (news := [.string p1, .string p2]) (fun i u hu => by
      match i, hu with
      | 0, hu =>
        obtain rfl := Option.some.inj hu
        rw [add_off]
        simp [World.cell?, b4]
      | 1, hu =>
        obtain rfl := Option.some.inj hu
        rw [add_off]
        simp [World.cell?, b4]
      | i + 2, hu => cases hu) rfl (by decide) (fun u hu => by simp at hu; rcases hu with rfl | rfl <;> rfl) (by have := HR7.out.len; unfold maxLen; omega) (by have := HR7.out.len; omega) ?_
    intro g5 c5 w9 hn9 hg9 hr9
    obtain ⟨q0, q1, q2, q3⟩ := HR7.out.grown hg9
    have HRN := Lib.hid (HR7.out.put (p := (p1, p2)) ⟨hp1, hp2⟩ hg9 hn9 hr9 hR12)
    clear hn9 hg9 b4
    go_upto_region 9 with fail
    clear q0 q1 q2 q3
    generalize w9.setCell ⟨g, 1, none⟩ (.slice (some ⟨g5, 0, none⟩) (R.length + 1) c5) = w10 at *
    have hlen : R.length + 1 = (R ++ [(p1, p2)]).length := by rw [List.length_append]; rfl
    have HY9 : Hid (DrwY B a l cap w0 w z H g w10 k (.slice (some ⟨g5, 0, none⟩) (R ++ [(p1, p2)]).length c5) (R ++ [(p1, p2)])) := Lib.hid (by rw [← hlen]; exact HRN.out)
    generalize (R ++ [(p1, p2)]) = R9 at *
    clear HRN
    have hz5 := HY9.out.zero
    have F := Lib.hid (HY9.out.fin)
    obtain ⟨y0, y1, y2, y3⟩ := HY9.out.facts
    obtain ⟨x0, x1⟩ := sys_cells hz5
    obtain ⟨u0, u1⟩ := sys_cells (set_two hz5 (.int .i64 k) (.slice (some ⟨g5, 0, none⟩) R9.length c5))
    have ff0 : w10.frozen? ⟨z, 0, none⟩ = false := by simp [World.frozen?, hz5]
    have ff1 : w10.frozen? ⟨z, 1, none⟩ = false := by simp [World.frozen?, hz5]
    clear hz5 HY9
    go_wp2_with fail
    refine bodyPost_ret (v := .agg #[.int .i64 k, .slice (some ⟨g5, 0, none⟩) R9.length c5]) ?_ rfl F.out
    simp [results, Tryz.results150, go_sem, u0, u1]
  by_cases x2 : x = 2
  · subst x2
    clear HNR HD2 HD4
    go_upto_region 8 with fail
    refine region_tail 7 (fun W => DrwY B a l cap w0 w z H g W k (.slice aR R.length cR) R ∧ wr.heap.size ≤ W.heap.size) (FarR wr.heap.size) (fun u => by simp only [List.take_succ_cons, List.take_zero, fPut, Act.put, List.setIfInBounds_toArray, List.set_cons_succ, List.set_cons_zero, Nat.zero_add, Nat.reduceAdd]; rfl) (by kernel_rfl) (by kernel_rfl) (by kernel_rfl) (by kernel_rfl) (by kernel_rfl) (by kernel_rfl) (by kernel_rfl) (⟨HY.out.later (Below.drew (Below.refl _ _)), Nat.le_refl _⟩) ?_
    conv => arg 7; simp only [List.take_succ_cons, List.take_zero]
    apply each_read (fun _ => farR_refl _ _) rfl
    · intro u wv hC hf
      obtain ⟨z0, z1, z2, z3⟩ := hC.1.facts
      clear hf
      go_simp
      try rfl
    apply each_read (fun _ => farR_refl _ _) rfl
    · intro u wv hC hf
      obtain ⟨z0, z1, z2, z3⟩ := hC.1.facts
      obtain ⟨d0_0, -⟩ := hf
      have e0 : u 0 = _ := d0_0 rfl
      clear d0_0
      go_simp
      try rfl
    conv => arg 8; simp only [List.cons_append, List.nil_append]
    apply each_read (fun _ => farR_refl _ _) rfl
    · intro u wv hC hf
      obtain ⟨z0, z1, z2, z3⟩ := hC.1.facts
      clear hf
      go_simp
      try rfl
    conv => arg 8; simp only [List.cons_append, List.nil_append]
    refine each_call (fun v _ => ∃ s : ByteArray, s.size ≤ 24 ∧ v = .string s) (fun _ _ _ _ _ h => h) rfl ?_ ?_
    · intro u wv hC hf
      obtain ⟨z0, z1, z2, z3⟩ := hC.1.facts
      obtain ⟨d2_0, -⟩ := hf
      have e2 : u 2 = _ := d2_0 rfl
      clear d2_0
      apply Exists.intro; apply Exists.intro; apply And.intro
      · go_simp; exact ⟨rfl, rfl⟩
      · refine (HWD.out _ hC.1.cur).mono ?_
        rintro e w9 ⟨s, hs4, rfl, hc9, hg9⟩
        exact ⟨_, rfl, ⟨hC.1.next hc9 hg9, Nat.le_trans hC.2 hg9.size⟩, farR_grown hg9 HBW.out, s, by omega, rfl⟩
    conv => arg 8; simp only [List.cons_append, List.nil_append]
    refine each_do (fun v _ => ∃ s : ByteArray, s.size ≤ 25 ∧ v = .string s) (fun _ _ _ _ _ h => h) rfl ?_ ?_
    · intro u wv hC hf
      obtain ⟨z0, z1, z2, z3⟩ := hC.1.facts
      obtain ⟨d3_0, -⟩ := hf
      obtain ⟨s3, hs3, e3⟩ := d3_0 rfl
      have hA : ¬ 9223372036854775807 < s3.size + 1 := by omega
      refine ⟨.string (s3 ++ ⟨#[97]⟩), wv, ?_, hC, farR_refl _ _, _, by rw [ByteArray.size_append]; show s3.size + 1 ≤ 25; omega, rfl⟩
      go_simp
      try rfl
    conv => arg 8; simp only [List.cons_append, List.nil_append]
    refine each_do (fun v _ => ∃ x y : ByteArray, (x.size ≤ 25 ∧ y.size ≤ 25) ∧ v = .agg #[.string x, .string y]) (fun _ _ _ _ _ h => h) rfl ?_ ?_
    · intro u wv hC hf
      obtain ⟨z0, z1, z2, z3⟩ := hC.1.facts
      obtain ⟨d4_0, -⟩ := hf
      obtain ⟨s4, hs4, e4⟩ := d4_0 rfl
      refine ⟨.agg #[.string (s4), .string (⟨#[97]⟩)], wv, ?_, hC, farR_refl _ _, _, _, ⟨hs4, by decide⟩, rfl⟩
      go_simp
      try rfl
    conv => arg 8; simp only [List.cons_append, List.nil_append]
    refine each_do (fun v wv => ∃ (x y : ByteArray) (g4 : Nat), ((x.size ≤ 25 ∧ y.size ≤ 25) ∧ wr.heap.size ≤ g4) ∧ v = .slice (some ⟨g4, 0, none⟩) 1 1 ∧ wv.heap[g4]? = some (.cells #[.string x, .string y] 120 (0, 0))) (fun v w w2 _ hR ⟨x, y, g, h0, h1, h2⟩ => ⟨x, y, g, h0, h1, hR g _ h0.2 h2⟩) rfl ?_ ?_
    · intro u wv hC hf
      obtain ⟨z0, z1, z2, z3⟩ := hC.1.facts
      obtain ⟨d5_0, -⟩ := hf
      obtain ⟨q1, q2, hqs, e5⟩ := d5_0 rfl
      refine ⟨.slice (some ⟨wv.heap.size, 0, none⟩) 1 1, wv.alloc (.cells #[.string q1, .string q2] 120), ?_, ⟨hC.1.later (alloc_belowS _ _), Nat.le_trans hC.2 (alloc_belowS wv _).size⟩, farR_below (alloc_belowS _ _), q1, q2, wv.heap.size, ⟨hqs, hC.2⟩, rfl, alloc_at wv _⟩
      go_simp
      try rfl
    intro u w7 d7 hall
    obtain ⟨a0, a1, a2, a3, a4, a5, a6, -⟩ := hall
    have e0 : u 0 = _ := a0
    clear a0
    have e1 : u 1 = _ := a1
    clear a1
    have e2 : u 2 = _ := a2
    clear a2
    obtain ⟨s3, hs3, e3⟩ := a3
    replace e3 : u 3 = _ := e3
    obtain ⟨s4, hs4, e4⟩ := a4
    replace e4 : u 4 = _ := e4
    obtain ⟨q1, q2, hqs, e5⟩ := a5
    replace e5 : u 5 = _ := e5
    obtain ⟨p1, p2, g4, ⟨hps, hg4⟩, e6, b4⟩ := a6
    replace e6 : u 6 = _ := e6
    change wpList _ _ _ (List.drop 7 _) _ _
    simp only [List.drop_succ_cons, List.drop_zero]
    simp only [e0, e1, e2, e3, e4, e5, e6]
    clear e0 e1 e2 e3 e4 e5 e6
    have HR7 := Lib.hid d7.1
    clear d7
    obtain ⟨hp1, hp2⟩ := hps
    refine wpList_appB rfl (.tmp 28) (.tmp 33) rfl Tryz.underlying23 Tryz.infoRule rfl (by decide) rfl HR7.out.own HR7.out.hs rfl (m := 1) (news := [.string p1, .string p2]) (fun i u hu => by
      match i, hu with
      | 0, hu =>
        obtain rfl := Option.some.inj hu
        rw [add_off]
        simp [World.cell?, b4]
      | 1, hu =>
        obtain rfl := Option.some.inj hu
        rw [add_off]
        simp [World.cell?, b4]
      | i + 2, hu => cases hu) rfl (by decide) (fun u hu => by simp at hu; rcases hu with rfl | rfl <;> rfl) (by have := HR7.out.len; unfold maxLen; omega) (by have := HR7.out.len; omega) ?_
    intro g5 c5 w9 hn9 hg9 hr9
    obtain ⟨q0, q1, q2, q3⟩ := HR7.out.grown hg9
    have HRN := Lib.hid (HR7.out.put (p := (p1, p2)) ⟨hp1, hp2⟩ hg9 hn9 hr9 hR12)
    clear hn9 hg9 b4
    go_upto_region 9 with fail
    clear q0 q1 q2 q3
    generalize w9.setCell ⟨g, 1, none⟩ (.slice (some ⟨g5, 0, none⟩) (R.length + 1) c5) = w10 at *
    have hlen : R.length + 1 = (R ++ [(p1, p2)]).length := by rw [List.length_append]; rfl
    have HY9 : Hid (DrwY B a l cap w0 w z H g w10 k (.slice (some ⟨g5, 0, none⟩) (R ++ [(p1, p2)]).length c5) (R ++ [(p1, p2)])) := Lib.hid (by rw [← hlen]; exact HRN.out)
    generalize (R ++ [(p1, p2)]) = R9 at *
    clear HRN
    have hz5 := HY9.out.zero
    have F := Lib.hid (HY9.out.fin)
    obtain ⟨y0, y1, y2, y3⟩ := HY9.out.facts
    obtain ⟨x0, x1⟩ := sys_cells hz5
    obtain ⟨u0, u1⟩ := sys_cells (set_two hz5 (.int .i64 k) (.slice (some ⟨g5, 0, none⟩) R9.length c5))
    have ff0 : w10.frozen? ⟨z, 0, none⟩ = false := by simp [World.frozen?, hz5]
    have ff1 : w10.frozen? ⟨z, 1, none⟩ = false := by simp [World.frozen?, hz5]
    clear hz5 HY9
    go_wp2_with fail
    refine bodyPost_ret (v := .agg #[.int .i64 k, .slice (some ⟨g5, 0, none⟩) R9.length c5]) ?_ rfl F.out
    simp [results, Tryz.results150, go_sem, u0, u1]
  have y0 : (((x : Nat) : Int) == 0) = false := by rw [beq_eq_false_iff_ne]; omega
  have y1 : (((x : Nat) : Int) == 1) = false := by rw [beq_eq_false_iff_ne]; omega
  have y2 : (((x : Nat) : Int) == 2) = false := by rw [beq_eq_false_iff_ne]; omega
  clear x0 x1 x2 HD2 HD4 HWD HNR
  go_upto_region 9 with fail
  clear y0 y1 y2
  have HY9 := HY
  clear HY
  have hz5 := HY9.out.zero
  have F := Lib.hid (HY9.out.fin)
  obtain ⟨y0, y1, y2, y3⟩ := HY9.out.facts
  obtain ⟨x0, x1⟩ := sys_cells hz5
  obtain ⟨u0, u1⟩ := sys_cells (set_two hz5 (.int .i64 k) (.slice aR R.length cR))
  have ff0 : wr.frozen? ⟨z, 0, none⟩ = false := by simp [World.frozen?, hz5]
  have ff1 : wr.frozen? ⟨z, 1, none⟩ = false := by simp [World.frozen?, hz5]
  clear hz5 HY9
  go_wp2_with fail
  refine bodyPost_ret (v := .agg #[.int .i64 k, .slice aR R.length cR]) ?_ rfl F.out
  simp [results, Tryz.results150, go_sem, u0, u1]
end Go.Proofs.YtoddpmdjjgnpgaaGreatDoor
namespace Go.Proofs.YtoddpmdjjgnpgaaGreatDoor
open Go.RowKit
set_option linter.unusedVariables false
/-- some word and a truth value -/
def RetWB (w : World) (e : Ending) (w' : World) : Prop := ∃ (s : ByteArray) (b : Bool), s.size ≤ 16 ∧ e = .returned (.tuple #[.string s, .bool b]) ∧ Below w.heap.size w w'
theorem RetWB.zero {w w' : World} (h : Below w.heap.size w w') : RetWB w (.returned (.tuple #[.string ⟨#[]⟩, .bool false])) w' := ⟨⟨#[]⟩, false, Nat.zero_le _, rfl, h⟩
theorem replF_sizeC {w0 by_ : ByteArray} {i l : Nat} (h : i + l ≤ w0.size) : (replF w0 i l by_).size = w0.size - l + by_.size := by
  unfold replF
  rw [ByteArray.size_append, ByteArray.size_append, ByteArray.size_extract, ByteArray.size_extract]
  omega
set_option maxHeartbeats 400000 in
theorem specReplaceAt_c (w0 by_ : ByteArray) (i l : Nat) (w : World) (h1 : i + l ≤ w0.size) (hz : w0.size ≤ 1000) (hy : by_.size ≤ 1000) :
    Calls Tryz.prog 153 #[.string w0, .int .i64 (i : Nat), .int .i64 (l : Nat), .string by_] w (RetWB w) := by
  by_cases h2 : w0.size - l + by_.size ≤ 16
  · exact (specReplaceAt_ok w0 by_ i l w h1 h2 hz hy).mono fun e w' ⟨he, hb⟩ => ⟨_, true, by rw [replF_sizeC h1]; exact h2, he, hb⟩
  · have F := Lib.hid (RetWB.zero (Below.refl w.heap.size w))
    have g1 : ¬ (i : Int) < 0 := by omega
    have g2 : ¬ (l : Int) < 0 := by omega
    have g3 : ¬ (w0.size : Int) < (i : Int) := by omega
    have g4 : ¬ (w0.size : Int) - (i : Int) < (l : Int) := by omega
    have g5 : (16 : Int) < (w0.size : Int) - (l : Int) + (by_.size : Int) := by omega
    clear h2
    go_enter Tryz.func153, Tryz.ntmps153
    go_wp2_with fail
    refine bodyPost_ret (v := .tuple #[.string ⟨#[]⟩, .bool false]) ?_ rfl F.out
    simp [results, Tryz.results153, go_sem]
theorem l06SwapA_any (x y : ByteArray) (w : World) : Calls Tryz.prog 152 #[.string x, .string y] w fun e w' => e = .returned (.tuple #[.string y, .string x]) ∧ w = w' := by
  go_enter Tryz.func152, Tryz.ntmps152
  go_wp2_with fail
  refine bodyPost_ret (v := .tuple #[.string y, .string x]) ?_ rfl ⟨rfl, rfl⟩
  simp [results, Tryz.results152, go_sem]
theorem link_cells {W : World} {B : Nat} {x y z : Value} {T : TypeId} (h : W.heap[B]? = some (.cells #[x, y, z] T (0, 0))) : W.cell? ⟨B, 0, none⟩ = some x ∧ W.cell? ⟨B, 1, none⟩ = some y ∧ W.cell? ⟨B, 2, none⟩ = some z := by
  refine ⟨by simp [World.cell?, h], by simp [World.cell?, h], by simp [World.cell?, h]⟩
set_option maxRecDepth 20000 in
set_option maxHeartbeats 4000000 in
theorem specApplyLink_c (k : Int) (R : List RulD) (aR : Option Addr) (cR : Nat) (s : ByteArray) (i p : Int) (bk : Bool) (w : World) (hR : RulesIn w aR R) (hlen : R.length ≤ 2 ^ 40) (hz : SzR R) (hs : s.size ≤ 1000) :
    Calls Tryz.prog 110 #[.agg #[.int .i64 k, .slice aR R.length cR], .string s, .agg #[.int .i64 i, .int .i64 p, .bool bk]] w (RetWB w) := by
  obtain ⟨w1, hw1⟩ : ∃ w1, (w.alloc (.cells #[.int .i64 k, .slice aR R.length cR] 25)).alloc (.cells #[.int .i64 i, .int .i64 p, .bool bk] 114) = w1 := ⟨_, rfl⟩
  have HB1 : Hid (Below w.heap.size w w1) := Lib.hid (by rw [← hw1]; exact ((Below.refl _ _).alloc (Nat.le_refl _) _).alloc (by simp) _)
  have HR1 := Lib.hid (hR.later HB1.out)
  have HRO := Lib.hid (fun W h => specRulesOk_any k R aR cR W h hlen hz)
  have b0 : w1.heap[w.heap.size]? = some (.cells #[.int .i64 k, .slice aR R.length cR] 25 (0, 0)) := by
    rw [← hw1, (alloc_belowS _ _).block _ (by simp)]; exact alloc_at _ _
  have b1 : w1.heap[w.heap.size + 1]? = some (.cells #[.int .i64 i, .int .i64 p, .bool bk] 114 (0, 0)) := by
    rw [← hw1]; have h := alloc_at (w.alloc (.cells #[.int .i64 k, .slice aR R.length cR] 25)) (.cells #[.int .i64 i, .int .i64 p, .bool bk] 114); simpa using h
  have HX0 := Lib.hid b0
  have HX1 := Lib.hid b1
  clear hR hz
  obtain ⟨x0, x1⟩ := sys_cells b0
  obtain ⟨y0, y1, y2⟩ := link_cells b1
  clear b0 b1
  have HI := Lib.hid (fun W => l01In_any i 0 ((R.length : Int) - 1) W)
  have HP := Lib.hid (fun W => l01In_any p 0 (s.size : Int) W)
  go_enter Tryz.func110, Tryz.ntmps110
  go_upto_region 1 with fail
  generalize (w.alloc (.cells #[.int .i64 k, .slice aR R.length cR] 25)).alloc (.cells #[.int .i64 i, .int .i64 p, .bool bk] 114) = wg at *
  subst hw1
  go_wp2_with fail
  refine (HRO.out _ HR1.out).mono ?_
  rintro e w2 ⟨bb, hbb, rfl, hb2⟩
  have HB2 := Lib.hid (Below.now HB1.out hb2)
  have HR2 := Lib.hid (HR1.out.later hb2)
  have HX2 := Lib.hid (block_later HX0.out _ hb2)
  have HY2 := Lib.hid (block_later HX1.out _ hb2)
  have HBB := Lib.hid hbb
  have HF2 := Lib.hid (RetWB.zero HB2.out)
  clear x0 x1 y0 y1 y2 hb2 hbb HB1 HR1 HX0 HX1 HRO
  obtain ⟨x0, x1⟩ := sys_cells HX2.out
  obtain ⟨y0, y1, y2⟩ := link_cells HY2.out
  cases bb
  · go_wp2_with fail
    refine bodyPost_ret (v := .tuple #[.string ⟨#[]⟩, .bool false]) ?_ rfl HF2.out
    simp [results, Tryz.results110, go_sem]
  · have HRP := Lib.hid (HBB.out.1 rfl)
    have h12 := HRP.out.1.2
    cases hi : inB i 0 ((R.length : Int) - 1)
    · rw [hi] at HI
      clear hi
      go_wp2_with fail
      refine (HI.out _).mono ?_
      rintro e w3 ⟨rfl, rfl⟩
      go_wp2_with fail
      refine bodyPost_ret (v := .tuple #[.string ⟨#[]⟩, .bool false]) ?_ rfl HF2.out
      simp [results, Tryz.results110, go_sem]
    · have hib := inB_bounds hi
      rw [hi] at HI
      clear hi
      cases hp : inB p 0 (s.size : Int)
      · rw [hp] at HP
        clear hp
        go_wp2_with fail
        refine (HI.out _).mono ?_
        rintro e w3 ⟨rfl, rfl⟩
        go_wp2_with fail
        refine (HP.out _).mono ?_
        rintro e w3 ⟨rfl, rfl⟩
        go_wp2_with fail
        refine bodyPost_ret (v := .tuple #[.string ⟨#[]⟩, .bool false]) ?_ rfl HF2.out
        simp [results, Tryz.results110, go_sem]
      · have hpb := inB_bounds hp
        rw [hp] at HP
        clear hp
        obtain ⟨n, rfl⟩ : ∃ n : Nat, i = (n : Int) := ⟨i.toNat, by omega⟩
        obtain ⟨q, rfl⟩ : ∃ q : Nat, p = (q : Int) := ⟨p.toNat, by omega⟩
        have hn : n < R.length := by omega
        have hq : q ≤ s.size := by omega
        obtain ⟨b, off, rfl, hb, hc⟩ := HR2.out.cell hn
        obtain ⟨c1, c2⟩ := hc n hn
        have hz2 := (HRP.out.2 _ (nthR_mem hn)).1.2
        have hni : ¬ (n : Int) < 0 := by omega
        have hnj : (n : Int) < (R.length : Int) := by omega
        clear hc hib hpb
        generalize (nthR R n).1 = x at *
        generalize (nthR R n).2 = y at *
        obtain ⟨hzx, hzy⟩ := hz2
        go_wp2_with fail
        refine (HI.out _).mono ?_
        rintro e w3 ⟨rfl, rfl⟩
        go_wp2_with fail
        refine (HP.out _).mono ?_
        rintro e w3 ⟨rfl, rfl⟩
        go_upto_if 46 with fail
        go_cut [8, 9] (fun u v wx => ∃ f t : ByteArray, (f.size ≤ 8 ∧ t.size ≤ 8) ∧ u = .string f ∧ v = .string t ∧ wx = w2)
        case first =>
          cases bk
          · go_wp2_with fail
            go_meet
            exact ⟨x, y, ⟨hzx, hzy⟩, rfl, rfl, rfl⟩
          · go_wp2_with fail
            refine (l06SwapA_any x y _).mono ?_
            rintro e w3 ⟨rfl, rfl⟩
            go_wp2_with fail
            go_meet
            exact ⟨y, x, ⟨hzy, hzx⟩, rfl, rfl, rfl⟩
        case rest =>
          obtain ⟨f, t, ⟨hf, ht⟩, rfl, rfl, rfl⟩ := hcut
          clear c1 c2 x0 x1 hzx hzy
          by_cases h7 : q + f.size ≤ s.size
          · have g1 : ¬ (s.size : Int) - (q : Int) < (f.size : Int) := by omega
            have s1 : (q : Int) + (f.size : Int) ≤ (s.size : Int) := by omega
            have s2 : q + f.size ≤ s.size := h7
            have s3 : q ≤ s.size := hq
            have s4 : q ≤ q + f.size := by omega
            have s5 : (q : Int) ≤ (q : Int) + (f.size : Int) := by omega
            have HRA := Lib.hid (fun W => specReplaceAt_c s t q f.size W h7 hs (by omega))
            cases hq8 : ((s.extract q (q + f.size)).toList == f.toList)
            · go_wp2_with fail
              refine bodyPost_ret (v := .tuple #[.string ⟨#[]⟩, .bool false]) ?_ rfl HF2.out
              simp [results, Tryz.results110, go_sem]
            · go_wp2_with fail
              refine (HRA.out _).mono ?_
              rintro e w4 ⟨z, bz, hz4, rfl, hb4⟩
              have F : Hid (RetWB w (.returned (.tuple #[.string z, .bool bz])) w4) := Lib.hid ⟨z, bz, hz4, rfl, Below.now HB2.out hb4⟩
              clear hb4
              go_wp2_with fail
              refine bodyPost_ret (v := .tuple #[.string z, .bool bz]) ?_ rfl F.out
              simp [results, Tryz.results110, go_sem]
          · have g1 : (s.size : Int) - (q : Int) < (f.size : Int) := by omega
            go_wp2_with fail
            refine bodyPost_ret (v := .tuple #[.string ⟨#[]⟩, .bool false]) ?_ rfl HF2.out
            simp [results, Tryz.results110, go_sem]
end Go.Proofs.YtoddpmdjjgnpgaaGreatDoor
