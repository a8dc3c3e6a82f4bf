/-
  The table that the reference draws: that of a complete system, or a fixed one.
-/
import Derived.Test.YtmgdglghjlggnaaGreatGway24
import Derived.Test.YtmgdglghjlggnaaGreatGway28
import Derived.Test.YtmgdglghjlggnaaGreatGway29
import Derived.Test.YtmgdglghjlggnaaGreatGway22
namespace Go.Proofs.YtmgdglghjlggnaaGreat
open Go.RowKit
set_option linter.unusedVariables false
/-- a valid table in memory, its products in a row of its own -/
def TabV (base : Nat) (w : World) (v : Value) : Prop := ∃ (m : Nat) (l : List Int) (a : Option Addr) (cap : Nat), TabG m l ∧ v = .agg #[.int .i64 (m : Nat), .slice a l.length cap] ∧ w.ownsRow base 3 1 (.slice a l.length cap) l.length (intVals l)
theorem TabV.later {base : Nat} {w w' : World} {v : Value} (h : TabV base w v) (hb : Below w.heap.size w w') : TabV base w' v := by
  obtain ⟨m, l, a, cap, h1, h2, h3⟩ := h
  exact ⟨m, l, a, cap, h1, h2, owns_later h3 hb⟩
theorem TabV.down {base base' : Nat} {w : World} {v : Value} (h : TabV base w v) (hb : base' ≤ base) : TabV base' w v := by
  obtain ⟨m, l, a, cap, h1, h2, h3⟩ := h
  exact ⟨m, l, a, cap, h1, h2, owns_mono h3 hb⟩
theorem TabG.two : TabG 2 [0, 1, 1, 1] := by
  refine ⟨[0, 1, 1, 1], rfl, ⟨by decide, by decide, by decide, by decide⟩, by decide, by decide, ?_⟩
  have h : ∀ i, i < 2 → ∀ j, j < 2 → ∀ k, k < 2 → tm 2 [0, 1, 1, 1] (tm 2 [0, 1, 1, 1] i j) k = tm 2 [0, 1, 1, 1] i (tm 2 [0, 1, 1, 1] j k) := by decide
  exact fun i j k hi hj hk => h i hi j hj k hk
theorem TabV.mon {k : Int} {R : List RulD} {w' : World} {L : List ByteArray} {P : List Int} {base : Nat} {aP : Option Addr} {cP : Nat} (h : MonIs k R L P true) (ho : w'.ownsRow base 3 1 (.slice aP P.length cP) P.length (intVals P)) :
    TabV base w' (.agg #[.int .i64 (L.length : Nat), .slice aP P.length cP]) := by
  obtain ⟨ln, h1, h2, _⟩ := mon_table h
  exact ⟨L.length, P, aP, cP, ⟨ln, h1, h2⟩, rfl, ho⟩
theorem TabV.lit (w : World) : TabV w.heap.size (w.alloc (.cells #[.int .i64 0, .int .i64 1, .int .i64 1, .int .i64 1] 3)) (.agg #[.int .i64 2, .slice (some ⟨w.heap.size, 0, none⟩) 4 4]) :=
  ⟨2, [0, 1, 1, 1], some ⟨w.heap.size, 0, none⟩, 4, TabG.two, rfl, World.ownsRow_lit w #[.int .i64 0, .int .i64 1, .int .i64 1, .int .i64 1] 4 (Nat.le_refl _) (by unfold maxLen; omega) rfl⟩
def tabLits : List ByteArray := [⟨#[49, 32, 97, 97, 97, 62, 46]⟩, ⟨#[49, 32, 97, 97, 97, 97, 62, 97, 97]⟩, ⟨#[50, 32, 97, 97, 62, 46, 32, 98, 98, 62, 46, 32, 98, 97, 62, 97, 98]⟩, ⟨#[50, 32, 97, 97, 62, 46, 32, 98, 98, 62, 46, 32, 98, 97, 98, 62, 97, 98, 97]⟩, ⟨#[50, 32, 97, 97, 62, 97, 32, 98, 98, 62, 98, 32, 98, 97, 62, 97, 98]⟩, ⟨#[50, 32, 97, 97, 62, 97, 32, 97, 98, 62, 97, 32, 98, 97, 62, 98, 32, 98, 98, 62, 98]⟩, ⟨#[49]⟩, ⟨#[49, 32, 97, 97, 62, 97]⟩, ⟨#[50, 32, 97, 97, 97, 62, 46, 32, 98, 98, 62, 46, 32, 97, 97, 98, 62, 98, 97, 32, 97, 98, 97, 62, 98, 32, 98, 97, 97, 62, 97, 98, 32, 98, 97, 98, 62, 97, 97]⟩, ⟨#[50, 32, 97, 97, 62, 46, 32, 98, 98, 98, 62, 46, 32, 97, 98, 98, 62, 98, 97, 32, 97, 98, 97, 62, 98, 98, 32, 98, 97, 98, 62, 97, 32, 98, 98, 97, 62, 97, 98]⟩, ⟨#[50, 32, 97, 97, 62, 97, 32, 98, 98, 62, 98, 32, 97, 98, 97, 62, 97, 98, 32, 98, 97, 98, 62, 97, 98]⟩]
theorem tabLits_size : ∀ i, i < tabLits.length → (nthS tabLits i).size ≤ 100 := by decide
/-- the box of the result behind a call -/
theorem alloc_belowT (w : World) (o : Obj) : Below w.heap.size w (w.alloc o) := (Below.refl _ _).alloc (Nat.le_refl _) o
theorem grown_ofB {w w1 w2 : World} {B : Nat} (h : w.grownBy w1 (some B)) (hb : Below w1.heap.size w1 w2) : w.grownBy w2 (some B) :=
  grown_tr h ⟨hb.os, hb.tape, hb.output, hb.size, fun k hk _ => hb.block k hk⟩
theorem grown_set2 {w w1 : World} {B g o : Nat} {v : Value} (h : w.grownBy w1 (some B)) (hg : w.heap.size ≤ g) : w.grownBy (w1.setCell ⟨g, o, none⟩ v) (some B) := by
  have hszc : (w1.setCell ⟨g, o, none⟩ v).heap.size = w1.heap.size := by simp
  exact ⟨h.os, h.tape, h.output, by rw [hszc]; exact h.size, fun k hk hne => by
    unfold World.setCell
    rw [Array.getElem?_modify, if_neg (fun e : g = k => by omega)]; exact h.block k hk hne⟩
theorem CurAt.set {w : World} {B : Nat} {a : Option Addr} {n cap g o : Nat} {v : Value} (h : CurAt w B a n cap) (hg : B ≠ g) : CurAt (w.setCell ⟨g, o, none⟩ v) B a n cap := by
  obtain ⟨i, hh, h1, h2⟩ := h
  exact ⟨i, hh, by
    unfold World.setCell
    rw [Array.getElem?_modify, if_neg (fun e : g = B => hg e.symm)]; exact h1, h2⟩
theorem IntsIn.setFar {w : World} {a : Option Addr} {l : List Int} {x : Value} {g o base : Nat} (h3 : IntsIn w a l) (h5 : ∀ x, a = some x → base ≤ x.block) (hg : g < base) : IntsIn (w.setCell ⟨g, o, none⟩ x) a l := by
  rcases h3 with h3 | ⟨b, off, ha, hc⟩
  · exact .inl h3
  · refine .inr ⟨b, off, ha, fun i hi => ?_⟩
    have hb : base ≤ b := h5 _ ha
    have e : (w.setCell ⟨g, o, none⟩ x).heap[b]? = w.heap[b]? := by
      unfold World.setCell
      rw [Array.getElem?_modify, if_neg (fun e : g = b => by omega)]
    rw [World.cell?_of_block (w := w) e]
    exact hc i hi
theorem TabV.set {w : World} {v x : Value} {g o base : Nat} (h : TabV base w v) (hg : g < base) : TabV base (w.setCell ⟨g, o, none⟩ x) v := by
  obtain ⟨m, l, a, cap, h1, rfl, h3⟩ := h
  exact ⟨m, l, a, cap, h1, rfl, ownsRow_setCell_below h3 hg x⟩
/-- what a table's draw leaves -/
def RetTV (B : Nat) (a : Option Addr) (l : List UInt8) (cap : Nat) (w : World) (e : Ending) (w' : World) : Prop := ∃ v, e = .returned v ∧ TabV (w.heap.size + 1) w' v ∧ CurOk w' B a l cap ∧ w.grownBy w' (some B)
theorem tv_box {w w1 : World} {B : Nat} {o : Obj} (hg : (w.alloc o).grownBy w1 (some B)) (hB : B < w.heap.size) : w1.heap[w.heap.size]? = some o :=
  (hg.block w.heap.size (by simp) (fun e => by have := Option.some.inj e; omega)).trans (alloc_at w o)
theorem box_sets {W : World} {g : Nat} {x y : Value} {T : TypeId} (h : W.heap[g]? = some (.cells #[x, y] T (0, 0))) (u v : Value) : (W.frozen? ⟨g, 0, none⟩ = false ∧ W.frozen? ⟨g, 1, none⟩ = false) ∧ (((W.setCell ⟨g, 0, none⟩ u).setCell ⟨g, 1, none⟩ v).cell? ⟨g, 0, none⟩ = some u ∧ ((W.setCell ⟨g, 0, none⟩ u).setCell ⟨g, 1, none⟩ v).cell? ⟨g, 1, none⟩ = some v) ∧ W.cell? ⟨g, 0, none⟩ = some x ∧ W.cell? ⟨g, 1, none⟩ = some y :=
  ⟨⟨by simp [World.frozen?, h], by simp [World.frozen?, h]⟩, sys_cells (set_two h u v), sys_cells h⟩
/-- a literal row of strings is drawn from: the row in the walk's own form -/
theorem strLit_arr (B : Nat) (a : Option Addr) (l : List UInt8) (cap : Nat) (ls : List ByteArray) (arr : Array Value) (n g : Nat) (w : World) (h : CurOk w B a l cap) (hg : w.heap.size = g) (h1 : 1 ≤ n) (h2 : n ≤ 256) (he : (strVals ls).toArray = arr) (hn : ls.length = n) (hz : ∀ i, i < ls.length → (nthS ls i).size ≤ 100) :
    Calls Tryz.prog 48 #[.pointer (some ⟨B, 0, none⟩), .slice (some ⟨g, 0, none⟩) n n] (w.alloc (.cells arr 9)) fun e w' => ∃ s : ByteArray, s.size ≤ 100 ∧ e = .returned (.string s) ∧ CurOk w' B a l cap ∧ w.grownBy w' (some B) := by
  subst he hn hg
  exact (strLit_any B a l cap ls w h h1 h2).mono fun _ _ ⟨i, hi, he, hc, hg⟩ => ⟨_, hz i hi, he, hc, hg⟩
set_option maxRecDepth 20000 in
set_option maxHeartbeats 2000000 in
theorem l08Draw_any (B : Nat) (a : Option Addr) (l : List UInt8) (cap : Nat) (w : World) (h : CurOk w B a l cap) :
    Calls Tryz.prog 21 #[.pointer (some ⟨B, 0, none⟩)] w (RetTV B a l cap w) := by
  have HC0 := Lib.hid h
  have HLT := Lib.hid h.lt
  clear h
  go_enter Tryz.func21, Tryz.ntmps21
  go_wp2_with fail
  refine (strLit_arr B a l cap tabLits _ 11 _ _ (HC0.out.alloc _) (by simp) (by decide) (by decide) (by kernel_rfl) (by kernel_rfl) tabLits_size).mono ?_
  rintro e w2 ⟨s, hz, rfl, hc2, hg2⟩
  have HX2 := Lib.hid (tv_box hg2 HLT.out)
  have HG2 := Lib.hid (grown_tr (grown_alloc ⟨rfl, rfl, rfl, Nat.le_refl _, fun _ _ _ => rfl⟩ _) hg2)
  have HC2 := Lib.hid hc2.at_
  clear hc2 hg2
  go_wp2_with fail
  refine (specParseSystem_any s _ (by omega)).mono ?_
  rintro e w3 ⟨k, R, aR, cR, b, ⟨hsh, hn⟩, rfl, hR, hb3⟩
  have hl2 : w.heap.size < w2.heap.size := (Array.getElem?_eq_some_iff.1 HX2.out).1
  have HX3 := Lib.hid ((hb3.block w.heap.size hl2).trans HX2.out)
  have HG3 := Lib.hid (grown_ofB HG2.out hb3)
  have HC3 := Lib.hid (HC2.out.later hb3)
  have HRL := Lib.hid hR
  have HSZ := Lib.hid (hsh.sz (show s.size + 1 ≤ maxLen by unfold maxLen; omega))
  have hnR : R.length ≤ 2 ^ 40 := by omega
  clear hb3 HX2 HG2 HC2 hR hsh hl2 hn
  go_wp2_with fail
  refine (specMonoidOf_any k R aR cR _ (HRL.out.later (alloc_belowT _ _)) hnR HSZ.out).mono ?_
  rintro e w5 ⟨L, P, f, aP, aL, cP, cL, hmon, rfl, hoP, hoL, hb5⟩
  have hb35 := Below.now (alloc_belowT w3 (.cells #[.int .i64 k, .slice aR R.length cR] 67)) hb5
  have hl3 : w.heap.size < w3.heap.size := (Array.getElem?_eq_some_iff.1 HX3.out).1
  have hx5 := (hb35.block w.heap.size hl3).trans HX3.out
  have HG5 := Lib.hid (grown_ofB HG3.out hb35)
  have HC5 := Lib.hid (HC3.out.later hb35)
  have HMN := Lib.hid hmon
  have HOP : Hid (w5.ownsRow w3.heap.size 3 1 (.slice aP P.length cP) P.length (intVals P)) := Lib.hid (owns_mono hoP (by simp))
  have HL3 := Lib.hid hl3
  have HLP := Lib.hid hmon.few.2
  clear hoL hb5 hb35 HX3 HG3 HC3 HRL HSZ hmon hoP hl3
  go_upto_region 3 with fail
  have hx6 := ((alloc_belowT w5 (.cells #[.int .i64 (L.length : Nat), .slice aP P.length cP] 25)).block w.heap.size (Array.getElem?_eq_some_iff.1 hx5).1).trans hx5
  obtain ⟨y0, y1⟩ := sys_cells (alloc_at w5 (.cells #[.int .i64 (L.length : Nat), .slice aP P.length cP] 25))
  have HG6 := Lib.hid (grown_ofB HG5.out (alloc_belowT w5 (.cells #[.int .i64 (L.length : Nat), .slice aP P.length cP] 25)))
  have HC6 := Lib.hid (HC5.out.later (alloc_belowT w5 (.cells #[.int .i64 (L.length : Nat), .slice aP P.length cP] 25)))
  have HO6 := Lib.hid (owns_later HOP.out (alloc_belowT w5 (.cells #[.int .i64 (L.length : Nat), .slice aP P.length cP] 25)))
  clear HG5 HC5 HOP hx5
  generalize w5.alloc (.cells #[.int .i64 (L.length : Nat), .slice aP P.length cP] 25) = w6 at *
  have HBN : Hid (B ≠ w.heap.size) := Lib.hid (by have := HLT.out; omega)
  cases f
  · have hl6 : w.heap.size < w6.heap.size := (Array.getElem?_eq_some_iff.1 hx6).1
    have F : Hid (RetTV B a l cap w (.returned (.agg #[.int .i64 2, .slice (some ⟨w6.heap.size, 0, none⟩) 4 4])) (((w6.alloc (.cells #[.int .i64 0, .int .i64 1, .int .i64 1, .int .i64 1] 3)).setCell ⟨w.heap.size, 0, none⟩ (.int .i64 2)).setCell ⟨w.heap.size, 1, none⟩ (.slice (some ⟨w6.heap.size, 0, none⟩) 4 4))) := Lib.hid (by
      have hg := grown_set2 (o := 1) (v := .slice (some ⟨w6.heap.size, 0, none⟩) 4 4) (grown_set2 (o := 0) (v := .int .i64 2) (grown_ofB HG6.out (alloc_belowT w6 (.cells #[.int .i64 0, .int .i64 1, .int .i64 1, .int .i64 1] 3))) (Nat.le_refl w.heap.size)) (Nat.le_refl w.heap.size)
      exact ⟨_, rfl, (((TabV.lit w6).down hl6).set (Nat.lt_succ_self _)).set (Nat.lt_succ_self _), HC0.out.next (((HC6.out.later (alloc_belowT _ _)).set HBN.out).set HBN.out) hg, hg⟩)
    rw [World.setCell_alloc_past _ _ _ _ hl6, World.setCell_alloc_past _ _ _ _ (by simpa using hl6)] at F
    obtain ⟨⟨f0, f1⟩, ⟨u0, u1⟩, z0, z1⟩ := box_sets hx6 (.int .i64 2) (.slice (some ⟨w6.heap.size, 0, none⟩) 4 4)
    clear hx6 y0 y1 HG6 HC6 HO6 HMN
    go_wp2_with fail
    refine bodyPost_ret (v := .agg #[.int .i64 2, .slice (some ⟨w6.heap.size, 0, none⟩) 4 4]) ?_ rfl F.out
    have v0 := (World.cell?_alloc_past (w := (w6.setCell ⟨w.heap.size, 0, none⟩ (.int .i64 2)).setCell ⟨w.heap.size, 1, none⟩ (.slice (some ⟨w6.heap.size, 0, none⟩) 4 4)) (.cells #[.int .i64 0, .int .i64 1, .int .i64 1, .int .i64 1] 3) w.heap.size 0 (by simpa using hl6)).trans u0
    have v1 := (World.cell?_alloc_past (w := (w6.setCell ⟨w.heap.size, 0, none⟩ (.int .i64 2)).setCell ⟨w.heap.size, 1, none⟩ (.slice (some ⟨w6.heap.size, 0, none⟩) 4 4)) (.cells #[.int .i64 0, .int .i64 1, .int .i64 1, .int .i64 1] 3) w.heap.size 1 (by simpa using hl6)).trans u1
    simp [results, Tryz.results21, go_sem, v0, v1]
  · have hg := grown_set2 (o := 1) (v := .slice aP P.length cP) (grown_set2 (o := 0) (v := .int .i64 (L.length : Nat)) HG6.out (Nat.le_refl w.heap.size)) (Nat.le_refl w.heap.size)
    have hO : ((w6.setCell ⟨w.heap.size, 0, none⟩ (.int .i64 (L.length : Nat))).setCell ⟨w.heap.size, 1, none⟩ (.slice aP P.length cP)).ownsRow w3.heap.size 3 1 (.slice aP P.length cP) P.length (intVals P) := ownsRow_setCell_below (ownsRow_setCell_below HO6.out HL3.out _) HL3.out _
    have F : Hid (RetTV B a l cap w (.returned (.agg #[.int .i64 (L.length : Nat), .slice aP P.length cP])) ((w6.setCell ⟨w.heap.size, 0, none⟩ (.int .i64 (L.length : Nat))).setCell ⟨w.heap.size, 1, none⟩ (.slice aP P.length cP))) := Lib.hid ⟨_, rfl, (TabV.mon HMN.out hO).down HL3.out, HC0.out.next ((HC6.out.set HBN.out).set HBN.out) hg, hg⟩
    obtain ⟨⟨f0, f1⟩, ⟨u0, u1⟩, z0, z1⟩ := box_sets hx6 (.int .i64 (L.length : Nat)) (.slice aP P.length cP)
    clear hx6 HG6 HC6 HO6 HMN hg hO
    go_wp2_with fail
    refine bodyPost_ret (v := .agg #[.int .i64 (L.length : Nat), .slice aP P.length cP]) ?_ rfl F.out
    simp [results, Tryz.results21, go_sem, u0, u1]
/-- what MakeTable leaves -/
def RetMT (w : World) (e : Ending) (w' : World) : Prop := ∃ (m : Nat) (l : List Int) (a : Option Addr) (cap : Nat), TabG m l ∧ e = .returned (.agg #[.int .i64 (m : Nat), .slice a l.length cap]) ∧ IntsIn w' a l ∧ (l.length ≤ cap ∧ cap ≤ maxLen) ∧ Below w.heap.size w w'
set_option maxRecDepth 20000 in
set_option maxHeartbeats 1000000 in
theorem makeTable_any (a : Option Addr) (l : List UInt8) (cap k : Nat) (w : World) (hl : BytesIn w a l) (hlen : l.length ≤ 2 ^ 40) (hk : k ≤ 1000) :
    Calls Tryz.prog 4 #[.slice a l.length cap, .int .i64 (k : Nat)] w (RetMT w) := by
  have HN := Lib.hid (l31New_any a l cap k (w.alloc (.cells #[.int .i64 0, .slice none 0 0] 25)) (hl.later (alloc_belowT _ _)) hlen hk)
  have e1 : (w.alloc (.cells #[.int .i64 0, .slice none 0 0] 25)).heap.size = w.heap.size + 1 := by simp
  have HB0 := Lib.hid (alloc_belowT w (.cells #[.int .i64 0, .slice none 0 0] 25))
  have HA := Lib.hid (alloc_at w (.cells #[.int .i64 0, .slice none 0 0] 25))
  rw [e1] at HN
  have HE := Lib.hid e1
  clear hl e1
  go_enter Tryz.func4, Tryz.ntmps4
  go_wp2_with fail
  refine HN.out.mono ?_
  rintro e w2 ⟨rfl, hc, hb⟩
  have HC := Lib.hid hc
  have hl1 : w.heap.size < w2.heap.size := by have := hc.lt; omega
  have hb0 : Below w.heap.size w w2 := Below.now HB0.out (by rw [HE.out]; exact hb)
  have HB := Lib.hid hb0
  have HX := Lib.hid ((hb.block w.heap.size (by omega)).trans HA.out)
  clear hc hb HN hb0 HA HB0 HE
  go_wp2_with fail
  refine (l08Draw_any _ a l cap _ HC.out).mono ?_
  rintro e w3 ⟨v, rfl, ⟨m, z, az, cz, hT, rfl, hown⟩, hc3, hg3⟩
  have hz := owns_ints (l := z) hown
  have hcap := owns_capS hown
  have hfar := owns_base hown
  clear hown
  have HB3 := Lib.hid (below_curs HB.out hg3 (Nat.le_succ _))
  have hx := (hg3.block w.heap.size hl1 (fun e => by have := Option.some.inj e; omega)).trans HX.out
  obtain ⟨⟨f0, f1⟩, ⟨u0, u1⟩, z0, z1⟩ := box_sets hx (.int .i64 (m : Nat)) (.slice az z.length cz)
  have F : Hid (RetMT w (.returned (.agg #[.int .i64 (m : Nat), .slice az z.length cz])) ((w3.setCell ⟨w.heap.size, 0, none⟩ (.int .i64 (m : Nat))).setCell ⟨w.heap.size, 1, none⟩ (.slice az z.length cz))) := Lib.hid ⟨m, z, az, cz, hT, rfl, (hz.setFar hfar (by omega)).setFar hfar (by omega), hcap, (HB3.out.setCell (Nat.le_refl _) _).setCell (Nat.le_refl _) _⟩
  clear hx hz hT hcap hfar hc3 hg3 HC HB HX HB3
  go_wp2_with fail
  refine bodyPost_ret (v := .agg #[.int .i64 (m : Nat), .slice az z.length cz]) ?_ rfl F.out
  simp [results, Tryz.results4, go_sem, u0, u1]
end Go.Proofs.YtmgdglghjlggnaaGreat
