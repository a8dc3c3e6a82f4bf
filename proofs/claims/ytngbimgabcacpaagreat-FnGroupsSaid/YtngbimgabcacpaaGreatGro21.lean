/-
  slices.DeleteFunc at integers, over a slice of the call's own.
-/
import Derived.Test.YtngbimgabcacpaaGreatGro03
import Derived.Test.YtngbimgabcacpaaGreatGro14
import Derived.Test.YtngbimgabcacpaaGreatGro20
import Derived.Test.YtngbimgabcacpaaGreatGro05
import Derived.Shelf.Abstract
import Derived.Test.YtngbimgabcacpaaGreatGro01
import Derived.Lib.SliceRun
namespace Go.Proofs.YtngbimgabcacpaaGreat
open Go.RowKit
set_option linter.unusedVariables false
/-- a valid table in memory, its products in a row of its own -/
def TabV (base : Nat) (w : World) (v : Value) : Prop := ∃ (m : Nat) (l : List Int) (a : Option Addr) (cap : Nat), TabG m l ∧ v = .agg #[.int .i64 (m : Nat), .slice a l.length cap] ∧ w.ownsRow base 3 1 (.slice a l.length cap) l.length (intVals l)
theorem TabV.later {base : Nat} {w w' : World} {v : Value} (h : TabV base w v) (hb : Below w.heap.size w w') : TabV base w' v := by
  obtain ⟨m, l, a, cap, h1, h2, h3⟩ := h
  exact ⟨m, l, a, cap, h1, h2, owns_later h3 hb⟩
theorem TabV.down {base base' : Nat} {w : World} {v : Value} (h : TabV base w v) (hb : base' ≤ base) : TabV base' w v := by
  obtain ⟨m, l, a, cap, h1, h2, h3⟩ := h
  exact ⟨m, l, a, cap, h1, h2, owns_mono h3 hb⟩
theorem TabG.two : TabG 2 [0, 1, 1, 1] := by
  refine ⟨[0, 1, 1, 1], rfl, ⟨by decide, by decide, by decide, by decide⟩, by decide, by decide, ?_⟩
  have h : ∀ i, i < 2 → ∀ j, j < 2 → ∀ k, k < 2 → tm 2 [0, 1, 1, 1] (tm 2 [0, 1, 1, 1] i j) k = tm 2 [0, 1, 1, 1] i (tm 2 [0, 1, 1, 1] j k) := by decide
  exact fun i j k hi hj hk => h i hi j hj k hk
theorem TabV.mon {k : Int} {R : List RulD} {w' : World} {L : List ByteArray} {P : List Int} {base : Nat} {aP : Option Addr} {cP : Nat} (h : MonIs k R L P true) (ho : w'.ownsRow base 3 1 (.slice aP P.length cP) P.length (intVals P)) :
    TabV base w' (.agg #[.int .i64 (L.length : Nat), .slice aP P.length cP]) := by
  obtain ⟨ln, h1, h2, _⟩ := mon_table h
  exact ⟨L.length, P, aP, cP, ⟨ln, h1, h2⟩, rfl, ho⟩
theorem TabV.lit (w : World) : TabV w.heap.size (w.alloc (.cells #[.int .i64 0, .int .i64 1, .int .i64 1, .int .i64 1] 3)) (.agg #[.int .i64 2, .slice (some ⟨w.heap.size, 0, none⟩) 4 4]) :=
  ⟨2, [0, 1, 1, 1], some ⟨w.heap.size, 0, none⟩, 4, TabG.two, rfl, World.ownsRow_lit w #[.int .i64 0, .int .i64 1, .int .i64 1, .int .i64 1] 4 (Nat.le_refl _) (by unfold maxLen; omega) rfl⟩
def tabLits : List ByteArray := [⟨#[49, 32, 97, 97, 97, 62, 46]⟩, ⟨#[49, 32, 97, 97, 97, 97, 62, 97, 97]⟩, ⟨#[50, 32, 97, 97, 62, 46, 32, 98, 98, 62, 46, 32, 98, 97, 62, 97, 98]⟩, ⟨#[50, 32, 97, 97, 62, 46, 32, 98, 98, 62, 46, 32, 98, 97, 98, 62, 97, 98, 97]⟩, ⟨#[50, 32, 97, 97, 62, 97, 32, 98, 98, 62, 98, 32, 98, 97, 62, 97, 98]⟩, ⟨#[50, 32, 97, 97, 62, 97, 32, 97, 98, 62, 97, 32, 98, 97, 62, 98, 32, 98, 98, 62, 98]⟩, ⟨#[49]⟩, ⟨#[49, 32, 97, 97, 62, 97]⟩, ⟨#[50, 32, 97, 97, 97, 62, 46, 32, 98, 98, 62, 46, 32, 97, 97, 98, 62, 98, 97, 32, 97, 98, 97, 62, 98, 32, 98, 97, 97, 62, 97, 98, 32, 98, 97, 98, 62, 97, 97]⟩, ⟨#[50, 32, 97, 97, 62, 46, 32, 98, 98, 98, 62, 46, 32, 97, 98, 98, 62, 98, 97, 32, 97, 98, 97, 62, 98, 98, 32, 98, 97, 98, 62, 97, 32, 98, 98, 97, 62, 97, 98]⟩, ⟨#[50, 32, 97, 97, 62, 97, 32, 98, 98, 62, 98, 32, 97, 98, 97, 62, 97, 98, 32, 98, 97, 98, 62, 97, 98]⟩]
theorem tabLits_size : ∀ i, i < tabLits.length → (nthS tabLits i).size ≤ 100 := by decide
/-- the box of the result behind a call -/
theorem alloc_belowT (w : World) (o : Obj) : Below w.heap.size w (w.alloc o) := (Below.refl _ _).alloc (Nat.le_refl _) o
theorem grown_ofB {w w1 w2 : World} {B : Nat} (h : w.grownBy w1 (some B)) (hb : Below w1.heap.size w1 w2) : w.grownBy w2 (some B) :=
  grown_tr h ⟨hb.os, hb.tape, hb.output, hb.size, fun k hk _ => hb.block k hk⟩
theorem grown_set2 {w w1 : World} {B g o : Nat} {v : Value} (h : w.grownBy w1 (some B)) (hg : w.heap.size ≤ g) : w.grownBy (w1.setCell ⟨g, o, none⟩ v) (some B) := by
  have hszc : (w1.setCell ⟨g, o, none⟩ v).heap.size = w1.heap.size := by simp
  exact ⟨h.os, h.tape, h.output, by rw [hszc]; exact h.size, fun k hk hne => by
    unfold World.setCell
    rw [Array.getElem?_modify, if_neg (fun e : g = k => by omega)]; exact h.block k hk hne⟩
theorem CurAt.set {w : World} {B : Nat} {a : Option Addr} {n cap g o : Nat} {v : Value} (h : CurAt w B a n cap) (hg : B ≠ g) : CurAt (w.setCell ⟨g, o, none⟩ v) B a n cap := by
  obtain ⟨i, hh, h1, h2⟩ := h
  exact ⟨i, hh, by
    unfold World.setCell
    rw [Array.getElem?_modify, if_neg (fun e : g = B => hg e.symm)]; exact h1, h2⟩
theorem IntsIn.setFar {w : World} {a : Option Addr} {l : List Int} {x : Value} {g o base : Nat} (h3 : IntsIn w a l) (h5 : ∀ x, a = some x → base ≤ x.block) (hg : g < base) : IntsIn (w.setCell ⟨g, o, none⟩ x) a l := by
  rcases h3 with h3 | ⟨b, off, ha, hc⟩
  · exact .inl h3
  · refine .inr ⟨b, off, ha, fun i hi => ?_⟩
    have hb : base ≤ b := h5 _ ha
    have e : (w.setCell ⟨g, o, none⟩ x).heap[b]? = w.heap[b]? := by
      unfold World.setCell
      rw [Array.getElem?_modify, if_neg (fun e : g = b => by omega)]
    rw [World.cell?_of_block (w := w) e]
    exact hc i hi
theorem TabV.set {w : World} {v x : Value} {g o base : Nat} (h : TabV base w v) (hg : g < base) : TabV base (w.setCell ⟨g, o, none⟩ x) v := by
  obtain ⟨m, l, a, cap, h1, rfl, h3⟩ := h
  exact ⟨m, l, a, cap, h1, rfl, ownsRow_setCell_below h3 hg x⟩
/-- what a table's draw leaves -/
def RetTV (B : Nat) (a : Option Addr) (l : List UInt8) (cap : Nat) (w : World) (e : Ending) (w' : World) : Prop := ∃ v, e = .returned v ∧ TabV (w.heap.size + 1) w' v ∧ CurOk w' B a l cap ∧ w.grownBy w' (some B)
theorem tv_box {w w1 : World} {B : Nat} {o : Obj} (hg : (w.alloc o).grownBy w1 (some B)) (hB : B < w.heap.size) : w1.heap[w.heap.size]? = some o :=
  (hg.block w.heap.size (by simp) (fun e => by have := Option.some.inj e; omega)).trans (alloc_at w o)
theorem box_sets {W : World} {g : Nat} {x y : Value} {T : TypeId} (h : W.heap[g]? = some (.cells #[x, y] T (0, 0))) (u v : Value) : (W.frozen? ⟨g, 0, none⟩ = false ∧ W.frozen? ⟨g, 1, none⟩ = false) ∧ (((W.setCell ⟨g, 0, none⟩ u).setCell ⟨g, 1, none⟩ v).cell? ⟨g, 0, none⟩ = some u ∧ ((W.setCell ⟨g, 0, none⟩ u).setCell ⟨g, 1, none⟩ v).cell? ⟨g, 1, none⟩ = some v) ∧ W.cell? ⟨g, 0, none⟩ = some x ∧ W.cell? ⟨g, 1, none⟩ = some y :=
  ⟨⟨by simp [World.frozen?, h], by simp [World.frozen?, h]⟩, sys_cells (set_two h u v), sys_cells h⟩
/-- a literal row of strings is drawn from: the row in the walk's own form -/
theorem strLit_arr (B : Nat) (a : Option Addr) (l : List UInt8) (cap : Nat) (ls : List ByteArray) (arr : Array Value) (n g : Nat) (w : World) (h : CurOk w B a l cap) (hg : w.heap.size = g) (h1 : 1 ≤ n) (h2 : n ≤ 256) (he : (strVals ls).toArray = arr) (hn : ls.length = n) (hz : ∀ i, i < ls.length → (nthS ls i).size ≤ 100) :
    Calls Tryz.prog 68 #[.pointer (some ⟨B, 0, none⟩), .slice (some ⟨g, 0, none⟩) n n] (w.alloc (.cells arr 9)) fun e w' => ∃ s : ByteArray, s.size ≤ 100 ∧ e = .returned (.string s) ∧ CurOk w' B a l cap ∧ w.grownBy w' (some B) := by
  subst he hn hg
  exact (strLit_any B a l cap ls w h h1 h2).mono fun _ _ ⟨i, hi, he, hc, hg⟩ => ⟨_, hz i hi, he, hc, hg⟩
set_option maxRecDepth 20000 in
set_option maxHeartbeats 2000000 in
theorem l08Draw_any (B : Nat) (a : Option Addr) (l : List UInt8) (cap : Nat) (w : World) (h : CurOk w B a l cap) :
    Calls Tryz.prog 51 #[.pointer (some ⟨B, 0, none⟩)] w (RetTV B a l cap w) := by
  have HC0 := Lib.hid h
  have HLT := Lib.hid h.lt
  clear h
  go_enter Tryz.func51, Tryz.ntmps51
  go_wp2_with fail
  refine (strLit_arr B a l cap tabLits _ 11 _ _ (HC0.out.alloc _) (by simp) (by decide) (by decide) (by kernel_rfl) (by kernel_rfl) tabLits_size).mono ?_
  rintro e w2 ⟨s, hz, rfl, hc2, hg2⟩
  have HX2 := Lib.hid (tv_box hg2 HLT.out)
  have HG2 := Lib.hid (grown_tr (grown_alloc ⟨rfl, rfl, rfl, Nat.le_refl _, fun _ _ _ => rfl⟩ _) hg2)
  have HC2 := Lib.hid hc2.at_
  clear hc2 hg2
  go_wp2_with fail
  refine (specParseSystem_any s _ (by omega)).mono ?_
  rintro e w3 ⟨k, R, aR, cR, b, ⟨hsh, hn⟩, rfl, hR, hb3⟩
  have hl2 : w.heap.size < w2.heap.size := (Array.getElem?_eq_some_iff.1 HX2.out).1
  have HX3 := Lib.hid ((hb3.block w.heap.size hl2).trans HX2.out)
  have HG3 := Lib.hid (grown_ofB HG2.out hb3)
  have HC3 := Lib.hid (HC2.out.later hb3)
  have HRL := Lib.hid hR
  have HSZ := Lib.hid (hsh.sz (show s.size + 1 ≤ maxLen by unfold maxLen; omega))
  have hnR : R.length ≤ 2 ^ 40 := by omega
  clear hb3 HX2 HG2 HC2 hR hsh hl2 hn
  go_wp2_with fail
  refine (specMonoidOf_any k R aR cR _ (HRL.out.later (alloc_belowT _ _)) hnR HSZ.out).mono ?_
  rintro e w5 ⟨L, P, f, aP, aL, cP, cL, hmon, rfl, hoP, hoL, hb5⟩
  have hb35 := Below.now (alloc_belowT w3 (.cells #[.int .i64 k, .slice aR R.length cR] 68)) hb5
  have hl3 : w.heap.size < w3.heap.size := (Array.getElem?_eq_some_iff.1 HX3.out).1
  have hx5 := (hb35.block w.heap.size hl3).trans HX3.out
  have HG5 := Lib.hid (grown_ofB HG3.out hb35)
  have HC5 := Lib.hid (HC3.out.later hb35)
  have HMN := Lib.hid hmon
  have HOP : Hid (w5.ownsRow w3.heap.size 3 1 (.slice aP P.length cP) P.length (intVals P)) := Lib.hid (owns_mono hoP (by simp))
  have HL3 := Lib.hid hl3
  have HLP := Lib.hid hmon.few.2
  clear hoL hb5 hb35 HX3 HG3 HC3 HRL HSZ hmon hoP hl3
  go_upto_region 3 with fail
  have hx6 := ((alloc_belowT w5 (.cells #[.int .i64 (L.length : Nat), .slice aP P.length cP] 25)).block w.heap.size (Array.getElem?_eq_some_iff.1 hx5).1).trans hx5
  obtain ⟨y0, y1⟩ := sys_cells (alloc_at w5 (.cells #[.int .i64 (L.length : Nat), .slice aP P.length cP] 25))
  have HG6 := Lib.hid (grown_ofB HG5.out (alloc_belowT w5 (.cells #[.int .i64 (L.length : Nat), .slice aP P.length cP] 25)))
  have HC6 := Lib.hid (HC5.out.later (alloc_belowT w5 (.cells #[.int .i64 (L.length : Nat), .slice aP P.length cP] 25)))
  have HO6 := Lib.hid (owns_later HOP.out (alloc_belowT w5 (.cells #[.int .i64 (L.length : Nat), .slice aP P.length cP] 25)))
  clear HG5 HC5 HOP hx5
  generalize w5.alloc (.cells #[.int .i64 (L.length : Nat), .slice aP P.length cP] 25) = w6 at *
  have HBN : Hid (B ≠ w.heap.size) := Lib.hid (by have := HLT.out; omega)
  cases f
  · have hl6 : w.heap.size < w6.heap.size := (Array.getElem?_eq_some_iff.1 hx6).1
    have F : Hid (RetTV B a l cap w (.returned (.agg #[.int .i64 2, .slice (some ⟨w6.heap.size, 0, none⟩) 4 4])) (((w6.alloc (.cells #[.int .i64 0, .int .i64 1, .int .i64 1, .int .i64 1] 3)).setCell ⟨w.heap.size, 0, none⟩ (.int .i64 2)).setCell ⟨w.heap.size, 1, none⟩ (.slice (some ⟨w6.heap.size, 0, none⟩) 4 4))) := Lib.hid (by
      have hg := grown_set2 (o := 1) (v := .slice (some ⟨w6.heap.size, 0, none⟩) 4 4) (grown_set2 (o := 0) (v := .int .i64 2) (grown_ofB HG6.out (alloc_belowT w6 (.cells #[.int .i64 0, .int .i64 1, .int .i64 1, .int .i64 1] 3))) (Nat.le_refl w.heap.size)) (Nat.le_refl w.heap.size)
      exact ⟨_, rfl, (((TabV.lit w6).down hl6).set (Nat.lt_succ_self _)).set (Nat.lt_succ_self _), HC0.out.next (((HC6.out.later (alloc_belowT _ _)).set HBN.out).set HBN.out) hg, hg⟩)
    rw [World.setCell_alloc_past _ _ _ _ hl6, World.setCell_alloc_past _ _ _ _ (by simpa using hl6)] at F
    obtain ⟨⟨f0, f1⟩, ⟨u0, u1⟩, z0, z1⟩ := box_sets hx6 (.int .i64 2) (.slice (some ⟨w6.heap.size, 0, none⟩) 4 4)
    clear hx6 y0 y1 HG6 HC6 HO6 HMN
    go_wp2_with fail
    refine bodyPost_ret (v := .agg #[.int .i64 2, .slice (some ⟨w6.heap.size, 0, none⟩) 4 4]) ?_ rfl F.out
    have v0 := (World.cell?_alloc_past (w := (w6.setCell ⟨w.heap.size, 0, none⟩ (.int .i64 2)).setCell ⟨w.heap.size, 1, none⟩ (.slice (some ⟨w6.heap.size, 0, none⟩) 4 4)) (.cells #[.int .i64 0, .int .i64 1, .int .i64 1, .int .i64 1] 3) w.heap.size 0 (by simpa using hl6)).trans u0
    have v1 := (World.cell?_alloc_past (w := (w6.setCell ⟨w.heap.size, 0, none⟩ (.int .i64 2)).setCell ⟨w.heap.size, 1, none⟩ (.slice (some ⟨w6.heap.size, 0, none⟩) 4 4)) (.cells #[.int .i64 0, .int .i64 1, .int .i64 1, .int .i64 1] 3) w.heap.size 1 (by simpa using hl6)).trans u1
    simp [results, Tryz.results51, go_sem, v0, v1]
  · have hg := grown_set2 (o := 1) (v := .slice aP P.length cP) (grown_set2 (o := 0) (v := .int .i64 (L.length : Nat)) HG6.out (Nat.le_refl w.heap.size)) (Nat.le_refl w.heap.size)
    have hO : ((w6.setCell ⟨w.heap.size, 0, none⟩ (.int .i64 (L.length : Nat))).setCell ⟨w.heap.size, 1, none⟩ (.slice aP P.length cP)).ownsRow w3.heap.size 3 1 (.slice aP P.length cP) P.length (intVals P) := ownsRow_setCell_below (ownsRow_setCell_below HO6.out HL3.out _) HL3.out _
    have F : Hid (RetTV B a l cap w (.returned (.agg #[.int .i64 (L.length : Nat), .slice aP P.length cP])) ((w6.setCell ⟨w.heap.size, 0, none⟩ (.int .i64 (L.length : Nat))).setCell ⟨w.heap.size, 1, none⟩ (.slice aP P.length cP))) := Lib.hid ⟨_, rfl, (TabV.mon HMN.out hO).down HL3.out, HC0.out.next ((HC6.out.set HBN.out).set HBN.out) hg, hg⟩
    obtain ⟨⟨f0, f1⟩, ⟨u0, u1⟩, z0, z1⟩ := box_sets hx6 (.int .i64 (L.length : Nat)) (.slice aP P.length cP)
    clear hx6 HG6 HC6 HO6 HMN hg hO
    go_wp2_with fail
    refine bodyPost_ret (v := .agg #[.int .i64 (L.length : Nat), .slice aP P.length cP]) ?_ rfl F.out
    simp [results, Tryz.results51, go_sem, u0, u1]
/-- what MakeTable leaves -/
def RetMT (w : World) (e : Ending) (w' : World) : Prop := ∃ (m : Nat) (l : List Int) (a : Option Addr) (cap : Nat), TabG m l ∧ e = .returned (.agg #[.int .i64 (m : Nat), .slice a l.length cap]) ∧ IntsIn w' a l ∧ (l.length ≤ cap ∧ cap ≤ maxLen) ∧ Below w.heap.size w w'
set_option maxRecDepth 20000 in
set_option maxHeartbeats 1000000 in
theorem makeTable_any (a : Option Addr) (l : List UInt8) (cap k : Nat) (w : World) (hl : BytesIn w a l) (hlen : l.length ≤ 2 ^ 40) (hk : k ≤ 1000) :
    Calls Tryz.prog 20 #[.slice a l.length cap, .int .i64 (k : Nat)] w (RetMT w) := by
  have HN := Lib.hid (l31New_any a l cap k (w.alloc (.cells #[.int .i64 0, .slice none 0 0] 25)) (hl.later (alloc_belowT _ _)) hlen hk)
  have e1 : (w.alloc (.cells #[.int .i64 0, .slice none 0 0] 25)).heap.size = w.heap.size + 1 := by simp
  have HB0 := Lib.hid (alloc_belowT w (.cells #[.int .i64 0, .slice none 0 0] 25))
  have HA := Lib.hid (alloc_at w (.cells #[.int .i64 0, .slice none 0 0] 25))
  rw [e1] at HN
  have HE := Lib.hid e1
  clear hl e1
  go_enter Tryz.func20, Tryz.ntmps20
  go_wp2_with fail
  refine HN.out.mono ?_
  rintro e w2 ⟨rfl, hc, hb⟩
  have HC := Lib.hid hc
  have hl1 : w.heap.size < w2.heap.size := by have := hc.lt; omega
  have hb0 : Below w.heap.size w w2 := Below.now HB0.out (by rw [HE.out]; exact hb)
  have HB := Lib.hid hb0
  have HX := Lib.hid ((hb.block w.heap.size (by omega)).trans HA.out)
  clear hc hb HN hb0 HA HB0 HE
  go_wp2_with fail
  refine (l08Draw_any _ a l cap _ HC.out).mono ?_
  rintro e w3 ⟨v, rfl, ⟨m, z, az, cz, hT, rfl, hown⟩, hc3, hg3⟩
  have hz := owns_ints (l := z) hown
  have hcap := owns_capS hown
  have hfar := owns_base hown
  clear hown
  have HB3 := Lib.hid (below_curs HB.out hg3 (Nat.le_succ _))
  have hx := (hg3.block w.heap.size hl1 (fun e => by have := Option.some.inj e; omega)).trans HX.out
  obtain ⟨⟨f0, f1⟩, ⟨u0, u1⟩, z0, z1⟩ := box_sets hx (.int .i64 (m : Nat)) (.slice az z.length cz)
  have F : Hid (RetMT w (.returned (.agg #[.int .i64 (m : Nat), .slice az z.length cz])) ((w3.setCell ⟨w.heap.size, 0, none⟩ (.int .i64 (m : Nat))).setCell ⟨w.heap.size, 1, none⟩ (.slice az z.length cz))) := Lib.hid ⟨m, z, az, cz, hT, rfl, (hz.setFar hfar (by omega)).setFar hfar (by omega), hcap, (HB3.out.setCell (Nat.le_refl _) _).setCell (Nat.le_refl _) _⟩
  clear hx hz hT hcap hfar hc3 hg3 HC HB HX HB3
  go_wp2_with fail
  refine bodyPost_ret (v := .agg #[.int .i64 (m : Nat), .slice az z.length cz]) ?_ rfl F.out
  simp [results, Tryz.results20, go_sem, u0, u1]
end Go.Proofs.YtngbimgabcacpaaGreat
namespace Go.Proofs.YtngbimgabcacpaaGreat
open Go.RowKit
set_option linter.unusedVariables false
/-- a function value that answers p for the numbers of a list in every world that is as w below block B, and keeps what lay there -/
def PredInts (B : Nat) (g : Nat) (caps : Array Value) (p : Int → Bool) (l : List Int) (w : World) : Prop :=
  ∀ j, j < l.length → ∀ W, Below B w W → Calls Tryz.prog g (#[.int .i64 (nthZ l j)] ++ caps) W fun e W' => e = .returned (.bool (p (nthZ l j))) ∧ Below W.heap.size W W'
/-- the first place with a property, or -1 -/
def idxZ (p : Int → Bool) (l : List Int) : Int := match l.findIdx? p with | some i => i | none => -1
/-- none of the first j has it -/
def noneTo (p : Int → Bool) (l : List Int) (j : Nat) : Prop := ∀ i, i < j → p (nthZ l i) = false
theorem noneTo_zero (p : Int → Bool) (l : List Int) : noneTo p l 0 := fun _ h => absurd h (Nat.not_lt_zero _)
theorem noneTo_succ {p : Int → Bool} {l : List Int} {j : Nat} (h : noneTo p l j) (hj : p (nthZ l j) = false) : noneTo p l (j + 1) := fun i hi => by
  by_cases e : i = j
  · rw [e]; exact hj
  · exact h i (by omega)
theorem idxZ_at {p : Int → Bool} {l : List Int} {j : Nat} (h : noneTo p l j) (hlt : j < l.length) (hj : p (nthZ l j) = true) : idxZ p l = j := by
  have : l.findIdx? p = some j := by
    rw [List.findIdx?_eq_some_iff_getElem]
    refine ⟨hlt, by rw [← nthZ_lt hlt]; exact hj, fun i hi => ?_⟩
    have := h i hi
    rw [nthZ_lt (by omega)] at this
    simp [this]
  simp [idxZ, this]
theorem idxZ_none {p : Int → Bool} {l : List Int} {j : Nat} (h : noneTo p l j) (hlt : ¬ j < l.length) : idxZ p l = -1 := by
  have : l.findIdx? p = none := by
    rw [List.findIdx?_eq_none_iff]
    intro x hx
    obtain ⟨i, hi, rfl⟩ := List.getElem_of_mem hx
    rw [← nthZ_lt hi]
    exact h i (by omega)
  simp [idxZ, this]
theorem idxZ_nonneg (p : Int → Bool) (l : List Int) : decide (0 ≤ idxZ p l) = l.any p := by
  unfold idxZ
  cases h : l.findIdx? p
  · rw [List.findIdx?_eq_none_iff] at h
    have : l.any p = false := by rw [List.any_eq_false]; intro x hx; simp [h x hx]
    simp [this]
  · rename_i i
    rw [List.findIdx?_eq_some_iff_getElem] at h
    obtain ⟨hi, hp, _⟩ := h
    have : l.any p = true := by rw [List.any_eq_true]; exact ⟨l[i], List.getElem_mem hi, hp⟩
    simp [this]
set_option maxHeartbeats 400000 in
theorem indexFuncInts_any (g : Nat) (caps : Array Value) (p : Int → Bool) (l : List Int) (a : Option Addr) (cap : Nat) (w : World) (hl : IntsIn w a l) (hlen : l.length ≤ 2 ^ 47)
    (B : Nat) (hB : B ≤ w.heap.size) (hf : PredInts B g caps p l w) (eg : ∀ args w, (callFunc g args).run Tryz.prog w = .ok (.enter g args) w) :
    Calls Tryz.prog 75 #[.slice a l.length cap, .func (.func g) #[] caps] w fun e w' => e = .returned (.int .i64 (idxZ p l)) ∧ Below w.heap.size w w' := by
  have HF := Lib.hid hf
  clear hf
  go_enter Tryz.func75, Tryz.ntmps75
  go_wp2
  go_loopw [8] (fun i wr => ∃ j : Nat, j ≤ l.length ∧ i = .int .i64 j ∧ noneTo p l j ∧ Below w.heap.size w wr) (fun i _ => l.length - (intOf i).toNat)
  case atStart => exact ⟨0, Nat.zero_le _, rfl, noneTo_zero _ _, Below.refl _ _⟩
  case round =>
    obtain ⟨j, hj, rfl, hall, hbel⟩ := hrel
    have H := Lib.hid hall
    clear hall
    by_cases hlt : j < l.length
    · obtain ⟨b, off, rfl, hb, hc⟩ := hl.cell hlt
      have h1 : wr.cell? ⟨b, off + j, none⟩ = some (.int .i64 (nthZ l j)) := by rw [hbel.cell hb]; exact hc j hlt
      clear hc
      cases hp : p (nthZ l j)
      · have F := Lib.hid (noneTo_succ H.out hp)
        go_wp2_with fail
        refine (HF.out j hlt _ (hbel.mono hB)).mono ?_
        rintro e w2 ⟨rfl, hb2⟩
        have hbel2 := Below.now hbel hb2
        clear hb2 h1 hbel
        go_wp2_with fail
        go_roundw
        case rel => exact ⟨j + 1, by omega, by go_num, F.out, hbel2⟩
        case measure => simp [intOf]; omega
      · have F := Lib.hid (idxZ_at H.out hlt hp)
        go_wp2_with fail
        refine (HF.out j hlt _ (hbel.mono hB)).mono ?_
        rintro e w2 ⟨rfl, hb2⟩
        have hbel2 := Below.now hbel hb2
        clear hb2 h1 hbel
        go_wp2_with fail
        go_ret
        exact ⟨ret_int F.out.symm, hbel2⟩
    · have F := Lib.hid (idxZ_none H.out hlt)
      go_wp2_with fail
      go_ret
      exact ⟨ret_int F.out.symm, hbel⟩
set_option maxHeartbeats 400000 in
theorem containsFuncInts_any (g : Nat) (caps : Array Value) (p : Int → Bool) (l : List Int) (a : Option Addr) (cap : Nat) (w : World) (hl : IntsIn w a l) (hlen : l.length ≤ 2 ^ 47)
    (B : Nat) (hB : B ≤ w.heap.size) (hf : PredInts B g caps p l w) (eg : ∀ args w, (callFunc g args).run Tryz.prog w = .ok (.enter g args) w) :
    Calls Tryz.prog 73 #[.slice a l.length cap, .func (.func g) #[] caps] w fun e w' => e = .returned (.bool (l.any p)) ∧ Below w.heap.size w w' := by
  have HC := Lib.hid (indexFuncInts_any g caps p l a cap w hl hlen B hB hf eg)
  have HI := Lib.hid (idxZ_nonneg p l)
  clear hf eg hl
  go_enter Tryz.func73, Tryz.ntmps73
  go_wp2_with fail
  refine HC.out.mono ?_
  rintro e w2 ⟨rfl, hb2⟩
  go_wp2_with fail
  go_ret
  exact ⟨ret_bool HI.out, hb2⟩
/-- the closure of allWithin -/
theorem allWithinPred (lo hi : Int) (l : List Int) (w : World) (b1 b2 : Nat) (hb1 : b1 < w.heap.size) (hb2 : b2 < w.heap.size)
    (h1 : w.cell? ⟨b1, 0, none⟩ = some (.int .i64 lo)) (h2 : w.cell? ⟨b2, 0, none⟩ = some (.int .i64 hi)) :
    PredInts w.heap.size 74 #[.pointer (some ⟨b1, 0, none⟩), .pointer (some ⟨b2, 0, none⟩)] (fun x => !inB x lo hi) l w := by
  intro j hj W hW
  have g1 : W.cell? ⟨b1, 0, none⟩ = some (.int .i64 lo) := by rw [hW.cell hb1]; exact h1
  have g2 : W.cell? ⟨b2, 0, none⟩ = some (.int .i64 hi) := by rw [hW.cell hb2]; exact h2
  clear h1 h2 hW hb1 hb2
  go_enter Tryz.func74, Tryz.ntmps74
  go_wp2_with (go_at_call 52; refine (within_any _ _ _ _).mono ?_; rintro e w' ⟨rfl, rfl⟩)
  go_ret
  exact ⟨rfl, Below.refl _ _⟩
theorem any_not_all {α : Type} (l : List α) (p : α → Bool) : (!l.any fun x => !p x) = l.all p := by simp [List.all_eq_not_any_not]
set_option maxHeartbeats 400000 in
theorem allWithin_any (lo hi : Int) (l : List Int) (a : Option Addr) (cap : Nat) (w : World) (hl : IntsIn w a l) (hlen : l.length ≤ 2 ^ 47) :
    Calls Tryz.prog 37 #[.slice a l.length cap, .int .i64 lo, .int .i64 hi] w fun e w' => e = .returned (.bool (l.all fun x => inB x lo hi)) ∧ Below w.heap.size w w' := by
  have HA := Lib.hid (any_not_all l fun x => inB x lo hi)
  have HC : Hid (∀ W b1 b2, IntsIn W a l → PredInts W.heap.size 74 #[.pointer (some ⟨b1, 0, none⟩), .pointer (some ⟨b2, 0, none⟩)] (fun x => !inB x lo hi) l W → _) :=
    fun W b1 b2 h1 h2 => containsFuncInts_any 74 #[.pointer (some ⟨b1, 0, none⟩), .pointer (some ⟨b2, 0, none⟩)] (fun x => !inB x lo hi) l a cap W h1 hlen W.heap.size (Nat.le_refl _) h2 (enters_of Tryz.func74 (by kernel_rfl) rfl)
  have HL := Lib.hid hl
  clear hl
  go_enter Tryz.func37, Tryz.ntmps37
  go_wp2_with fail
  refine (HC.out _ _ _ (HL.out.later (((Below.refl _ _).alloc (Nat.le_refl _) _).alloc (by simp) _)) (allWithinPred lo hi l _ _ _ (by simp; omega) (by simp) (by simp) (by simp))).mono ?_
  rintro e w2 ⟨rfl, hb2⟩
  have hbel := Below.now (((Below.refl w.heap.size w).alloc (Nat.le_refl _) _).alloc (by simp) _) hb2
  clear hb2
  go_wp2_with fail
  go_ret
  exact ⟨ret_bool HA.out, hbel⟩
end Go.Proofs.YtngbimgabcacpaaGreat
namespace Go.Proofs.YtngbimgabcacpaaGreat
open Go.RowKit
set_option linter.unusedVariables false
/-- the numbers that stay -/
def keepZ (p : Int → Bool) (l : List Int) : List Int := l.filter fun x => !p x
/-- how many of the first j stay -/
def keepN (p : Int → Bool) (l : List Int) (j : Nat) : Nat := (keepZ p (l.take j)).length
theorem keepZ_succ {p : Int → Bool} {l : List Int} {j : Nat} (h : j < l.length) : keepZ p (l.take (j + 1)) = keepZ p (l.take j) ++ (if p (nthZ l j) then [] else [nthZ l j]) := by
  unfold keepZ
  rw [List.take_succ_eq_append_getElem h, List.filter_append, nthZ_lt h]
  cases hp : p l[j] <;> simp [hp]
theorem keepN_yes {p : Int → Bool} {l : List Int} {j : Nat} (h : j < l.length) (hp : p (nthZ l j) = false) : keepN p l (j + 1) = keepN p l j + 1 := by
  unfold keepN; rw [keepZ_succ h, hp]; simp
theorem keepN_no {p : Int → Bool} {l : List Int} {j : Nat} (h : j < l.length) (hp : p (nthZ l j) = true) : keepN p l (j + 1) = keepN p l j := by
  unfold keepN; rw [keepZ_succ h, hp]; simp
theorem keepN_le (p : Int → Bool) (l : List Int) (j : Nat) : keepN p l j ≤ j := by
  unfold keepN keepZ
  exact Nat.le_trans (List.length_filter_le _ _) (List.length_take_le _ _)
/-- a row from which elements are being deleted: the first j have been looked at -/
def Deling (T : TypeId) (w wr : World) (base g n cap : Nat) (p : Int → Bool) (l : List Int) (j : Nat) : Prop :=
  ∃ xs, wr.ownsRow base T 1 (.slice (some ⟨g, 0, none⟩) n cap) n xs ∧ xs.take (keepN p l j) = intVals (keepZ p (l.take j)) ∧ xs.drop j = intVals (l.drop j) ∧ Below base w wr ∧ n = l.length
theorem Deling.cell {T : TypeId} {w wr : World} {base g n cap : Nat} {p : Int → Bool} {l : List Int} {j : Nat} (h : Deling T w wr base g n cap p l j) (hj : j < n) : wr.cell? ⟨g, j, none⟩ = some (.int .i64 (nthZ l j)) := by
  obtain ⟨xs, ho, ht, hd, hb, rfl⟩ := h
  have h1 := ho.1
  rw [ho.cellAt j (by omega)]
  have : (xs.drop j)[0]? = (intVals (l.drop j))[0]? := by rw [hd]
  rw [List.getElem?_drop] at this
  rw [show j = j + 0 by omega, this]
  simp [intVals, hj, nthZ_lt hj]
theorem Deling.frozen {T : TypeId} {w wr : World} {base g n cap : Nat} {p : Int → Bool} {l : List Int} {j : Nat} (h : Deling T w wr base g n cap p l j) (i : Nat) : wr.frozen? ⟨g, i, none⟩ = false := by
  obtain ⟨xs, ho, _⟩ := h
  exact ho.frozenAt i
theorem Deling.there {T : TypeId} {w wr : World} {base g n cap : Nat} {p : Int → Bool} {l : List Int} {j : Nat} (h : Deling T w wr base g n cap p l j) {i : Nat} (hi : i < n) : ∃ v, wr.cell? ⟨g, i, none⟩ = some v := by
  obtain ⟨xs, ho, _⟩ := h
  have h1 := ho.1
  exact ⟨xs[i]'(by omega), by rw [ho.cellAt i (by omega), List.getElem?_eq_getElem]⟩
theorem Deling.base {T : TypeId} {w wr : World} {base g n cap : Nat} {p : Int → Bool} {l : List Int} {j : Nat} (h : Deling T w wr base g n cap p l j) : base ≤ g := by
  obtain ⟨xs, ho, _⟩ := h
  exact (ho.lt g rfl).1
theorem Deling.later {T : TypeId} {w wr wr' : World} {base g n cap : Nat} {p : Int → Bool} {l : List Int} {j : Nat} (h : Deling T w wr base g n cap p l j) (hb' : Below wr.heap.size wr wr') (hbase : base ≤ w.heap.size) : Deling T w wr' base g n cap p l j := by
  obtain ⟨xs, ho, ht, hd, hb, hn⟩ := h
  exact ⟨xs, owns_later ho hb', ht, hd, hb.trans (hb'.mono (Nat.le_trans hbase hb.size)), hn⟩
theorem drop_succ_of {α : Type} {xs ys : List α} {j : Nat} (h : xs.drop j = ys.drop j) : xs.drop (j + 1) = ys.drop (j + 1) := by
  rw [← List.drop_drop, ← List.drop_drop, h]
theorem Deling.skip {T : TypeId} {w wr : World} {base g n cap : Nat} {p : Int → Bool} {l : List Int} {j : Nat} (h : Deling T w wr base g n cap p l j) (hj : j < n) (hp : p (nthZ l j) = true) : Deling T w wr base g n cap p l (j + 1) := by
  obtain ⟨xs, ho, ht, hd, hb, rfl⟩ := h
  refine ⟨xs, ho, ?_, ?_, hb, rfl⟩
  · rw [keepN_no hj hp, ht, keepZ_succ hj, hp]; simp
  · unfold intVals at *
    rw [List.map_drop] at *
    exact drop_succ_of hd
theorem Deling.keep {T : TypeId} {w wr : World} {base g n cap : Nat} {p : Int → Bool} {l : List Int} {j : Nat} (h : Deling T w wr base g n cap p l j) (hj : j < n) (hp : p (nthZ l j) = false) :
    Deling T w (wr.setCell ⟨g, keepN p l j, none⟩ (.int .i64 (nthZ l j))) base g n cap p l (j + 1) := by
  have hbg := h.base
  obtain ⟨xs, ho, ht, hd, hb, rfl⟩ := h
  have hk := keepN_le p l j
  have h1 := ho.1
  refine ⟨xs.set (keepN p l j) (.int .i64 (nthZ l j)), (ho.stored _ _).1, ?_, ?_, hb.setCell hbg _, rfl⟩
  · rw [keepN_yes hj hp, List.take_succ_eq_append_getElem (by simpa using by omega), List.take_set_of_le (Nat.le_refl _), ht, keepZ_succ hj, hp]
    simp [intVals]
  · rw [List.drop_set_of_lt (by omega)]
    unfold intVals at *
    rw [List.map_drop] at *
    exact drop_succ_of hd
/-- what DeleteFunc leaves -/
def Deleted (T : TypeId) (w : World) (base : Nat) (a : Option Addr) (cap : Nat) (l : List Int) (e : Ending) (w' : World) : Prop :=
  e = .returned (.slice a l.length cap) ∧ w'.ownsRow base T 1 (.slice a l.length cap) l.length (intVals l) ∧ Below base w w'
theorem owns_cut {w : World} {base : Nat} {T : TypeId} {g n m cap : Nat} {xs : List Value} (h : w.ownsRow base T 1 (.slice (some ⟨g, 0, none⟩) n cap) n xs) (hm : m ≤ n) : w.ownsRow base T 1 (.slice (some ⟨g, 0, none⟩) m cap) m (xs.take m) := by
  obtain ⟨h1, h2⟩ := h
  rcases h2 with ⟨hv, _⟩ | ⟨g', cap', cur, hv, hb, hg, hn, hc, hs, ht⟩
  · cases hv
  · simp only [Value.slice.injEq, Option.some.injEq, Addr.mk.injEq, and_true, true_and] at hv
    obtain ⟨rfl, rfl⟩ := hv
    refine ⟨by simp; omega, .inr ⟨g, cap, cur, rfl, hb, hg, by omega, hc, hs, ?_⟩⟩
    rw [← ht, List.take_take]
    congr 1
    omega
theorem setCells_owns {base : Nat} {T : TypeId} {g n cap : Nat} : ∀ (zs : List Value) (o : Nat) (w : World) (xs : List Value), w.ownsRow base T 1 (.slice (some ⟨g, 0, none⟩) n cap) n xs →
    ∃ ys, (w.setCells g o zs).ownsRow base T 1 (.slice (some ⟨g, 0, none⟩) n cap) n ys ∧ ys.take o = xs.take o ∧ w.grownBy (w.setCells g o zs) (some g)
  | [], o, w, xs, h => ⟨xs, h, rfl, ⟨rfl, rfl, rfl, Nat.le_refl _, fun _ _ _ => rfl⟩⟩
  | z :: zs, o, w, xs, h => by
    have hs := h.stored o z
    obtain ⟨ys, h1, h2, h3⟩ := setCells_owns zs (o + 1) _ _ hs.1
    have hg := hs.2
    refine ⟨ys, h1, ?_, ⟨h3.os.trans hg.os, h3.tape.trans hg.tape, h3.output.trans hg.output, Nat.le_trans hg.size h3.size, fun k hk hne => (h3.block k (Nat.lt_of_lt_of_le hk hg.size) hne).trans (hg.block k hk hne)⟩⟩
    have h4 := congrArg (List.take o) h2
    rw [List.take_take, List.take_take, Nat.min_eq_left (by omega), List.take_set_of_le (Nat.le_refl _)] at h4
    exact h4
theorem Deling.done {T : TypeId} {w wr : World} {base g n cap : Nat} {p : Int → Bool} {l : List Int} {j : Nat} (h : Deling T w wr base g n cap p l j) (hj : ¬ j < n) (zs : List Value) (hbase : base ≤ w.heap.size) :
    Deleted T w base (some ⟨g, 0, none⟩) cap (keepZ p l) (.returned (.slice (some ⟨g, 0, none⟩) (keepN p l j) cap)) (wr.setCells g (keepN p l j) zs) := by
  have hbg := h.base
  obtain ⟨xs, ho, ht, hd, hb, rfl⟩ := h
  have hk : keepZ p (l.take j) = keepZ p l := by rw [List.take_of_length_le (by omega)]
  have hkn : keepN p l j = (keepZ p l).length := by unfold keepN; rw [hk]
  obtain ⟨ys, h1, h2, h3⟩ := setCells_owns zs (keepN p l j) wr xs ho
  have h4 := owns_cut h1 (m := keepN p l j) (by rw [hkn]; unfold keepZ; exact List.length_filter_le _ _)
  rw [h2, ht, hk] at h4
  unfold Deleted
  rw [← hkn]
  refine ⟨rfl, h4, hb.trans ⟨h3.os, h3.tape, h3.output, h3.size, fun k hk => h3.block k (by have := hb.size; omega) (by intro e; cases e; omega)⟩⟩
theorem Deling.start {T : TypeId} {w wr : World} {base g cap : Nat} {p : Int → Bool} {l : List Int} {i : Nat} (ho : wr.ownsRow base T 1 (.slice (some ⟨g, 0, none⟩) l.length cap) l.length (intVals l)) (hb : Below base w wr)
    (hi : i < l.length) (hn : noneTo p l i) (hp : p (nthZ l i) = true) : keepN p l (i + 1) = i ∧ Deling T w wr base g l.length cap p l (i + 1) := by
  have hk : ∀ j, j ≤ i → keepZ p (l.take j) = l.take j := by
    intro j
    induction j with
    | zero => intro _; simp [keepZ]
    | succ j ih =>
      intro hj
      rw [keepZ_succ (by omega), ih (by omega), hn j (by omega), List.take_succ_eq_append_getElem (by omega), nthZ_lt (by omega)]
      simp
  have h1 : keepN p l i = i := by unfold keepN; rw [hk i (Nat.le_refl _)]; simp; omega
  refine ⟨by rw [keepN_no hi hp, h1], ?_⟩
  have h2 : Deling T w wr base g l.length cap p l i := ⟨intVals l, ho, by rw [h1, hk i (Nat.le_refl _)]; simp [intVals], by simp [intVals], hb, rfl⟩
  exact h2.skip hi hp
theorem idxZ_cases (p : Int → Bool) (l : List Int) : (idxZ p l = -1 ∧ keepZ p l = l) ∨ ∃ i : Nat, idxZ p l = (i : Nat) ∧ i < l.length ∧ noneTo p l i ∧ p (nthZ l i) = true := by
  unfold idxZ
  cases h : l.findIdx? p
  · left
    rw [List.findIdx?_eq_none_iff] at h
    exact ⟨rfl, by unfold keepZ; rw [List.filter_eq_self]; intro x hx; simp [h x hx]⟩
  · right
    rename_i i
    rw [List.findIdx?_eq_some_iff_getElem] at h
    obtain ⟨hi, hp, hn⟩ := h
    refine ⟨i, rfl, hi, fun j hj => ?_, by rw [nthZ_lt hi]; exact hp⟩
    have := hn j hj
    rw [nthZ_lt (by omega)]
    simpa using this
theorem Tryz.zeroInt (w : World) : (zeroValue 3).run Tryz.prog w = .ok (.int .i64 0) w := by kernel_rfl
set_option maxHeartbeats 800000 in
theorem deleteFuncInts_any (g : Nat) (caps : Array Value) (p : Int → Bool) (l : List Int) (a : Option Addr) (cap base : Nat) (w : World) (ho : w.ownsRow base 3 1 (.slice a l.length cap) l.length (intVals l)) (hlen : l.length ≤ 1000000) (hbase : base ≤ w.heap.size)
    (hf : PredInts base g caps p l w) (eg : ∀ args w, (callFunc g args).run Tryz.prog w = .ok (.enter g args) w) :
    Calls Tryz.prog 85 #[.slice a l.length cap, .func (.func g) #[] caps] w (Deleted 3 w base a cap (keepZ p l)) := by
  have HI := Lib.hid (indexFuncInts_any g caps p l a cap w (owns_ints (l := l) ho) (by omega) base hbase hf eg)
  rcases idxZ_cases p l with ⟨h1, h2⟩ | ⟨i, h1, hi, hn, hp⟩
  · have F : Hid (∀ w', Below w.heap.size w w' → Deleted 3 w base a cap (keepZ p l) (.returned (.slice a l.length cap)) w') := fun w' hb => by
      unfold Deleted; rw [h2]; exact ⟨rfl, owns_later ho hb, hb.mono hbase⟩
    have H1 := Lib.hid h1
    clear hf eg ho h2 h1
    go_enter Tryz.func85, Tryz.ntmps85
    go_wp2_with fail
    refine HI.out.mono ?_
    rintro e w2 ⟨rfl, hb2⟩
    rw [H1.out]
    go_wp2_with fail
    go_ret
    exact F.out _ hb2
  · rcases ho.2 with ⟨hv, h0⟩ | ⟨gr, cap', cur, hv, hbg, hg, hnc, hcm, hs, ht⟩
    · omega
    simp only [Value.slice.injEq] at hv
    obtain ⟨rfl, _, rfl⟩ := hv
    have H1 := Lib.hid h1
    have HO := Lib.hid ho
    have HF := Lib.hid hf
    have HP := Lib.hid hp
    have HN := Lib.hid hn
    unfold maxLen at hcm
    clear hf ho h1 hg ht hs hp hn
    go_enter Tryz.func85, Tryz.ntmps85
    go_wp2_with fail
    refine HI.out.mono ?_
    rintro e w2 ⟨rfl, hb2⟩
    rw [H1.out]
    obtain ⟨hk, hd⟩ := Deling.start (p := p) (owns_later HO.out hb2) (hb2.mono hbase) hi HN.out HP.out
    have HD := Lib.hid hd
    have HK := Lib.hid hk
    clear hd hk
    have hi1 : (((i : Nat) : Int) == -1) = false := by rw [beq_eq_false_iff_ne]; omega
    go_wp2_with fail
    go_loopw [5, 6] (fun x y wr => ∃ j : Nat, j ≤ l.length ∧ y = .int .i64 j ∧ x = .int .i64 (keepN p l j : Nat) ∧ keepN p l j < j ∧ Deling 3 w wr base gr l.length cap p l j) (fun _ y _ => l.length - (intOf y).toNat)
    case atStart => exact ⟨i + 1, by omega, by go_num, by rw [HK.out], by rw [HK.out]; omega, HD.out⟩
    case round =>
      clear HD HK
      obtain ⟨j, hj, rfl, rfl, hkj, hd⟩ := hrel
      have HD := Lib.hid hd
      have hkl := keepN_le p l j
      by_cases hlt : j < l.length
      · have c1 := hd.cell hlt
        have hbw : Below base w wr := by obtain ⟨_, _, _, _, hb, _⟩ := hd; exact hb
        clear hd
        cases hpj : p (nthZ l j)
        · go_wp2_with fail
          refine (HF.out j hlt _ hbw).mono ?_
          rintro e w3 ⟨rfl, hb3⟩
          have hd3 := HD.out.later hb3 hbase
          obtain ⟨v, c2⟩ := hd3.there (i := keepN p l j) (by omega)
          have c3 := hd3.frozen (keepN p l j)
          have HD3 := Lib.hid (hd3.keep hlt hpj)
          have HK := Lib.hid (keepN_yes hlt hpj)
          clear hd3 hb3 c1 hbw
          go_wp2_with fail
          go_roundw
          case rel => exact ⟨j + 1, by omega, by go_num, by rw [HK.out]; go_num, by rw [HK.out]; omega, HD3.out⟩
          case measure => simp [intOf]; omega
        · go_wp2_with fail
          refine (HF.out j hlt _ hbw).mono ?_
          rintro e w3 ⟨rfl, hb3⟩
          have HD3 := Lib.hid ((HD.out.later hb3 hbase).skip hlt hpj)
          have HK := Lib.hid (keepN_no hlt hpj)
          clear hb3 c1 hbw
          go_wp2_with fail
          go_roundw
          case rel => exact ⟨j + 1, by omega, by go_num, by rw [HK.out], by rw [HK.out]; omega, HD3.out⟩
          case measure => simp [intOf]; omega
      · have hcl := fun ty => Lib.run_clear_slice (P := Tryz.prog) wr 23 3 ty (.int .i64 0) Tryz.underlying23 Tryz.zeroInt rfl rfl gr (keepN p l j) (l.length - keepN p l j) (cap - keepN p l j) (by omega) (fun t ht => by obtain ⟨v, hv⟩ := hd.there (i := keepN p l j + t) (by omega); rw [hv]; rfl) (fun t ht => hd.frozen _)
        have HF2 := Lib.hid (hd.done hlt (List.replicate (l.length - keepN p l j) (.int .i64 0)) hbase)
        have hne : ¬ cap = keepN p l j := by omega
        clear hd
        go_wp2_with fail
        go_ret
        exact HF2.out
end Go.Proofs.YtngbimgabcacpaaGreat
