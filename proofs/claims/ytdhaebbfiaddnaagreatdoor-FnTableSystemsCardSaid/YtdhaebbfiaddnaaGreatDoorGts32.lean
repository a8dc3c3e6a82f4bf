/-
  l06Insert of the reference.
-/
import Derived.Test.YtdhaebbfiaddnaaGreatDoorGts27
import Derived.Test.YtdhaebbfiaddnaaGreatDoorGts31
import Derived.Test.YtdhaebbfiaddnaaGreatDoorGts22
import Derived.Test.YtdhaebbfiaddnaaGreatDoorGts17
import Derived.Test.YtdhaebbfiaddnaaGreatDoorGts29
import Derived.Test.YtdhaebbfiaddnaaGreatDoorGts30
import Derived.Test.YtdhaebbfiaddnaaGreatDoorGts09
namespace Go.Proofs.YtdhaebbfiaddnaaGreatDoor
open Go.RowKit
set_option linter.unusedVariables false
/-- a valid table in memory, its products in a row of its own -/
def TabV (base : Nat) (w : World) (v : Value) : Prop := ∃ (m : Nat) (l : List Int) (a : Option Addr) (cap : Nat), TabG m l ∧ v = .agg #[.int .i64 (m : Nat), .slice a l.length cap] ∧ w.ownsRow base 3 1 (.slice a l.length cap) l.length (intVals l)
theorem TabV.later {base : Nat} {w w' : World} {v : Value} (h : TabV base w v) (hb : Below w.heap.size w w') : TabV base w' v := by
  obtain ⟨m, l, a, cap, h1, h2, h3⟩ := h
  exact ⟨m, l, a, cap, h1, h2, owns_later h3 hb⟩
theorem TabV.down {base base' : Nat} {w : World} {v : Value} (h : TabV base w v) (hb : base' ≤ base) : TabV base' w v := by
  obtain ⟨m, l, a, cap, h1, h2, h3⟩ := h
  exact ⟨m, l, a, cap, h1, h2, owns_mono h3 hb⟩
theorem TabG.two : TabG 2 [0, 1, 1, 1] := by
  refine ⟨[0, 1, 1, 1], rfl, ⟨by decide, by decide, by decide, by decide⟩, by decide, by decide, ?_⟩
  have h : ∀ i, i < 2 → ∀ j, j < 2 → ∀ k, k < 2 → tm 2 [0, 1, 1, 1] (tm 2 [0, 1, 1, 1] i j) k = tm 2 [0, 1, 1, 1] i (tm 2 [0, 1, 1, 1] j k) := by decide
  exact fun i j k hi hj hk => h i hi j hj k hk
theorem TabV.mon {k : Int} {R : List RulD} {w' : World} {L : List ByteArray} {P : List Int} {base : Nat} {aP : Option Addr} {cP : Nat} (h : MonIs k R L P true) (ho : w'.ownsRow base 3 1 (.slice aP P.length cP) P.length (intVals P)) :
    TabV base w' (.agg #[.int .i64 (L.length : Nat), .slice aP P.length cP]) := by
  obtain ⟨ln, h1, h2, _⟩ := mon_table h
  exact ⟨L.length, P, aP, cP, ⟨ln, h1, h2⟩, rfl, ho⟩
theorem TabV.lit (w : World) : TabV w.heap.size (w.alloc (.cells #[.int .i64 0, .int .i64 1, .int .i64 1, .int .i64 1] 3)) (.agg #[.int .i64 2, .slice (some ⟨w.heap.size, 0, none⟩) 4 4]) :=
  ⟨2, [0, 1, 1, 1], some ⟨w.heap.size, 0, none⟩, 4, TabG.two, rfl, World.ownsRow_lit w #[.int .i64 0, .int .i64 1, .int .i64 1, .int .i64 1] 4 (Nat.le_refl _) (by unfold maxLen; omega) rfl⟩
def tabLits : List ByteArray := [⟨#[49, 32, 97, 97, 97, 62, 46]⟩, ⟨#[49, 32, 97, 97, 97, 97, 62, 97, 97]⟩, ⟨#[50, 32, 97, 97, 62, 46, 32, 98, 98, 62, 46, 32, 98, 97, 62, 97, 98]⟩, ⟨#[50, 32, 97, 97, 62, 46, 32, 98, 98, 62, 46, 32, 98, 97, 98, 62, 97, 98, 97]⟩, ⟨#[50, 32, 97, 97, 62, 97, 32, 98, 98, 62, 98, 32, 98, 97, 62, 97, 98]⟩, ⟨#[50, 32, 97, 97, 62, 97, 32, 97, 98, 62, 97, 32, 98, 97, 62, 98, 32, 98, 98, 62, 98]⟩, ⟨#[49]⟩, ⟨#[49, 32, 97, 97, 62, 97]⟩, ⟨#[50, 32, 97, 97, 97, 62, 46, 32, 98, 98, 62, 46, 32, 97, 97, 98, 62, 98, 97, 32, 97, 98, 97, 62, 98, 32, 98, 97, 97, 62, 97, 98, 32, 98, 97, 98, 62, 97, 97]⟩, ⟨#[50, 32, 97, 97, 62, 46, 32, 98, 98, 98, 62, 46, 32, 97, 98, 98, 62, 98, 97, 32, 97, 98, 97, 62, 98, 98, 32, 98, 97, 98, 62, 97, 32, 98, 98, 97, 62, 97, 98]⟩, ⟨#[50, 32, 97, 97, 62, 97, 32, 98, 98, 62, 98, 32, 97, 98, 97, 62, 97, 98, 32, 98, 97, 98, 62, 97, 98]⟩]
theorem tabLits_size : ∀ i, i < tabLits.length → (nthS tabLits i).size ≤ 100 := by decide
/-- the box of the result behind a call -/
theorem alloc_belowT (w : World) (o : Obj) : Below w.heap.size w (w.alloc o) := (Below.refl _ _).alloc (Nat.le_refl _) o
theorem grown_ofB {w w1 w2 : World} {B : Nat} (h : w.grownBy w1 (some B)) (hb : Below w1.heap.size w1 w2) : w.grownBy w2 (some B) :=
  grown_tr h ⟨hb.os, hb.tape, hb.output, hb.size, fun k hk _ => hb.block k hk⟩
theorem grown_set2 {w w1 : World} {B g o : Nat} {v : Value} (h : w.grownBy w1 (some B)) (hg : w.heap.size ≤ g) : w.grownBy (w1.setCell ⟨g, o, none⟩ v) (some B) := by
  have hszc : (w1.setCell ⟨g, o, none⟩ v).heap.size = w1.heap.size := by simp
  exact ⟨h.os, h.tape, h.output, by rw [hszc]; exact h.size, fun k hk hne => by
    unfold World.setCell
    rw [Array.getElem?_modify, if_neg (fun e : g = k => by omega)]; exact h.block k hk hne⟩
theorem CurAt.set {w : World} {B : Nat} {a : Option Addr} {n cap g o : Nat} {v : Value} (h : CurAt w B a n cap) (hg : B ≠ g) : CurAt (w.setCell ⟨g, o, none⟩ v) B a n cap := by
  obtain ⟨i, hh, h1, h2⟩ := h
  exact ⟨i, hh, by
    unfold World.setCell
    rw [Array.getElem?_modify, if_neg (fun e : g = B => hg e.symm)]; exact h1, h2⟩
theorem IntsIn.setFar {w : World} {a : Option Addr} {l : List Int} {x : Value} {g o base : Nat} (h3 : IntsIn w a l) (h5 : ∀ x, a = some x → base ≤ x.block) (hg : g < base) : IntsIn (w.setCell ⟨g, o, none⟩ x) a l := by
  rcases h3 with h3 | ⟨b, off, ha, hc⟩
  · exact .inl h3
  · refine .inr ⟨b, off, ha, fun i hi => ?_⟩
    have hb : base ≤ b := h5 _ ha
    have e : (w.setCell ⟨g, o, none⟩ x).heap[b]? = w.heap[b]? := by
      unfold World.setCell
      rw [Array.getElem?_modify, if_neg (fun e : g = b => by omega)]
    rw [World.cell?_of_block (w := w) e]
    exact hc i hi
theorem TabV.set {w : World} {v x : Value} {g o base : Nat} (h : TabV base w v) (hg : g < base) : TabV base (w.setCell ⟨g, o, none⟩ x) v := by
  obtain ⟨m, l, a, cap, h1, rfl, h3⟩ := h
  exact ⟨m, l, a, cap, h1, rfl, ownsRow_setCell_below h3 hg x⟩
/-- what a table's draw leaves -/
def RetTV (B : Nat) (a : Option Addr) (l : List UInt8) (cap : Nat) (w : World) (e : Ending) (w' : World) : Prop := ∃ v, e = .returned v ∧ TabV (w.heap.size + 1) w' v ∧ CurOk w' B a l cap ∧ w.grownBy w' (some B)
theorem tv_box {w w1 : World} {B : Nat} {o : Obj} (hg : (w.alloc o).grownBy w1 (some B)) (hB : B < w.heap.size) : w1.heap[w.heap.size]? = some o :=
  (hg.block w.heap.size (by simp) (fun e => by have := Option.some.inj e; omega)).trans (alloc_at w o)
theorem box_sets {W : World} {g : Nat} {x y : Value} {T : TypeId} (h : W.heap[g]? = some (.cells #[x, y] T (0, 0))) (u v : Value) : (W.frozen? ⟨g, 0, none⟩ = false ∧ W.frozen? ⟨g, 1, none⟩ = false) ∧ (((W.setCell ⟨g, 0, none⟩ u).setCell ⟨g, 1, none⟩ v).cell? ⟨g, 0, none⟩ = some u ∧ ((W.setCell ⟨g, 0, none⟩ u).setCell ⟨g, 1, none⟩ v).cell? ⟨g, 1, none⟩ = some v) ∧ W.cell? ⟨g, 0, none⟩ = some x ∧ W.cell? ⟨g, 1, none⟩ = some y :=
  ⟨⟨by simp [World.frozen?, h], by simp [World.frozen?, h]⟩, sys_cells (set_two h u v), sys_cells h⟩
/-- a literal row of strings is drawn from: the row in the walk's own form -/
theorem strLit_arr (B : Nat) (a : Option Addr) (l : List UInt8) (cap : Nat) (ls : List ByteArray) (arr : Array Value) (n g : Nat) (w : World) (h : CurOk w B a l cap) (hg : w.heap.size = g) (h1 : 1 ≤ n) (h2 : n ≤ 256) (he : (strVals ls).toArray = arr) (hn : ls.length = n) (hz : ∀ i, i < ls.length → (nthS ls i).size ≤ 100) :
    Calls Tryz.prog 62 #[.pointer (some ⟨B, 0, none⟩), .slice (some ⟨g, 0, none⟩) n n] (w.alloc (.cells arr 9)) fun e w' => ∃ s : ByteArray, s.size ≤ 100 ∧ e = .returned (.string s) ∧ CurOk w' B a l cap ∧ w.grownBy w' (some B) := by
  subst he hn hg
  exact (strLit_any B a l cap ls w h h1 h2).mono fun _ _ ⟨i, hi, he, hc, hg⟩ => ⟨_, hz i hi, he, hc, hg⟩
set_option maxRecDepth 20000 in
set_option maxHeartbeats 2000000 in
theorem l08Draw_any (B : Nat) (a : Option Addr) (l : List UInt8) (cap : Nat) (w : World) (h : CurOk w B a l cap) :
    Calls Tryz.prog 51 #[.pointer (some ⟨B, 0, none⟩)] w (RetTV B a l cap w) := by
  have HC0 := Lib.hid h
  have HLT := Lib.hid h.lt
  clear h
  go_enter Tryz.func51, Tryz.ntmps51
  go_wp2_with fail
  refine (strLit_arr B a l cap tabLits _ 11 _ _ (HC0.out.alloc _) (by simp) (by decide) (by decide) (by kernel_rfl) (by kernel_rfl) tabLits_size).mono ?_
  rintro e w2 ⟨s, hz, rfl, hc2, hg2⟩
  have HX2 := Lib.hid (tv_box hg2 HLT.out)
  have HG2 := Lib.hid (grown_tr (grown_alloc ⟨rfl, rfl, rfl, Nat.le_refl _, fun _ _ _ => rfl⟩ _) hg2)
  have HC2 := Lib.hid hc2.at_
  clear hc2 hg2
  go_wp2_with fail
  refine (specParseSystem_any s _ (by omega)).mono ?_
  rintro e w3 ⟨k, R, aR, cR, b, ⟨hsh, hn⟩, rfl, hR, hb3⟩
  have hl2 : w.heap.size < w2.heap.size := (Array.getElem?_eq_some_iff.1 HX2.out).1
  have HX3 := Lib.hid ((hb3.block w.heap.size hl2).trans HX2.out)
  have HG3 := Lib.hid (grown_ofB HG2.out hb3)
  have HC3 := Lib.hid (HC2.out.later hb3)
  have HRL := Lib.hid hR
  have HSZ := Lib.hid (hsh.sz (show s.size + 1 ≤ maxLen by unfold maxLen; omega))
  have hnR : R.length ≤ 2 ^ 40 := by omega
  clear hb3 HX2 HG2 HC2 hR hsh hl2 hn
  go_wp2_with fail
  refine (specMonoidOf_any k R aR cR _ (HRL.out.later (alloc_belowT _ _)) hnR HSZ.out).mono ?_
  rintro e w5 ⟨L, P, f, aP, aL, cP, cL, hmon, rfl, hoP, hoL, hb5⟩
  have hb35 := Below.now (alloc_belowT w3 (.cells #[.int .i64 k, .slice aR R.length cR] 25)) hb5
  have hl3 : w.heap.size < w3.heap.size := (Array.getElem?_eq_some_iff.1 HX3.out).1
  have hx5 := (hb35.block w.heap.size hl3).trans HX3.out
  have HG5 := Lib.hid (grown_ofB HG3.out hb35)
  have HC5 := Lib.hid (HC3.out.later hb35)
  have HMN := Lib.hid hmon
  have HOP : Hid (w5.ownsRow w3.heap.size 3 1 (.slice aP P.length cP) P.length (intVals P)) := Lib.hid (owns_mono hoP (by simp))
  have HL3 := Lib.hid hl3
  have HLP := Lib.hid hmon.few.2
  clear hoL hb5 hb35 HX3 HG3 HC3 HRL HSZ hmon hoP hl3
  go_upto_region 3 with fail
  have hx6 := ((alloc_belowT w5 (.cells #[.int .i64 (L.length : Nat), .slice aP P.length cP] 60)).block w.heap.size (Array.getElem?_eq_some_iff.1 hx5).1).trans hx5
  obtain ⟨y0, y1⟩ := sys_cells (alloc_at w5 (.cells #[.int .i64 (L.length : Nat), .slice aP P.length cP] 60))
  have HG6 := Lib.hid (grown_ofB HG5.out (alloc_belowT w5 (.cells #[.int .i64 (L.length : Nat), .slice aP P.length cP] 60)))
  have HC6 := Lib.hid (HC5.out.later (alloc_belowT w5 (.cells #[.int .i64 (L.length : Nat), .slice aP P.length cP] 60)))
  have HO6 := Lib.hid (owns_later HOP.out (alloc_belowT w5 (.cells #[.int .i64 (L.length : Nat), .slice aP P.length cP] 60)))
  clear HG5 HC5 HOP hx5
  generalize w5.alloc (.cells #[.int .i64 (L.length : Nat), .slice aP P.length cP] 60) = w6 at *
  have HBN : Hid (B ≠ w.heap.size) := Lib.hid (by have := HLT.out; omega)
  cases f
  · have hl6 : w.heap.size < w6.heap.size := (Array.getElem?_eq_some_iff.1 hx6).1
    have F : Hid (RetTV B a l cap w (.returned (.agg #[.int .i64 2, .slice (some ⟨w6.heap.size, 0, none⟩) 4 4])) (((w6.alloc (.cells #[.int .i64 0, .int .i64 1, .int .i64 1, .int .i64 1] 3)).setCell ⟨w.heap.size, 0, none⟩ (.int .i64 2)).setCell ⟨w.heap.size, 1, none⟩ (.slice (some ⟨w6.heap.size, 0, none⟩) 4 4))) := Lib.hid (by
      have hg := grown_set2 (o := 1) (v := .slice (some ⟨w6.heap.size, 0, none⟩) 4 4) (grown_set2 (o := 0) (v := .int .i64 2) (grown_ofB HG6.out (alloc_belowT w6 (.cells #[.int .i64 0, .int .i64 1, .int .i64 1, .int .i64 1] 3))) (Nat.le_refl w.heap.size)) (Nat.le_refl w.heap.size)
      exact ⟨_, rfl, (((TabV.lit w6).down hl6).set (Nat.lt_succ_self _)).set (Nat.lt_succ_self _), HC0.out.next (((HC6.out.later (alloc_belowT _ _)).set HBN.out).set HBN.out) hg, hg⟩)
    rw [World.setCell_alloc_past _ _ _ _ hl6, World.setCell_alloc_past _ _ _ _ (by simpa using hl6)] at F
    obtain ⟨⟨f0, f1⟩, ⟨u0, u1⟩, z0, z1⟩ := box_sets hx6 (.int .i64 2) (.slice (some ⟨w6.heap.size, 0, none⟩) 4 4)
    clear hx6 y0 y1 HG6 HC6 HO6 HMN
    go_wp2_with fail
    refine bodyPost_ret (v := .agg #[.int .i64 2, .slice (some ⟨w6.heap.size, 0, none⟩) 4 4]) ?_ rfl F.out
    have v0 := (World.cell?_alloc_past (w := (w6.setCell ⟨w.heap.size, 0, none⟩ (.int .i64 2)).setCell ⟨w.heap.size, 1, none⟩ (.slice (some ⟨w6.heap.size, 0, none⟩) 4 4)) (.cells #[.int .i64 0, .int .i64 1, .int .i64 1, .int .i64 1] 3) w.heap.size 0 (by simpa using hl6)).trans u0
    have v1 := (World.cell?_alloc_past (w := (w6.setCell ⟨w.heap.size, 0, none⟩ (.int .i64 2)).setCell ⟨w.heap.size, 1, none⟩ (.slice (some ⟨w6.heap.size, 0, none⟩) 4 4)) (.cells #[.int .i64 0, .int .i64 1, .int .i64 1, .int .i64 1] 3) w.heap.size 1 (by simpa using hl6)).trans u1
    simp [results, Tryz.results51, go_sem, v0, v1]
  · have hg := grown_set2 (o := 1) (v := .slice aP P.length cP) (grown_set2 (o := 0) (v := .int .i64 (L.length : Nat)) HG6.out (Nat.le_refl w.heap.size)) (Nat.le_refl w.heap.size)
    have hO : ((w6.setCell ⟨w.heap.size, 0, none⟩ (.int .i64 (L.length : Nat))).setCell ⟨w.heap.size, 1, none⟩ (.slice aP P.length cP)).ownsRow w3.heap.size 3 1 (.slice aP P.length cP) P.length (intVals P) := ownsRow_setCell_below (ownsRow_setCell_below HO6.out HL3.out _) HL3.out _
    have F : Hid (RetTV B a l cap w (.returned (.agg #[.int .i64 (L.length : Nat), .slice aP P.length cP])) ((w6.setCell ⟨w.heap.size, 0, none⟩ (.int .i64 (L.length : Nat))).setCell ⟨w.heap.size, 1, none⟩ (.slice aP P.length cP))) := Lib.hid ⟨_, rfl, (TabV.mon HMN.out hO).down HL3.out, HC0.out.next ((HC6.out.set HBN.out).set HBN.out) hg, hg⟩
    obtain ⟨⟨f0, f1⟩, ⟨u0, u1⟩, z0, z1⟩ := box_sets hx6 (.int .i64 (L.length : Nat)) (.slice aP P.length cP)
    clear hx6 HG6 HC6 HO6 HMN hg hO
    go_wp2_with fail
    refine bodyPost_ret (v := .agg #[.int .i64 (L.length : Nat), .slice aP P.length cP]) ?_ rfl F.out
    simp [results, Tryz.results51, go_sem, u0, u1]
/-- what MakeTable leaves -/
def RetMT (w : World) (e : Ending) (w' : World) : Prop := ∃ (m : Nat) (l : List Int) (a : Option Addr) (cap : Nat), TabG m l ∧ e = .returned (.agg #[.int .i64 (m : Nat), .slice a l.length cap]) ∧ IntsIn w' a l ∧ (l.length ≤ cap ∧ cap ≤ maxLen) ∧ Below w.heap.size w w'
set_option maxRecDepth 20000 in
set_option maxHeartbeats 1000000 in
theorem makeTable_any (a : Option Addr) (l : List UInt8) (cap k : Nat) (w : World) (hl : BytesIn w a l) (hlen : l.length ≤ 2 ^ 40) (hk : k ≤ 1000) :
    Calls Tryz.prog 25 #[.slice a l.length cap, .int .i64 (k : Nat)] w (RetMT w) := by
  have HN := Lib.hid (l31New_any a l cap k (w.alloc (.cells #[.int .i64 0, .slice none 0 0] 60)) (hl.later (alloc_belowT _ _)) hlen hk)
  have e1 : (w.alloc (.cells #[.int .i64 0, .slice none 0 0] 60)).heap.size = w.heap.size + 1 := by simp
  have HB0 := Lib.hid (alloc_belowT w (.cells #[.int .i64 0, .slice none 0 0] 60))
  have HA := Lib.hid (alloc_at w (.cells #[.int .i64 0, .slice none 0 0] 60))
  rw [e1] at HN
  have HE := Lib.hid e1
  clear hl e1
  go_enter Tryz.func25, Tryz.ntmps25
  go_wp2_with fail
  refine HN.out.mono ?_
  rintro e w2 ⟨rfl, hc, hb⟩
  have HC := Lib.hid hc
  have hl1 : w.heap.size < w2.heap.size := by have := hc.lt; omega
  have hb0 : Below w.heap.size w w2 := Below.now HB0.out (by rw [HE.out]; exact hb)
  have HB := Lib.hid hb0
  have HX := Lib.hid ((hb.block w.heap.size (by omega)).trans HA.out)
  clear hc hb HN hb0 HA HB0 HE
  go_wp2_with fail
  refine (l08Draw_any _ a l cap _ HC.out).mono ?_
  rintro e w3 ⟨v, rfl, ⟨m, z, az, cz, hT, rfl, hown⟩, hc3, hg3⟩
  have hz := owns_ints (l := z) hown
  have hcap := owns_capS hown
  have hfar := owns_base hown
  clear hown
  have HB3 := Lib.hid (below_curs HB.out hg3 (Nat.le_succ _))
  have hx := (hg3.block w.heap.size hl1 (fun e => by have := Option.some.inj e; omega)).trans HX.out
  obtain ⟨⟨f0, f1⟩, ⟨u0, u1⟩, z0, z1⟩ := box_sets hx (.int .i64 (m : Nat)) (.slice az z.length cz)
  have F : Hid (RetMT w (.returned (.agg #[.int .i64 (m : Nat), .slice az z.length cz])) ((w3.setCell ⟨w.heap.size, 0, none⟩ (.int .i64 (m : Nat))).setCell ⟨w.heap.size, 1, none⟩ (.slice az z.length cz))) := Lib.hid ⟨m, z, az, cz, hT, rfl, (hz.setFar hfar (by omega)).setFar hfar (by omega), hcap, (HB3.out.setCell (Nat.le_refl _) _).setCell (Nat.le_refl _) _⟩
  clear hx hz hT hcap hfar hc3 hg3 HC HB HX HB3
  go_wp2_with fail
  refine bodyPost_ret (v := .agg #[.int .i64 (m : Nat), .slice az z.length cz]) ?_ rfl F.out
  simp [results, Tryz.results25, go_sem, u0, u1]
end Go.Proofs.YtdhaebbfiaddnaaGreatDoor
namespace Go.Proofs.YtdhaebbfiaddnaaGreatDoor
open Go.RowKit
set_option linter.unusedVariables false
set_option maxRecDepth 100000 in
set_option maxHeartbeats 1000000 in
theorem specStepsOf_bad (k : Int) (R : List RulD) (a : Option Addr) (cap : Nat) (w0 : ByteArray) (w : World) (hl : RulesIn w a R) (hlen : R.length ≤ 2 ^ 40) (hz : SzR R) (hn : ¬ rulesP k R) :
    Calls Tryz.prog 168 #[.agg #[.int .i64 k, .slice a R.length cap], .string w0] w fun e w' => e = .returned (.slice none 0 0) ∧ Below w.heap.size w w' := by
  have HL := Lib.hid hl
  have HN := Lib.hid hn
  have HRO := Lib.hid (fun W h => specRulesOk_any k R a cap W h hlen hz)
  have HA := Lib.hid (fun o => alloc_belowS w o)
  clear hl hz hn
  go_enter Tryz.func168, Tryz.ntmps168
  go_wp2_with fail
  refine (HRO.out _ (HL.out.later (HA.out _))).mono ?_
  rintro e w1 ⟨bb, hbb, rfl, hb1⟩
  have HW1 := Lib.hid (Below.now (HA.out _) hb1)
  have hbf : bb = false := by
    cases bb with
    | false => rfl
    | true => exact absurd (hbb.1 rfl) HN.out
  subst hbf
  clear hbb hb1
  go_wp2_with fail
  go_ret
  exact ⟨rfl, HW1.out⟩
set_option maxRecDepth 100000 in
set_option maxHeartbeats 1000000 in
theorem specFirstStep_bad (k : Int) (R : List RulD) (a : Option Addr) (cap : Nat) (w0 : ByteArray) (w : World) (hl : RulesIn w a R) (hlen : R.length ≤ 2 ^ 40) (hz : SzR R) (hn : ¬ rulesP k R) :
    Calls Tryz.prog 160 #[.agg #[.int .i64 k, .slice a R.length cap], .string w0] w fun e w' => e = .returned (.tuple #[.agg #[.int .i64 0, .int .i64 0], .bool false]) ∧ Below w.heap.size w w' := by
  have HL := Lib.hid hl
  have HSO := Lib.hid (fun W h => specStepsOf_bad k R a cap w0 W h hlen hz hn)
  have HA2 := Lib.hid (fun o o2 => Below.now (alloc_belowS w o) (alloc_belowS (w.alloc o) o2))
  have e1 : (w.alloc (.cells #[.int .i64 k, .slice a R.length cap] 25)).heap.size = w.heap.size + 1 := by simp
  have HBX := Lib.hid (fun W2 (h : Below ((w.alloc (.cells #[.int .i64 k, .slice a R.length cap] 25)).alloc (.cells #[.int .i64 0, .int .i64 0] 30)).heap.size ((w.alloc (.cells #[.int .i64 k, .slice a R.length cap] 25)).alloc (.cells #[.int .i64 0, .int .i64 0] 30)) W2) => box_facts h)
  rw [e1] at HBX
  clear hl hz hn e1
  go_enter Tryz.func160, Tryz.ntmps160
  go_wp2_with fail
  refine (HSO.out _ (HL.out.later (HA2.out _ _))).mono ?_
  rintro e w1 ⟨rfl, hb1⟩
  obtain ⟨⟨b0, b1⟩, f0, f1⟩ := HBX.out w1 hb1
  have HW1 := Lib.hid (Below.now (HA2.out _ _) hb1)
  have HSZ : Hid (w.heap.size ≤ w.heap.size + 1) := Lib.hid (by omega)
  clear hb1
  go_wp2_with fail
  refine bodyPost_ret (v := .tuple #[.agg #[.int .i64 0, .int .i64 0], .bool false]) ?_ rfl ?_
  · simp [results, Tryz.results160, go_sem, b0, b1]
  · exact ⟨rfl, (HW1.out.setCell HSZ.out _).setCell HSZ.out _⟩
set_option maxRecDepth 100000 in
set_option maxHeartbeats 1000000 in
theorem l04Trace_bad (k : Int) (R : List RulD) (a : Option Addr) (cap : Nat) (w0 : ByteArray) (w : World) (hl : RulesIn w a R) (hlen : R.length ≤ 2 ^ 40) (hz : SzR R) (hn : ¬ rulesP k R) :
    Calls Tryz.prog 147 #[.agg #[.int .i64 k, .slice a R.length cap], .string w0] w fun e w' => ∃ v, e = .returned (.tuple #[v, .string w0]) ∧ Below w.heap.size w w' := by
  have HL := Lib.hid hl
  have HFS := Lib.hid (fun W h => specFirstStep_bad k R a cap w0 W h hlen hz hn)
  have hb1 := alloc_belowS w (.cells #[.int .i64 k, .slice a R.length cap] 25)
  have HBX := Lib.hid (fun W2 (h : Below (w.alloc (.cells #[.int .i64 k, .slice a R.length cap] 25)).heap.size (w.alloc (.cells #[.int .i64 k, .slice a R.length cap] 25)) W2) => box_two h)
  clear hl hz hn
  go_enter Tryz.func147, Tryz.ntmps147
  go_wp2_with fail
  have HW1 := Lib.hid hb1
  generalize w.alloc (.cells #[.int .i64 k, .slice a R.length cap] 25) = w1 at *
  clear hb1
  go_loopw [1, 6] (fun vw vo wr => vw = .string w0 ∧ (∃ g, vo = .slice (some ⟨g, 0, none⟩) 0 0) ∧ Below w1.heap.size w1 wr) (fun _ _ _ => 0)
  case atStart => exact ⟨rfl, ⟨_, rfl⟩, alloc_belowS _ _⟩
  case round =>
    obtain ⟨rfl, ⟨g, rfl⟩, hbd⟩ := hrel
    obtain ⟨s0, s1⟩ := HBX.out wr hbd
    have HB := Lib.hid hbd
    clear hbd
    go_wp2_with fail
    refine (HFS.out wr (HL.out.later (Below.now HW1.out HB.out))).mono ?_
    rintro e w2 ⟨rfl, hb2⟩
    have HB2 := Lib.hid (Below.now HW1.out (Below.now HB.out hb2))
    clear hb2
    go_wp2_with fail
    go_ret2
    exact ⟨_, rfl, Below.now HB2.out (alloc_belowS _ _)⟩
/-- the words behind an insertion: reduced, if the rules are not too many -/
noncomputable def phiF (R : List RulD) (r : RulD) (u : ByteArray) : ByteArray := if (allF R r).length ≤ 12 then nfC (allF R r) u else u
theorem l04Trace_all (k : Int) (R : List RulD) (r : RulD) (a : Option Addr) (cap : Nat) (u : ByteArray) (w : World) (hl : RulesIn w a (allF R r)) (hs : sysP k R) (hr : NewR k r) (hu : wordOkB k u = true) :
    Calls Tryz.prog 147 #[.agg #[.int .i64 k, .slice a (allF R r).length cap], .string u] w fun e w' => ∃ v, e = .returned (.tuple #[v, .string (phiF R r u)]) ∧ Below w.heap.size w w' := by
  have ha := allF_sys hs hr
  have hlen := allF_len hs r
  unfold phiF
  by_cases h : (allF R r).length ≤ 12
  · rw [if_pos h]
    have hsys : sysP k (allF R r) := ⟨⟨⟨ha.1.1, h⟩, ha.1.2⟩, ha.2⟩
    exact (l04Trace_any k (allF R r) a cap u w hl hsys hu).mono fun e w' ⟨v, x, hx, he, hb⟩ => ⟨v, by rw [nfC_eq hx]; exact he, hb⟩
  · rw [if_neg h]
    refine l04Trace_bad k (allF R r) a cap u w hl (by omega) (fun j hj => ?_) (fun hp => h hp.1.2)
    have h1 := (ha.1.2 _ (nthR_mem hj)).1.2
    unfold maxLen
    omega
end Go.Proofs.YtdhaebbfiaddnaaGreatDoor
namespace Go.Proofs.YtdhaebbfiaddnaaGreatDoor
open Go.RowKit
set_option linter.unusedVariables false
/-- the sides of those pairs among some that have to do with the last rule -/
def newL (N : List RulD) (l : List PairD) : List RulD := (l.filter (lastP N)).map (sidesF N)
theorem newL_take {N : List RulD} {S : List PairD} {q : Nat} (h : q < S.length) : newL N (S.take (q + 1)) = newL N (S.take q) ++ newL N [S[q]] := by
  unfold newL
  rw [List.take_succ_eq_append_getElem h, List.filter_append, List.map_append]
theorem newL_yes {N : List RulD} {p : PairD} (h : lastP N p = true) : newL N [p] = [sidesF N p] := by simp [newL, h]
theorem newL_no {N : List RulD} {p : PairD} (h : lastP N p = false) : newL N [p] = [] := by simp [newL, h]
theorem newL_len (N : List RulD) (l : List PairD) : (newL N l).length ≤ l.length := by
  unfold newL
  rw [List.length_map]
  exact List.length_filter_le _ _
theorem ruleCells_one1 (l : List RulD) (x y : ByteArray) : ruleCells (l ++ [(x, y)]) = ruleCells l ++ [.string x, .string y] := by rw [ruleCells_app]; rfl
theorem lastP_int {N : List RulD} (h : 0 < N.length) (x y : Nat) (u : ByteArray) (i : Nat) : lastP N (u, x, y, i) = (((x : Int) == (N.length : Int) - 1) || ((y : Int) == (N.length : Int) - 1)) := by
  have key : ∀ z : Nat, decide (z = N.length - 1) = ((z : Int) == (N.length : Int) - 1) := fun z => by
    rw [Bool.eq_iff_iff, decide_eq_true_eq, beq_iff_eq]
    omega
  unfold lastP
  rw [← key, ← key]
end Go.Proofs.YtdhaebbfiaddnaaGreatDoor
namespace Go.Proofs.YtdhaebbfiaddnaaGreatDoor
open Go.RowKit
set_option linter.unusedVariables false
theorem off_emptyAt {W : World} {g base : Nat} {T : TypeId} {size : Nat} (h : W.heap[g]? = some (.cells #[] T (0, 0))) (hb : base ≤ g) : ownsOff W base T size (.slice (some ⟨g, 0, none⟩) 0 0) 0 [] :=
  ⟨by simp, .inr ⟨g, 0, 0, #[], rfl, hb, h, Nat.le_refl _, Nat.zero_le _, by simp, by simp⟩⟩
theorem src_box {P : Program} {W : World} {g : Nat} {x y : ByteArray} {T : TypeId} {tx e' : TypeId} (hk : P.underlying tx = some (.slice e')) (h : W.heap[g]? = some (.cells #[.string x, .string y] T (0, 0))) (c : Nat) : Go.Src P 2 tx (.slice (some ⟨g, 0, none⟩) 1 c) 1 [.string x, .string y] W := by
  refine Go.Src.ofSlice W hk ⟨g, 0, none⟩ 1 c _ rfl (fun j u hu => ?_) (fun u hu => by simp at hu; rcases hu with rfl | rfl <;> rfl)
  rw [add_off, Nat.zero_add, cell_of_row W g j _ T (0, 0) h]
  simpa using hu
/-- what the first loop has made: the rules that fell out, and those that are kept -/
structure InsSt (w1 wr : World) (g : Nat) (k : Int) (v6 vL : Value) (G K : List RulD) : Prop where
  gone : Bld 36 2 w1 wr v6 G.length (ruleCells G)
  rec2 : Rec2 25 36 2 w1 wr g (.int .i64 k) vL K.length (ruleCells K)
  far : ∀ b, v6.ownBlock = some b → b ≠ g ∧ vL.ownBlock ≠ some b
theorem InsSt.later {w1 wr wr' : World} {g : Nat} {k : Int} {v6 vL : Value} {G K : List RulD} (h : InsSt w1 wr g k v6 vL G K) (hb : Below wr.heap.size wr wr') : InsSt w1 wr' g k v6 vL G K := ⟨h.gone.later hb, h.rec2.later hb, h.far⟩
theorem Rec2.keptG {TT T : TypeId} {size : Nat} {w wr wr' : World} {g : Nat} {x v : Value} {n : Nat} {xs : List Value} {own : Option Nat} (h : Rec2 TT T size w wr g x v n xs) (hg : wr.grownBy wr' own) (h1 : own ≠ some g) (h2 : ∀ b, v.ownBlock = some b → own ≠ some b) (h3 : ∀ b, own = some b → w.heap.size ≤ b) : Rec2 TT T size w wr' g x v n xs := by
  refine ⟨(hg.block g h.lt (fun e => h1 e.symm)).trans h.blk, h.own.kept hg ?_, h.le, h.below.grown hg h.below.size h3⟩
  cases hv : v.ownBlock with
  | none => exact .inl rfl
  | some b => exact .inr (fun e => h2 b hv e.symm)
/-- a rule falls out -/
theorem InsSt.putG {w1 wr w' : World} {g : Nat} {k : Int} {v6 v' vL : Value} {G K : List RulD} {x y : ByteArray} {ob : Obj} (h : InsSt w1 wr g k v6 vL G K) (hb : Bld 36 2 w1 w' v' (G.length + 1) (ruleCells G ++ [.string x, .string y])) (hg : (wr.alloc ob).grownBy w' v6.ownBlock)
    (ho : v'.ownBlock = v6.ownBlock ∨ v'.ownBlock = some (wr.alloc ob).heap.size) : InsSt w1 w' g k v' vL (G ++ [(x, y)]) K := by
  have hal := alloc_belowS wr ob
  have h2 := h.later hal
  refine ⟨by rw [List.length_append, ruleCells_one1]; exact hb, h2.rec2.keptG hg (fun e => (h.far g e).1 rfl) (fun b hb2 e => (h.far b e).2 hb2) (fun b e => (h.gone.1.lt b e).1), fun b e => ?_⟩
  rcases ho with ho | ho
  · exact h.far b (ho ▸ e)
  · rw [ho] at e
    cases e
    refine ⟨fun e2 => ?_, fun e2 => ?_⟩
    · have := h2.rec2.lt
      omega
    · have := (h2.rec2.own.lt _ e2).2
      omega
/-- a rule is kept -/
theorem InsSt.putK {w1 wr w' : World} {g : Nat} {k : Int} {v6 v' vL : Value} {G K : List RulD} {x y : ByteArray} {ob : Obj} (h : InsSt w1 wr g k v6 vL G K) (hb : w'.ownsRow (g + 1) 36 2 v' (K.length + 1) (ruleCells K ++ [.string x, .string y])) (hg : (wr.alloc ob).grownBy w' vL.ownBlock)
    (ho : v'.ownBlock = vL.ownBlock ∨ v'.ownBlock = some (wr.alloc ob).heap.size) : InsSt w1 (w'.setCell ⟨g, 1, none⟩ v') g k v6 v' G (K ++ [(x, y)]) := by
  have hal := alloc_belowS wr ob
  have h2 := h.later hal
  have hr := h.rec2.put (Below.refl _ _) hg hb
  refine ⟨?_, by rw [List.length_append, ruleCells_one1]; exact hr, fun b e => ?_⟩
  · have hk : Bld 36 2 w1 w' v6 G.length (ruleCells G) := by
      refine ⟨h2.gone.1.kept hg ?_, h2.gone.2.grown hg h2.gone.2.size (fun b e => by have := (h2.rec2.own.lt b e).1; have := h2.rec2.le; omega)⟩
      cases hv : v6.ownBlock with
      | none => exact .inl rfl
      | some b => exact .inr (fun e => (h.far b hv).2 e.symm)
    refine ⟨hk.1.kept (setGrownB w' g 1 v') ?_, hk.2.setCell h2.rec2.le _⟩
    cases hv : v6.ownBlock with
    | none => exact .inl rfl
    | some b => exact .inr (fun e => (h.far b hv).1 (Option.some.inj e))
  · refine ⟨(h.far b e).1, ?_⟩
    rcases ho with ho | ho
    · rw [ho]; exact (h.far b e).2
    · rw [ho]
      intro e2
      have := (h2.gone.1.lt b e).2
      have := Option.some.inj e2
      omega
/-- the rules that fall out, and those that are kept, among some -/
def goneL (x : ByteArray) (l : List RulD) : List RulD := l.filter fun p => hasB p.1 x
def keptL (x : ByteArray) (l : List RulD) : List RulD := l.filter fun p => !hasB p.1 x
theorem goneL_take {x : ByteArray} {R : List RulD} {i : Nat} (h : i < R.length) (hb : hasB (nthR R i).1 x = true) : goneL x (R.take (i + 1)) = goneL x (R.take i) ++ [nthR R i] ∧ keptL x (R.take (i + 1)) = keptL x (R.take i) := by
  rw [nthR_lt h] at hb ⊢
  unfold goneL keptL
  rw [List.take_succ_eq_append_getElem h, List.filter_append, List.filter_append]
  simp [hb]
theorem keptL_take {x : ByteArray} {R : List RulD} {i : Nat} (h : i < R.length) (hb : hasB (nthR R i).1 x = false) : goneL x (R.take (i + 1)) = goneL x (R.take i) ∧ keptL x (R.take (i + 1)) = keptL x (R.take i) ++ [nthR R i] := by
  rw [nthR_lt h] at hb ⊢
  unfold goneL keptL
  rw [List.take_succ_eq_append_getElem h, List.filter_append, List.filter_append]
  simp [hb]
theorem goneL_len (x : ByteArray) (l : List RulD) : (goneL x l).length ≤ l.length ∧ (keptL x l).length ≤ l.length := ⟨List.length_filter_le _ _, List.length_filter_le _ _⟩
/-- what l06Insert hands back: the next rules (if there are not too many), and those that fell out -/
def RetIns (k : Int) (R : List RulD) (r : RulD) (w : World) (e : Ending) (w' : World) : Prop :=
  ∃ (N : List RulD) (aN aG : Option Addr) (cN cG : Nat), N.length = (nextF R r).length ∧ (¬ 12 < (nextF R r).length → N = nextF R r) ∧ e = .returned (.tuple #[.agg #[.int .i64 k, .slice aN N.length cN], .slice aG (goneF R r.1).length cG]) ∧
    w'.ownsRow w.heap.size 36 2 (.slice aN N.length cN) N.length (ruleCells N) ∧ w'.ownsRow w.heap.size 36 2 (.slice aG (goneF R r.1).length cG) (goneF R r.1).length (ruleCells (goneF R r.1)) ∧ Below w.heap.size w w'
theorem drew_at {W : World} {n : Nat} {x : Obj} (h : W.heap[n]? = some x) : W.drew.heap[n]? = some x := h
theorem drewN_at {W : World} {n : Nat} {x : Obj} (m : Nat) (h : W.heap[n]? = some x) : (W.drewN m).heap[n]? = some x := h
/-- a fact that is shown first -/
theorem cut_in {P G : Prop} (h : P) (k : P → G) : G := k h
/-- a block of another type stays when a slice of one's own is appended to -/
theorem grown_other {W W' : World} {base : Nat} {T T' : TypeId} {size : Nat} {v : Value} {n : Nat} {xs : List Value} (h : ownsOff W base T size v n xs) (hg : W.grownBy W' v.ownBlock) {i : Nat} {cs : Array Value} {fr : Nat × Nat} (hi : W.heap[i]? = some (.cells cs T' fr)) (hne : T ≠ T') : W'.heap[i]? = some (.cells cs T' fr) := by
  rw [hg.block i (Array.getElem?_eq_some_iff.1 hi).1 (fun e => ?_)]
  · exact hi
  · rcases h.2 with ⟨rfl, _⟩ | ⟨g, o, cap, cur, rfl, _, hgg, _⟩
    · simp [Value.ownBlock] at e
    · simp only [Value.ownBlock, Option.some.injEq] at e
      subst e
      rw [hgg] at hi
      simp only [Option.some.injEq, Obj.cells.injEq] at hi
      exact hne hi.2.1
theorem block_later {W : World} {i : Nat} {o : Obj} (h : W.heap[i]? = some o) : ∀ W', Below W.heap.size W W' → W'.heap[i]? = some o := fun W' hW => (hW.block i (Array.getElem?_eq_some_iff.1 h).1).trans h
theorem alloc_next (W : World) (o : Obj) {n : Nat} (h : n = W.heap.size) : (W.alloc o).heap[n]? = some o := by subst h; exact alloc_at W o
theorem alloc_oldI (W : World) (o : Obj) {n : Nat} {x : Obj} (h : W.heap[n]? = some x) : (W.alloc o).heap[n]? = some x := (block_later h) _ (alloc_belowS W o)
/-- another block is set -/
theorem Rec2.setFar {TT T : TypeId} {size : Nat} {w wr : World} {g : Nat} {x v : Value} {n : Nat} {xs : List Value} (h : Rec2 TT T size w wr g x v n xs) {b : Nat} (o : Nat) (u : Value) (h1 : b ≠ g) (h2 : v.ownBlock ≠ some b) (h3 : w.heap.size ≤ b) : Rec2 TT T size w (wr.setCell ⟨b, o, none⟩ u) g x v n xs :=
  h.keptG (setGrownB wr b o u) (fun e => h1 (Option.some.inj e)) (fun c hc e => h2 (by rw [hc, ← e])) (fun c e => by have := Option.some.inj e; omega)
/-- rules, their right sides turned -/
def mapG (f : ByteArray → ByteArray) (l : List RulD) : List RulD := l.map fun p => (p.1, f p.2)
theorem mapG_take {f : ByteArray → ByteArray} {K : List RulD} {i : Nat} (h : i < K.length) : mapG f (K.take (i + 1)) = mapG f (K.take i) ++ [((nthR K i).1, f (nthR K i).2)] := by
  unfold mapG
  rw [List.take_succ_eq_append_getElem h, List.map_append, nthR_lt h]
  rfl
theorem mapG_len (f : ByteArray → ByteArray) (l : List RulD) : (mapG f l).length = l.length := by unfold mapG; rw [List.length_map]
theorem alloc_three (w : World) (A B C : Obj) : (((w.alloc A).alloc B).alloc C).heap[w.heap.size]? = some A ∧ (((w.alloc A).alloc B).alloc C).heap[w.heap.size + 1]? = some B ∧ (((w.alloc A).alloc B).alloc C).heap[w.heap.size + 2]? = some C := by
  obtain ⟨h1, h2⟩ := alloc_two w A B
  have h3 := alloc_at ((w.alloc A).alloc B) C
  have e : ((w.alloc A).alloc B).heap.size = w.heap.size + 2 := by simp
  have hb := alloc_belowS ((w.alloc A).alloc B) C
  rw [e] at h3
  exact ⟨(hb.block _ (by rw [e]; omega)).trans h1, (hb.block _ (by rw [e]; omega)).trans h2, h3⟩
end Go.Proofs.YtdhaebbfiaddnaaGreatDoor
