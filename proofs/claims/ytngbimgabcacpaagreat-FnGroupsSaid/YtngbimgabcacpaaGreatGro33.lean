/-
  Ideals of a table, of the program.
-/
import Derived.Test.YtngbimgabcacpaaGreatGro24
import Derived.Test.YtngbimgabcacpaaGreatGro31
import Derived.Test.YtngbimgabcacpaaGreatGro32
import Derived.Test.YtngbimgabcacpaaGreatGro25
import Derived.Test.YtngbimgabcacpaaGreatGro27
import Derived.Test.YtngbimgabcacpaaGreatGro01
import Derived.Deep.RegionHeld3
namespace Go.Proofs.YtngbimgabcacpaaGreat
open Go.RowKit
set_option linter.unusedVariables false
theorem heap_setOther {w : World} {b g o : Nat} {v : Value} (hne : g ≠ b) : (w.setCell ⟨g, o, none⟩ v).heap[b]? = w.heap[b]? := by
  unfold World.setCell
  rw [Array.getElem?_modify, if_neg hne]
theorem grown_re {r : Option Nat} (w : World) : w.grownBy w r := ⟨rfl, rfl, rfl, Nat.le_refl _, fun _ _ _ => rfl⟩
theorem grown_drewW {r : Option Nat} (w : World) : w.grownBy { w with drawn := w.drawn + 1 } r := ⟨rfl, rfl, rfl, Nat.le_refl _, fun _ _ _ => rfl⟩
theorem CurOk.setG {w : World} {B : Nat} {a : Option Addr} {l : List UInt8} {cap : Nat} (h : CurOk w B a l cap) {w0 : World} (h0 : CurOk w0 B a l cap) {g o : Nat} {v : Value} (hg : B ≠ g) (hgr : w0.grownBy (w.setCell ⟨g, o, none⟩ v) (some B)) : CurOk (w.setCell ⟨g, o, none⟩ v) B a l cap := h0.next (h.at_.set hg) hgr
/-- the row of a drawn table, once a cell of it is set -/
theorem row_set {w : World} {base g cap i : Nat} {l : List Int} {y : Int} (h : w.ownsRow base 3 1 (.slice (some ⟨g, 0, none⟩) l.length cap) l.length (intVals l)) : (w.setCell ⟨g, i, none⟩ (.int .i64 y)).ownsRow base 3 1 (.slice (some ⟨g, 0, none⟩) l.length cap) l.length (intVals (l.set i y)) := by
  have := (World.ownsRow.stored h i (.int .i64 y)).1
  have e : intVals (l.set i y) = (intVals l).set i (.int .i64 y) := by simp [intVals, List.map_set]
  rw [e]; exact this
theorem row_form {w : World} {base cap : Nat} {a : Option Addr} {l : List Int} (h : w.ownsRow base 3 1 (.slice a l.length cap) l.length (intVals l)) (h1 : 1 ≤ l.length) : ∃ g, a = some ⟨g, 0, none⟩ ∧ base ≤ g ∧ g < w.heap.size := by
  rcases h.2 with ⟨hv, h0⟩ | ⟨g, c, cur, hv, hb, hg, _⟩
  · omega
  · simp only [Value.slice.injEq] at hv
    exact ⟨g, hv.1, hb, (Array.getElem?_eq_some_iff.1 hg).1⟩
theorem row_keep {w w' : World} {base cap g B : Nat} {n : Nat} {xs : List Value} (h : w.ownsRow base 3 1 (.slice (some ⟨g, 0, none⟩) n cap) n xs) (hg : w.grownBy w' (some B)) (hne : g ≠ B) : w'.ownsRow base 3 1 (.slice (some ⟨g, 0, none⟩) n cap) n xs :=
  h.kept hg (.inr fun e => hne (Option.some.inj e))
/-- the end: the table is stored into the result's box -/
theorem anyFin {w W : World} {B : Nat} {a : Option Addr} {l : List UInt8} {cap : Nat} {n : Int} {l' : List Int} {k c : Nat} {az : Option Addr} (h0 : CurOk w B a l cap) (hk : l'.length = k) (hk2 : k ≤ 2 ^ 30) (ho : W.ownsRow (w.heap.size + 1) 3 1 (.slice az k c) k (intVals l')) (hc : CurOk W B a l cap) (hg : w.grownBy W (some B)) :
    RetTA B a l cap w (.returned (.agg #[.int .i64 n, .slice az k c])) ((W.setCell ⟨w.heap.size, 0, none⟩ (.int .i64 n)).setCell ⟨w.heap.size, 1, none⟩ (.slice az k c)) := by
  subst hk
  have hne : B ≠ w.heap.size := by have := h0.lt; omega
  have hg2 := grown_set2 (o := 1) (v := .slice az l'.length c) (grown_set2 (o := 0) (v := .int .i64 n) hg (Nat.le_refl w.heap.size)) (Nat.le_refl w.heap.size)
  exact ⟨_, rfl, ⟨n, l', az, c, by omega, rfl, ownsRow_setCell_below (ownsRow_setCell_below ho (Nat.lt_succ_self _) _) (Nat.lt_succ_self _) _⟩, h0.next ((hc.at_.set hne).set hne) hg2, hg2⟩
set_option maxRecDepth 20000 in
set_option maxHeartbeats 4000000 in
theorem l08Any_any (B : Nat) (a : Option Addr) (l : List UInt8) (cap : Nat) (w : World) (h : CurOk w B a l cap) :
    Calls Tryz.prog 66 #[.pointer (some ⟨B, 0, none⟩)] w (RetTA B a l cap w) := by
  have HC0 := Lib.hid h
  have HLT := Lib.hid h.lt
  clear h
  go_enter Tryz.func66, Tryz.ntmps66
  go_wp2_with fail
  refine (l08Draw_any B a l cap _ (HC0.out.alloc _)).mono ?_
  rintro e w2 ⟨v, rfl, ⟨m, z, az, cz, hT, rfl, hown⟩, hc2, hg2⟩
  obtain ⟨hz1, hz2, hm1, hm2⟩ := hT.few2
  obtain ⟨gz, rfl, hgz, hgz2⟩ := row_form hown hz2
  have hgz' : w.heap.size + 2 ≤ gz := by simpa using hgz
  have HX2 := Lib.hid (tv_box hg2 HLT.out)
  have HG2 := Lib.hid (grown_tr (grown_alloc ⟨rfl, rfl, rfl, Nat.le_refl _, fun _ _ _ => rfl⟩ _) hg2)
  have HC2 := Lib.hid hc2
  have HO2 := Lib.hid (owns_mono hown (show w.heap.size + 1 ≤ _ by simp))
  clear hc2 hg2 hT hown hgz
  go_upto_region 2 with fail
  have hal := alloc_belowT w2 (.cells #[.int .i64 (m : Nat), .slice (some ⟨gz, 0, none⟩) z.length cz] 25)
  have hl2 : w.heap.size < w2.heap.size := (Array.getElem?_eq_some_iff.1 HX2.out).1
  have HX3 := Lib.hid ((hal.block w.heap.size hl2).trans HX2.out)
  have HG3 := Lib.hid (grown_ofB HG2.out hal)
  have HC3 := Lib.hid (HC2.out.later hal)
  have HO3 := Lib.hid (owns_later HO2.out hal)
  have HA3 := Lib.hid (alloc_at w2 (.cells #[.int .i64 (m : Nat), .slice (some ⟨gz, 0, none⟩) z.length cz] 25))
  have HS3 : Hid (w2.heap.size < (w2.alloc (.cells #[.int .i64 (m : Nat), .slice (some ⟨gz, 0, none⟩) z.length cz] 25)).heap.size) := Lib.hid (by simp)
  clear HX2 HG2 HC2 HO2 hal
  generalize w2.alloc (.cells #[.int .i64 (m : Nat), .slice (some ⟨gz, 0, none⟩) z.length cz] 25) = w3 at *
  generalize hg3 : w2.heap.size = g3 at *
  have hg3B : g3 ≠ B := by have := HLT.out; omega
  have hgzB : gz ≠ B := by have := HLT.out; omega
  have hgz3 : gz ≠ g3 := by omega
  go_wp2_with fail
  refine (l01Below_any B 12 a l cap _ HC3.out (by omega) (by omega)).mono ?_
  rintro e w4 ⟨x, hx, rfl, hc4, hg4⟩
  have HX4 := Lib.hid ((hg4.block w.heap.size (Array.getElem?_eq_some_iff.1 HX3.out).1 (fun e => by have := Option.some.inj e; have := HLT.out; omega)).trans HX3.out)
  have HA4 := Lib.hid ((hg4.block g3 HS3.out (fun e => hg3B (Option.some.inj e))).trans HA3.out)
  have HG4 := Lib.hid (grown_tr HG3.out hg4)
  have HC4 := Lib.hid hc4
  have HO4 := Lib.hid (row_keep HO3.out hg4 hgzB)
  have HS4 := Lib.hid (Nat.lt_of_lt_of_le HS3.out hg4.size)
  clear hc4 hg4 HX3 HA3 HG3 HC3 HO3 HS3
  have HZ4 : Hid (∀ W, w4.grownBy W (some B) → W.cell? ⟨g3, 0, none⟩ = some (.int .i64 (m : Nat)) ∧ W.cell? ⟨g3, 1, none⟩ = some (.slice (some ⟨gz, 0, none⟩) z.length cz)) := Lib.hid (fun W hW => sys_cells ((hW.block g3 HS4.out (fun e => hg3B (Option.some.inj e))).trans HA4.out))
  have HFX : Hid (∀ W, w4.grownBy W (some B) → W.heap[w.heap.size]? = some (.cells #[.int .i64 0, .slice none 0 0] 25 (0, 0))) := Lib.hid (fun W hW => (hW.block w.heap.size (Array.getElem?_eq_some_iff.1 HX4.out).1 (fun e => by have := Option.some.inj e; have := HLT.out; omega)).trans HX4.out)
  by_cases x0 : x = 0
  · subst x0
    have HBL := Lib.hid (fun W (h : CurOk W B a l cap) => l01Below_all B z.length a l cap W h hz2 (by omega))
    have HNE : Hid (∀ W, CurOk W B a l cap → Calls Tryz.prog 90 #[.pointer (some ⟨B, 0, none⟩), .int .i64 0, .int .i64 ((m : Int) - 1)] W (RetZ B a l cap W)) := Lib.hid (fun W h => by
      have := l01Near_any B a l cap 0 (m - 1) W h (by omega) (by omega)
      rw [show ((0 : Nat) : Int) + ((m - 1 : Nat) : Int) = (m : Int) - 1 by omega] at this
      exact this)
    have s1 : IntKind.i64.wrap ((m : Int) - 1) = (m : Int) - 1 := IntWalk.i64_in _ (by omega)
    go_upto_region 4 with fail
    refine region_tail 12 (fun W => CurOk W B a l cap ∧ w4.grownBy W (some B)) (fun W W2 => W.grownBy W2 (some B)) (fun u => by simp only [List.take_succ_cons, List.take_zero, fPut, Act.put, List.setIfInBounds_toArray, List.set_cons_succ, List.set_cons_zero, Nat.zero_add, Nat.reduceAdd]; rfl) (by kernel_rfl) (by kernel_rfl) (by kernel_rfl) (by kernel_rfl) (by kernel_rfl) (by kernel_rfl) (by kernel_rfl) (⟨HC4.out.later (Below.drew (Below.refl _ _)), grown_drewW _⟩) ?_
    conv => arg 7; simp only [List.take_succ_cons, List.take_zero]
    apply each_read (fun _ => grown_re _) rfl
    · intro u wv hC hf
      have z0 := (HZ4.out _ hC.2).1
      have z1 := (HZ4.out _ hC.2).2
      clear hf
      go_simp
      try rfl
    apply each_read (fun _ => grown_re _) rfl
    · intro u wv hC hf
      have z0 := (HZ4.out _ hC.2).1
      have z1 := (HZ4.out _ hC.2).2
      obtain ⟨d0_0, -⟩ := hf
      have e0 : u 0 = _ := d0_0 rfl
      clear d0_0
      go_simp
      try rfl
    conv => arg 8; simp only [List.cons_append, List.nil_append]
    apply each_read (fun _ => grown_re _) rfl
    · intro u wv hC hf
      have z0 := (HZ4.out _ hC.2).1
      have z1 := (HZ4.out _ hC.2).2
      clear hf
      go_simp
      try rfl
    conv => arg 8; simp only [List.cons_append, List.nil_append]
    apply each_read (fun _ => grown_re _) rfl
    · intro u wv hC hf
      have z0 := (HZ4.out _ hC.2).1
      have z1 := (HZ4.out _ hC.2).2
      clear hf
      go_simp
      try rfl
    conv => arg 8; simp only [List.cons_append, List.nil_append]
    apply each_read (fun _ => grown_re _) rfl
    · intro u wv hC hf
      have z0 := (HZ4.out _ hC.2).1
      have z1 := (HZ4.out _ hC.2).2
      obtain ⟨d3_0, -⟩ := hf
      have e3 : u 3 = _ := d3_0 rfl
      clear d3_0
      go_simp
      try rfl
    conv => arg 8; simp only [List.cons_append, List.nil_append]
    apply each_read (fun _ => grown_re _) rfl
    · intro u wv hC hf
      have z0 := (HZ4.out _ hC.2).1
      have z1 := (HZ4.out _ hC.2).2
      obtain ⟨d4_0, -⟩ := hf
      have e4 : u 4 = _ := d4_0 rfl
      clear d4_0
      go_simp
      try rfl
    conv => arg 8; simp only [List.cons_append, List.nil_append]
    refine each_call (fun v wv => ∃ x : Nat, x < z.length ∧ v = .int .i64 ((x : Nat) : Int)) (fun v w w2 _ _ h => h) rfl ?_ ?_
    · intro u wv hC hf
      have z0 := (HZ4.out _ hC.2).1
      have z1 := (HZ4.out _ hC.2).2
      obtain ⟨d2_0, d5_1, -⟩ := hf
      have e2 : u 2 = _ := d2_0 rfl
      clear d2_0
      have e5 : u 5 = _ := d5_1 rfl
      clear d5_1
      apply Exists.intro; apply Exists.intro; apply And.intro
      · go_simp; exact ⟨rfl, rfl⟩
      · refine (HBL.out _ hC.1).mono ?_
        rintro e w3 ⟨x, hx, rfl, hc, hg⟩
        exact ⟨_, rfl, ⟨hc, grown_tr hC.2 hg⟩, hg, x, hx, rfl⟩
    conv => arg 8; simp only [List.cons_append, List.nil_append]
    apply each_read (fun _ => grown_re _) rfl
    · intro u wv hC hf
      have z0 := (HZ4.out _ hC.2).1
      have z1 := (HZ4.out _ hC.2).2
      clear hf
      go_simp
      try rfl
    conv => arg 8; simp only [List.cons_append, List.nil_append]
    apply each_read (fun _ => grown_re _) rfl
    · intro u wv hC hf
      have z0 := (HZ4.out _ hC.2).1
      have z1 := (HZ4.out _ hC.2).2
      clear hf
      go_simp
      try rfl
    conv => arg 8; simp only [List.cons_append, List.nil_append]
    apply each_read (fun _ => grown_re _) rfl
    · intro u wv hC hf
      have z0 := (HZ4.out _ hC.2).1
      have z1 := (HZ4.out _ hC.2).2
      obtain ⟨d8_0, -⟩ := hf
      have e8 : u 8 = _ := d8_0 rfl
      clear d8_0
      go_simp
      try rfl
    conv => arg 8; simp only [List.cons_append, List.nil_append]
    apply each_read (fun _ => grown_re _) rfl
    · intro u wv hC hf
      have z0 := (HZ4.out _ hC.2).1
      have z1 := (HZ4.out _ hC.2).2
      obtain ⟨d9_0, -⟩ := hf
      have e9 : u 9 = _ := d9_0 rfl
      clear d9_0
      go_simp
      try rfl
    conv => arg 8; simp only [List.cons_append, List.nil_append]
    refine each_call (fun v wv => ∃ y : Int, v = .int .i64 y) (fun v w w2 _ _ h => h) rfl ?_ ?_
    · intro u wv hC hf
      have z0 := (HZ4.out _ hC.2).1
      have z1 := (HZ4.out _ hC.2).2
      obtain ⟨d7_0, d10_1, d6_2, -⟩ := hf
      have e7 : u 7 = _ := d7_0 rfl
      clear d7_0
      have e10 : u 10 = _ := d10_1 rfl
      clear d10_1
      obtain ⟨x6, h6, e6⟩ := d6_2 rfl
      apply Exists.intro; apply Exists.intro; apply And.intro
      · go_simp; exact ⟨rfl, rfl⟩
      · refine (HNE.out _ hC.1).mono ?_
        rintro e w3 ⟨y, rfl, hc, hg⟩
        exact ⟨_, rfl, ⟨hc, grown_tr hC.2 hg⟩, hg, y, rfl⟩
    intro u w5 d5 hall
    obtain ⟨a0, a1, a2, a3, a4, a5, a6, a7, a8, a9, a10, a11, -⟩ := hall
    have e0 : u 0 = _ := a0
    clear a0
    have e1 : u 1 = _ := a1
    clear a1
    have e2 : u 2 = _ := a2
    clear a2
    have e3 : u 3 = _ := a3
    clear a3
    have e4 : u 4 = _ := a4
    clear a4
    have e5 : u 5 = _ := a5
    clear a5
    obtain ⟨x6, h6, e6⟩ := a6
    replace e6 : u 6 = _ := e6
    have e7 : u 7 = _ := a7
    clear a7
    have e8 : u 8 = _ := a8
    clear a8
    have e9 : u 9 = _ := a9
    clear a9
    have e10 : u 10 = _ := a10
    clear a10
    obtain ⟨y11, e11⟩ := a11
    replace e11 : u 11 = _ := e11
    change wpList _ _ _ (List.drop 12 _) _ _
    simp only [List.drop_succ_cons, List.drop_zero]
    simp only [e0, e1, e2, e3, e4, e5, e6, e7, e8, e9, e10, e11]
    clear e0 e1 e2 e3 e4 e5 e6 e7 e8 e9 e10 e11
    obtain ⟨hc5, hg5⟩ := d5
    have HC5 := Lib.hid hc5
    have HG5 := Lib.hid (grown_tr HG4.out hg5)
    have ho5 := row_keep HO4.out hg5 hgzB
    have c5 : w5.cell? ⟨gz, x6, none⟩ = some (.int .i64 (nthZ z x6)) := by
      rw [ho5.cellAt x6 (by omega)]
      simp [intVals, nthZ_lt h6, h6]
    have f5 := ho5.frozenAt x6
    have HX5 := Lib.hid (HFX.out _ hg5)
    have HA5 := Lib.hid ((hg5.block g3 HS4.out (fun e => hg3B (Option.some.inj e))).trans HA4.out)
    have HO5 := Lib.hid (row_set (i := x6) (y := y11) ho5)
    have hgB : w.heap.size ≤ gz := by omega
    have HG6 := Lib.hid (grown_set2 (o := x6) (v := .int .i64 y11) HG5.out hgB)
    have HC6 := Lib.hid (HC0.out.next (HC5.out.at_.set (o := x6) (v := .int .i64 y11) (Ne.symm hgzB)) HG6.out)
    obtain ⟨z0, z1⟩ := HZ4.out _ hg5
    have hxl : (x6 : Int) < (z.length : Int) := by omega
    have hx0 : (0 : Int) ≤ (x6 : Int) := by omega
    clear hc5 hg5 ho5
    have hx6 : (w5.setCell ⟨gz, x6, none⟩ (.int .i64 y11)).heap[w.heap.size]? = some (.cells #[.int .i64 0, .slice none 0 0] 25 (0, 0)) := (heap_setOther (by omega)).trans HX5.out
    obtain ⟨⟨q0, q1⟩, ⟨u0, u1⟩, _⟩ := box_sets hx6 (.int .i64 (m : Nat)) (.slice (some ⟨gz, 0, none⟩) z.length cz)
    have F := Lib.hid (anyFin (n := (m : Nat)) (l' := z.set x6 y11) HC0.out (by simp) (by omega) HO5.out HC6.out HG6.out)
    clear hx6
    go_wp2_with fail
    refine bodyPost_ret (v := .agg #[.int .i64 (m : Nat), .slice (some ⟨gz, 0, none⟩) z.length cz]) ?_ rfl F.out
    simp [results, Tryz.results66, go_sem, u0, u1]
  by_cases x1 : x = 1
  · subst x1
    have HNE : Hid (∀ W, CurOk W B a l cap → Calls Tryz.prog 90 #[.pointer (some ⟨B, 0, none⟩), .int .i64 1, .int .i64 40] W (RetZ B a l cap W)) := Lib.hid (fun W h => l01Near_any B a l cap 1 39 W h (by omega) (by omega))
    clear x0
    go_wp2_with fail
    refine (HNE.out _ HC4.out).mono ?_
    rintro e w5 ⟨y, rfl, hc5, hg5⟩
    have HC5 := Lib.hid hc5
    have HG5 := Lib.hid (grown_tr HG4.out hg5)
    have ho5 := row_keep HO4.out hg5 hgzB
    have HX5 := Lib.hid (HFX.out _ hg5)
    have HA5 := Lib.hid ((hg5.block g3 HS4.out (fun e => hg3B (Option.some.inj e))).trans HA4.out)
    obtain ⟨f0, f1⟩ := (box_sets HA5.out (.int .i64 y) (.slice (some ⟨gz, 0, none⟩) z.length cz)).1
    obtain ⟨z0, z1⟩ := HZ4.out _ hg5
    have ho6 := (World.ownsRow.kept ho5 (w' := w5.setCell ⟨g3, 0, none⟩ (.int .i64 y)) (row := some g3) (setGrown _ _ _ _) (.inr fun e => hgz3 (Option.some.inj e)))
    have HG6 := Lib.hid (grown_set2 (o := 0) (v := .int .i64 y) HG5.out (show w.heap.size ≤ g3 by omega))
    have HC6 := Lib.hid (HC0.out.next (HC5.out.at_.set (o := 0) (v := .int .i64 y) (Ne.symm hg3B)) HG6.out)
    have hx6 : (w5.setCell ⟨g3, 0, none⟩ (.int .i64 y)).heap[w.heap.size]? = some (.cells #[.int .i64 0, .slice none 0 0] 25 (0, 0)) := (heap_setOther (by omega)).trans HX5.out
    obtain ⟨⟨q0, q1⟩, ⟨u0, u1⟩, _⟩ := box_sets hx6 (.int .i64 y) (.slice (some ⟨gz, 0, none⟩) z.length cz)
    have F := Lib.hid (anyFin (n := y) (l' := z) HC0.out rfl (by omega) ho6 HC6.out HG6.out)
    clear hx6 hc5 hg5 ho5 ho6
    go_wp2_with fail
    refine bodyPost_ret (v := .agg #[.int .i64 y, .slice (some ⟨gz, 0, none⟩) z.length cz]) ?_ rfl F.out
    simp [results, Tryz.results66, go_sem, u0, u1]
  · have y0 : (((x : Nat) : Int) == 0) = false := by rw [beq_eq_false_iff_ne]; omega
    have y1 : (((x : Nat) : Int) == 1) = false := by rw [beq_eq_false_iff_ne]; omega
    obtain ⟨z0, z1⟩ := HZ4.out _ (grown_re w4)
    obtain ⟨⟨q0, q1⟩, ⟨u0, u1⟩, _⟩ := box_sets HX4.out (.int .i64 (m : Nat)) (.slice (some ⟨gz, 0, none⟩) z.length cz)
    have F := Lib.hid (anyFin (n := (m : Nat)) (l' := z) HC0.out rfl (by omega) HO4.out HC4.out HG4.out)
    clear x0 x1
    go_wp2_with fail
    refine bodyPost_ret (v := .agg #[.int .i64 (m : Nat), .slice (some ⟨gz, 0, none⟩) z.length cz]) ?_ rfl F.out
    simp [results, Tryz.results66, go_sem, u0, u1]
def grpLits : List ByteArray := [⟨#[49, 32, 97, 97, 97, 62, 46]⟩, ⟨#[49, 32, 97, 97, 97, 97, 62, 46]⟩, ⟨#[49, 32, 97, 97, 97, 97, 97, 97, 62, 46]⟩, ⟨#[50, 32, 97, 97, 62, 46, 32, 98, 98, 62, 46, 32, 98, 97, 62, 97, 98]⟩, ⟨#[50, 32, 97, 97, 62, 46, 32, 98, 98, 62, 46, 32, 98, 97, 98, 62, 97, 98, 97]⟩, ⟨#[50, 32, 97, 97, 62, 46, 32, 98, 98, 98, 62, 46, 32, 97, 98, 98, 62, 98, 97, 32, 97, 98, 97, 62, 98, 98, 32, 98, 97, 98, 62, 97, 32, 98, 98, 97, 62, 97, 98]⟩, ⟨#[49]⟩]
theorem grpLits_size : ∀ i, i < grpLits.length → (nthS grpLits i).size ≤ 100 := by decide
set_option maxRecDepth 20000 in
set_option maxHeartbeats 4000000 in
theorem l10Draw_any (B : Nat) (a : Option Addr) (l : List UInt8) (cap : Nat) (w : World) (h : CurOk w B a l cap) :
    Calls Tryz.prog 31 #[.pointer (some ⟨B, 0, none⟩)] w (RetTA B a l cap w) := by
  have HC0 := Lib.hid h
  have HLT := Lib.hid h.lt
  have HBN : Hid (B ≠ w.heap.size) := Lib.hid (by have := h.lt; omega)
  clear h
  go_enter Tryz.func31, Tryz.ntmps31
  go_wp2_with fail
  refine (l01Once_any B 5 a l cap _ (HC0.out.alloc _) (by omega) (by omega)).mono ?_
  rintro e w2 ⟨b, rfl, hc2, hg2⟩
  have HX2 := Lib.hid (tv_box hg2 HLT.out)
  have HG2 := Lib.hid (grown_tr (grown_alloc ⟨rfl, rfl, rfl, Nat.le_refl _, fun _ _ _ => rfl⟩ _) hg2)
  have HC2 := Lib.hid hc2
  have hl2 : w.heap.size < w2.heap.size := (Array.getElem?_eq_some_iff.1 HX2.out).1
  have HL2 := Lib.hid hl2
  clear hc2 hg2 hl2
  cases b
  · go_wp2_with fail
    refine (strLit_arr B a l cap grpLits _ 7 _ _ HC2.out (by simp) (by decide) (by decide) (by kernel_rfl) (by kernel_rfl) grpLits_size).mono ?_
    rintro e w3 ⟨s, hz, rfl, hc3, hg3⟩
    have HX3 := Lib.hid ((hg3.block w.heap.size HL2.out (fun e => HBN.out (Option.some.inj e).symm)).trans HX2.out)
    have HG3 := Lib.hid (grown_tr HG2.out hg3)
    have HC3 := Lib.hid hc3
    clear hc3 hg3 HX2 HG2 HC2
    go_wp2_with fail
    refine (specParseSystem_any s _ (by omega)).mono ?_
    rintro e w4 ⟨k, R, aR, cR, b, ⟨hsh, hn⟩, rfl, hR, hb4⟩
    have hl3 : w.heap.size < w3.heap.size := (Array.getElem?_eq_some_iff.1 HX3.out).1
    have HX4 := Lib.hid ((hb4.block w.heap.size hl3).trans HX3.out)
    have HG4 := Lib.hid (grown_ofB HG3.out hb4)
    have HC4 := Lib.hid (HC3.out.later hb4)
    have HRL := Lib.hid hR
    have HSZ := Lib.hid (hsh.sz (show s.size + 1 ≤ maxLen by unfold maxLen; omega))
    have hnR : R.length ≤ 2 ^ 40 := by omega
    clear hb4 HX3 HG3 HC3 hR hsh hl3 hn
    go_wp2_with fail
    refine (specMonoidOf_any k R aR cR _ (HRL.out.later (alloc_belowT _ _)) hnR HSZ.out).mono ?_
    rintro e w5 ⟨L, P, f, aP, aL, cP, cL, hmon, rfl, hoP, hoL, hb5⟩
    have hb45 := Below.now (alloc_belowT w4 (.cells #[.int .i64 k, .slice aR R.length cR] 68)) hb5
    have hl4 : w.heap.size < w4.heap.size := (Array.getElem?_eq_some_iff.1 HX4.out).1
    have HLP := Lib.hid hmon.few.2
    have HX5 := Lib.hid ((hb45.block w.heap.size hl4).trans HX4.out)
    have HG5 := Lib.hid (grown_ofB HG4.out hb45)
    have HC5 := Lib.hid (HC4.out.later hb45)
    have HOP : Hid (w5.ownsRow (w.heap.size + 1) 3 1 (.slice aP P.length cP) P.length (intVals P)) := Lib.hid (owns_mono hoP (by simp; omega))
    have hPl : P.length ≤ 2 ^ 30 := by have := hmon.few; omega
    clear hoL hb5 hb45 HX4 HG4 HC4 HRL HSZ hmon hoP hl4
    go_upto_region 5 with fail
    have hal := alloc_belowT w5 (.cells #[.int .i64 (L.length : Nat), .slice aP P.length cP] 25)
    obtain ⟨y0, y1⟩ := sys_cells (alloc_at w5 (.cells #[.int .i64 (L.length : Nat), .slice aP P.length cP] 25))
    have HX6 := Lib.hid ((hal.block w.heap.size (Array.getElem?_eq_some_iff.1 HX5.out).1).trans HX5.out)
    have HG6 := Lib.hid (grown_ofB HG5.out hal)
    have HC6 := Lib.hid (HC5.out.later hal)
    have HO6 := Lib.hid (owns_later HOP.out hal)
    clear hal HX5 HG5 HC5 HOP
    generalize w5.alloc (.cells #[.int .i64 (L.length : Nat), .slice aP P.length cP] 25) = w6 at *
    obtain ⟨⟨q0, q1⟩, ⟨u0, u1⟩, _⟩ := box_sets HX6.out (.int .i64 (L.length : Nat)) (.slice aP P.length cP)
    have F := Lib.hid (anyFin (n := (L.length : Nat)) (l' := P) HC0.out rfl hPl HO6.out HC6.out HG6.out)
    go_wp2_with fail
    refine bodyPost_ret (v := .agg #[.int .i64 (L.length : Nat), .slice aP P.length cP]) ?_ rfl F.out
    simp [results, Tryz.results31, go_sem, u0, u1]
  · go_wp2_with fail
    refine (l08Any_any B a l cap _ HC2.out).mono ?_
    rintro e w3 ⟨v, rfl, ⟨n, z, az, cz, hzl, rfl, hown⟩, hc3, hg3⟩
    have HX3 := Lib.hid ((hg3.block w.heap.size HL2.out (fun e => HBN.out (Option.some.inj e).symm)).trans HX2.out)
    have HG3 := Lib.hid (grown_tr HG2.out hg3)
    have HC3 := Lib.hid hc3
    have HO3 := Lib.hid (owns_mono hown (show w.heap.size + 1 ≤ w2.heap.size + 1 by have := HL2.out; omega))
    obtain ⟨⟨q0, q1⟩, ⟨u0, u1⟩, _⟩ := box_sets HX3.out (.int .i64 n) (.slice az z.length cz)
    have F := Lib.hid (anyFin (n := n) (l' := z) HC0.out rfl hzl HO3.out HC3.out HG3.out)
    clear hc3 hg3 hown HX2 HG2 HC2
    go_wp2_with fail
    refine bodyPost_ret (v := .agg #[.int .i64 n, .slice az z.length cz]) ?_ rfl F.out
    simp [results, Tryz.results31, go_sem, u0, u1]
/-- what MakeGroup leaves -/
def RetMG (w : World) (e : Ending) (w' : World) : Prop := ∃ (m : Nat) (l : List Int) (a : Option Addr) (cap : Nat), GrpG m l ∧ e = .returned (.agg #[.int .i64 (m : Nat), .slice a l.length cap]) ∧ IntsIn w' a l ∧ (l.length ≤ cap ∧ cap ≤ maxLen) ∧ Below w.heap.size w w'
set_option maxRecDepth 20000 in
set_option maxHeartbeats 2000000 in
theorem makeGroup_any (a : Option Addr) (l : List UInt8) (cap k : Nat) (w : World) (hl : BytesIn w a l) (hlen : l.length ≤ 2 ^ 40) (hk : k ≤ 1000) :
    Calls Tryz.prog 6 #[.slice a l.length cap, .int .i64 (k : Nat)] w (RetMG w) := by
  have HN := Lib.hid (l31New_any a l cap k (w.alloc (.cells #[.int .i64 0, .slice none 0 0] 25)) (hl.later (alloc_belowT _ _)) hlen hk)
  have e1 : (w.alloc (.cells #[.int .i64 0, .slice none 0 0] 25)).heap.size = w.heap.size + 1 := by simp
  have HB0 := Lib.hid (alloc_belowT w (.cells #[.int .i64 0, .slice none 0 0] 25))
  have HA := Lib.hid (alloc_at w (.cells #[.int .i64 0, .slice none 0 0] 25))
  rw [e1] at HN
  have HE := Lib.hid e1
  clear hl e1
  go_enter Tryz.func6, Tryz.ntmps6
  go_wp2_with fail
  refine HN.out.mono ?_
  rintro e w2 ⟨rfl, hc, hb⟩
  have HC := Lib.hid hc
  have hl1 : w.heap.size < w2.heap.size := by have := hc.lt; omega
  have hb0 : Below w.heap.size w w2 := Below.now HB0.out (by rw [HE.out]; exact hb)
  have HB := Lib.hid hb0
  have HX := Lib.hid ((hb.block w.heap.size (by omega)).trans HA.out)
  clear hc hb HN hb0 HA HB0 HE
  go_wp2_with fail
  refine (l10Draw_any _ a l cap _ HC.out).mono ?_
  rintro e w3 ⟨v, rfl, ⟨n, z, az, cz, hzl, rfl, hown⟩, hc3, hg3⟩
  have HB3 := Lib.hid (below_curs HB.out hg3 (Nat.le_succ _))
  have HX3 := Lib.hid ((hg3.block w.heap.size hl1 (fun e => by have := Option.some.inj e; omega)).trans HX.out)
  have HO3 := Lib.hid (owns_mono hown (show w.heap.size + 1 ≤ w2.heap.size + 1 by omega))
  clear hown hc3 hg3 HC HB HX
  go_upto_region 2 with fail
  have hal := alloc_belowT w3 (.cells #[.int .i64 n, .slice az z.length cz] 25)
  have HA4 := Lib.hid (alloc_at w3 (.cells #[.int .i64 n, .slice az z.length cz] 25))
  have HX4 := Lib.hid ((hal.block w.heap.size (Array.getElem?_eq_some_iff.1 HX3.out).1).trans HX3.out)
  have HB4 := Lib.hid (Below.now HB3.out hal)
  have HO4 := Lib.hid (owns_later HO3.out hal)
  clear hal HX3 HB3 HO3
  generalize w3.alloc (.cells #[.int .i64 n, .slice az z.length cz] 25) = w4 at *
  obtain ⟨y0, y1⟩ := sys_cells HA4.out
  go_wp2_with fail
  refine (specIsGroup_any n z az cz _ (owns_ints (l := z) HO4.out) (by omega)).mono ?_
  rintro e w5 ⟨rfl, hb5⟩
  have HX5 := Lib.hid ((hb5.block w.heap.size (Array.getElem?_eq_some_iff.1 HX4.out).1).trans HX4.out)
  have HA5 := Lib.hid ((hb5.block _ (Array.getElem?_eq_some_iff.1 HA4.out).1).trans HA4.out)
  have HB5 := Lib.hid (Below.now HB4.out hb5)
  have HO5 := Lib.hid (owns_later HO4.out hb5)
  clear hb5 y0 y1 HX4 HA4 HB4 HO4
  obtain ⟨y0, y1⟩ := sys_cells HA5.out
  cases hq : groupB n z
  · have hal := alloc_belowT w5 (.cells #[.int .i64 0] 3)
    have hw5 : w.heap.size < w5.heap.size := (Array.getElem?_eq_some_iff.1 HX5.out).1
    have HX6 := Lib.hid ((hal.block w.heap.size hw5).trans HX5.out)
    have HO6 : Hid ((w5.alloc (.cells #[.int .i64 0] 3)).ownsRow (w.heap.size + 1) 3 1 (.slice (some ⟨w5.heap.size, 0, none⟩) 1 1) 1 (intVals [0])) := Lib.hid (owns_mono (World.ownsRow_lit w5 #[.int .i64 0] 1 (Nat.le_refl _) (by unfold maxLen; omega) rfl) hw5)
    have HB6 := Lib.hid (Below.now HB5.out hal)
    have F : Hid (RetMG w (.returned (.agg #[.int .i64 1, .slice (some ⟨w5.heap.size, 0, none⟩) 1 1])) (((w5.alloc (.cells #[.int .i64 0] 3)).setCell ⟨w.heap.size, 0, none⟩ (.int .i64 1)).setCell ⟨w.heap.size, 1, none⟩ (.slice (some ⟨w5.heap.size, 0, none⟩) 1 1))) := Lib.hid (by
      have ho := ownsRow_setCell_below (ownsRow_setCell_below HO6.out (Nat.lt_succ_self _ : (⟨w.heap.size, 0, none⟩ : Addr).block < w.heap.size + 1) (.int .i64 1)) (Nat.lt_succ_self _ : (⟨w.heap.size, 1, none⟩ : Addr).block < w.heap.size + 1) (.slice (some ⟨w5.heap.size, 0, none⟩) 1 1)
      exact ⟨1, [0], _, _, GrpG.one, rfl, owns_ints (l := [0]) ho, owns_capS ho, (HB6.out.setCell (Nat.le_refl _) _).setCell (Nat.le_refl _) _⟩)
    rw [World.setCell_alloc_past _ _ _ _ hw5, World.setCell_alloc_past _ _ _ _ (by simpa using hw5)] at F
    obtain ⟨⟨f0, f1⟩, ⟨u0, u1⟩, z0, z1⟩ := box_sets HX5.out (.int .i64 1) (.slice (some ⟨w5.heap.size, 0, none⟩) 1 1)
    clear HX6 HO6 HB6 hal
    go_wp2_with fail
    refine bodyPost_ret (v := .agg #[.int .i64 1, .slice (some ⟨w5.heap.size, 0, none⟩) 1 1]) ?_ rfl F.out
    have v0 := (World.cell?_alloc_past (w := (w5.setCell ⟨w.heap.size, 0, none⟩ (.int .i64 1)).setCell ⟨w.heap.size, 1, none⟩ (.slice (some ⟨w5.heap.size, 0, none⟩) 1 1)) (.cells #[.int .i64 0] 3) w.heap.size 0 (by simpa using hw5)).trans u0
    have v1 := (World.cell?_alloc_past (w := (w5.setCell ⟨w.heap.size, 0, none⟩ (.int .i64 1)).setCell ⟨w.heap.size, 1, none⟩ (.slice (some ⟨w5.heap.size, 0, none⟩) 1 1)) (.cells #[.int .i64 0] 3) w.heap.size 1 (by simpa using hw5)).trans u1
    simp [results, Tryz.results6, go_sem, v0, v1]
  · obtain ⟨m, rfl, hG⟩ := GrpG.of hq
    have HG := Lib.hid hG
    obtain ⟨⟨f0, f1⟩, ⟨u0, u1⟩, z0, z1⟩ := box_sets HX5.out (.int .i64 (m : Nat)) (.slice az z.length cz)
    have F : Hid (RetMG w (.returned (.agg #[.int .i64 (m : Nat), .slice az z.length cz])) ((w5.setCell ⟨w.heap.size, 0, none⟩ (.int .i64 (m : Nat))).setCell ⟨w.heap.size, 1, none⟩ (.slice az z.length cz))) := Lib.hid (by
      have ho := ownsRow_setCell_below (ownsRow_setCell_below HO5.out (Nat.lt_succ_self _ : (⟨w.heap.size, 0, none⟩ : Addr).block < w.heap.size + 1) (.int .i64 (m : Nat))) (Nat.lt_succ_self _ : (⟨w.heap.size, 1, none⟩ : Addr).block < w.heap.size + 1) (.slice az z.length cz)
      exact ⟨m, z, az, cz, HG.out, rfl, owns_ints (l := z) ho, owns_capS ho, (HB5.out.setCell (Nat.le_refl _) _).setCell (Nat.le_refl _) _⟩)
    clear hq hG
    go_wp2_with fail
    refine bodyPost_ret (v := .agg #[.int .i64 (m : Nat), .slice az z.length cz]) ?_ rfl F.out
    simp [results, Tryz.results6, go_sem, u0, u1]
end Go.Proofs.YtngbimgabcacpaaGreat
namespace Go.Proofs.YtngbimgabcacpaaGreat
open Go.RowKit
set_option linter.unusedVariables false
theorem alloc_belI (w : World) (o : Obj) : Below w.heap.size w (w.alloc o) := (Below.refl _ _).alloc (Nat.le_refl _) _
theorem intVals_snoc (x : Int) (l : List Int) : intVals (l ++ [x]) = intVals l ++ [.int .i64 x] := by simp [intVals]
set_option maxRecDepth 100000 in
set_option maxHeartbeats 2000000 in
theorem implIdeal_any (m : Nat) (ln : List Nat) (a : Option Addr) (len cap i : Nat) (kind : Int) (w : World) (hl : NatsIn w a ln) (hT : Tb m ln) (hlen : len = m * m) (hi : i < m) :
    Calls Tryz.prog 53 #[.agg #[.int .i64 m, .slice a len cap], .int .i64 i, .int .i64 kind] w (RetSl 3 1 (idLs m ln kind i).length (intVals (idLs m ln kind i)) w) := by
  have hm := hT.hi
  have hm0 := hT.lo
  have hsq := sq_le hm
  have HT := Lib.hid hT
  have HL := Lib.hid hlen
  have hb1 := alloc_belI w (.cells #[.int .i64 (m : Nat), .slice a len cap] 25)
  have HX : Hid (∀ W, Below (w.alloc (.cells #[.int .i64 (m : Nat), .slice a len cap] 25)).heap.size (w.alloc (.cells #[.int .i64 (m : Nat), .slice a len cap] 25)) W → W.cell? ⟨w.heap.size, 0, none⟩ = some (.int .i64 (m : Nat)) ∧ W.cell? ⟨w.heap.size, 1, none⟩ = some (.slice a len cap)) := Lib.hid (fun W hW => ⟨by rw [hW.cell (by simp)]; simp, by rw [hW.cell (by simp)]; simp⟩)
  have HB := Lib.hid hb1
  have HN := Lib.hid (hl.later hb1)
  have HZ : Hid (w.heap.size < (w.alloc (.cells #[.int .i64 (m : Nat), .slice a len cap] 25)).heap.size) := Lib.hid (by simp)
  have HCO := Lib.hid (fun (q : List Int) oa oc W (h : IntsIn W oa q) (h0 : 0 < q.length) (h1 : q.length ≤ 1000000) => collected_any q oa oc W h h0 h1)
  have hone : ∀ s : Int, ∀ u ∈ [Value.int .i64 s], u.oneCell' = true := fun s u hu => by rw [List.mem_singleton.1 hu]; rfl
  clear hl hT hlen hb1
  have HD : Hid (∀ q, collL q = idLs m ln kind i → 0 < q.length → q.length ≤ 1000000 → ∀ oa oc W, IntsIn W oa q → Calls Tryz.prog 47 #[.slice oa q.length oc] W (RetSl 3 1 (idLs m ln kind i).length (intVals (idLs m ln kind i)) W)) := Lib.hid (fun q hq h0 h1 oa oc W h => by
    have := HCO.out q oa oc W h h0 h1
    rw [hq] at this
    exact this)
  clear HCO
  by_cases h1 : kind = 1
  · subst h1
    have HCL := Lib.hid (collL_R HT.out hi)
    go_enter Tryz.func53, Tryz.ntmps53
    go_wp2_with fail
    generalize w.alloc (.cells #[.int .i64 (m : Nat), .slice a len cap] 25) = w1 at *
    go_loopw [7, 12] (fun v i' wr => ∃ c : Nat, c ≤ m ∧ i' = .int .i64 c ∧ Hid (Bld 3 1 w1 wr v (prR m ln i c).length (intVals (prR m ln i c)))) (fun _ i' _ => m - (intOf i').toNat)
    case atStart => exact ⟨0, Nat.zero_le _, rfl, Lib.hid (Bld.nil _ _ (Below.refl _ _))⟩
    case round =>
      obtain ⟨c, hcm, rfl, HO⟩ := hrel
      obtain ⟨z0, z1⟩ := HX.out _ HO.out.2
      have hpl : (prR m ln i c).length ≤ c := Nat.le_of_eq (prR_len i c)
      by_cases hlt : c < m
      · have HS := Lib.hid (prR_succ (m := m) (ln := ln) i c)
        go_wp2_with fail
        refine (implTimes_any m ln a _ _ i c _ (HN.out.later HO.out.2) HT.out HL.out hi hlt).mono ?_
        rintro e w3 ⟨rfl, hb3⟩
        have HO3 := Lib.hid (HO.out.later hb3)
        clear hb3 z0 z1
        go_wp2_with (at_builtin; refine wpList_app1 rfl _ _ rfl Tryz.underlying23 Tryz.infoInt rfl (by decide) rfl HO3.out rfl rfl (hone _) ?c2 ?c3 ?c4)
        case c2 => unfold maxLen; omega
        case c3 => omega
        intro v2 w4 hb4
        have F : Hid (Bld 3 1 w1 w4 v2 (prR m ln i (c + 1)).length (intVals (prR m ln i (c + 1)))) := Lib.hid (by rw [HS.out, intVals_snoc, List.length_append]; exact hb4)
        clear hb4
        go_wp2_with fail
        go_roundw
        case rel => exact ⟨c + 1, by omega, by go_num, F⟩
        case measure => simp [intOf]; omega
      · obtain rfl : c = m := by omega
        obtain ⟨oa, oc, rfl⟩ := owns_form HO.out.1
        have HC := Lib.hid (HD.out _ HCL.out (by rw [prR_len]; omega) (by omega) oa oc wr (owns_ints (l := prR c ln i c) HO.out.1))
        have HBE := Lib.hid (Below.now HB.out HO.out.2)
        clear z0 z1
        go_wp2_with fail
        refine HC.out.mono ?_
        rintro e w3 ⟨a3, c3, rfl, ho3, hb3⟩
        have F : Hid (RetSl 3 1 (idLs c ln 1 i).length (intVals (idLs c ln 1 i)) w (.returned (.slice a3 (idLs c ln 1 i).length c3)) w3) := Lib.hid ⟨_, _, rfl, owns_mono ho3 HBE.out.size, Below.now HBE.out hb3⟩
        clear ho3 hb3
        go_wp2_with fail
        go_ret
        exact F.out
  have e1 : (kind == 1) = false := by simpa using h1
  by_cases h2 : kind = 2
  · subst h2
    have HCL := Lib.hid (collL_L HT.out hi)
    go_enter Tryz.func53, Tryz.ntmps53
    go_wp2_with fail
    generalize w.alloc (.cells #[.int .i64 (m : Nat), .slice a len cap] 25) = w1 at *
    go_loopw [7, 12] (fun v i' wr => ∃ c : Nat, c ≤ m ∧ i' = .int .i64 c ∧ Hid (Bld 3 1 w1 wr v (prL m ln i c).length (intVals (prL m ln i c)))) (fun _ i' _ => m - (intOf i').toNat)
    case atStart => exact ⟨0, Nat.zero_le _, rfl, Lib.hid (Bld.nil _ _ (Below.refl _ _))⟩
    case round =>
      obtain ⟨c, hcm, rfl, HO⟩ := hrel
      obtain ⟨z0, z1⟩ := HX.out _ HO.out.2
      have hpl : (prL m ln i c).length ≤ c := Nat.le_of_eq (prL_len i c)
      by_cases hlt : c < m
      · have HS := Lib.hid (prL_succ (m := m) (ln := ln) i c)
        go_wp2_with fail
        refine (implTimes_any m ln a _ _ c i _ (HN.out.later HO.out.2) HT.out HL.out hlt hi).mono ?_
        rintro e w3 ⟨rfl, hb3⟩
        have HO3 := Lib.hid (HO.out.later hb3)
        clear hb3 z0 z1
        go_wp2_with (at_builtin; refine wpList_app1 rfl _ _ rfl Tryz.underlying23 Tryz.infoInt rfl (by decide) rfl HO3.out rfl rfl (hone _) ?d2 ?d3 ?d4)
        case d2 => unfold maxLen; omega
        case d3 => omega
        intro v2 w4 hb4
        have F : Hid (Bld 3 1 w1 w4 v2 (prL m ln i (c + 1)).length (intVals (prL m ln i (c + 1)))) := Lib.hid (by rw [HS.out, intVals_snoc, List.length_append]; exact hb4)
        clear hb4
        go_wp2_with fail
        go_roundw
        case rel => exact ⟨c + 1, by omega, by go_num, F⟩
        case measure => simp [intOf]; omega
      · obtain rfl : c = m := by omega
        obtain ⟨oa, oc, rfl⟩ := owns_form HO.out.1
        have HC := Lib.hid (HD.out _ HCL.out (by rw [prL_len]; omega) (by omega) oa oc wr (owns_ints (l := prL c ln i c) HO.out.1))
        have HBE := Lib.hid (Below.now HB.out HO.out.2)
        clear z0 z1
        go_wp2_with fail
        refine HC.out.mono ?_
        rintro e w3 ⟨a3, c3, rfl, ho3, hb3⟩
        have F : Hid (RetSl 3 1 (idLs c ln 2 i).length (intVals (idLs c ln 2 i)) w (.returned (.slice a3 (idLs c ln 2 i).length c3)) w3) := Lib.hid ⟨_, _, rfl, owns_mono ho3 HBE.out.size, Below.now HBE.out hb3⟩
        clear ho3 hb3
        go_wp2_with fail
        go_ret
        exact F.out
  have e2 : (kind == 2) = false := by simpa using h2
  have HCL := Lib.hid (collL_B HT.out h1 h2 hi)
  clear h1 h2
  go_enter Tryz.func53, Tryz.ntmps53
  go_wp2_with fail
  generalize w.alloc (.cells #[.int .i64 (m : Nat), .slice a len cap] 25) = w1 at *
  go_loopw [7, 12] (fun v i' wr => ∃ c : Nat, c ≤ m ∧ i' = .int .i64 c ∧ Hid (Bld 3 1 w1 wr v (prB m ln i c 0).length (intVals (prB m ln i c 0)))) (fun _ i' _ => m - (intOf i').toNat)
  case atStart => exact ⟨0, Nat.zero_le _, rfl, Lib.hid (Bld.nil _ _ (Below.refl _ _))⟩
  case round =>
    obtain ⟨c, hcm, rfl, HO⟩ := hrel
    obtain ⟨z0, z1⟩ := HX.out _ HO.out.2
    by_cases hlt : c < m
    · have hci := HT.out.tm_lt hlt hi
      have hcm2 := mul_le hm hlt
      go_wp2_with fail
      generalize hW0 : wr = wr0 at *
      clear hW0 z0 z1
      go_loopw [7, 18] (fun v j' wr => ∃ d : Nat, d ≤ m ∧ j' = .int .i64 d ∧ Hid (Bld 3 1 w1 wr v (prB m ln i c d).length (intVals (prB m ln i c d)))) (fun _ j' _ => m - (intOf j').toNat)
      case atStart => exact ⟨0, Nat.zero_le _, rfl, HO⟩
      case round =>
        clear HO
        obtain ⟨d, hdm, rfl, HO⟩ := hrel
        have hpl : (prB m ln i c d).length ≤ c * m + d := Nat.le_of_eq (prB_len i c d)
        obtain ⟨z0, z1⟩ := HX.out _ HO.out.2
        by_cases hld : d < m
        · have HS := Lib.hid (prB_succ (m := m) (ln := ln) i c d)
          obtain ⟨oa, oc, rfl⟩ := owns_form HO.out.1
          have hne : (Value.slice oa (prB m ln i c d).length oc).ownBlock ≠ some w.heap.size := fun e => by have := (HO.out.1.lt _ e).1; have := HZ.out; omega
          have HC1 : Hid ((prB m ln i c d).length + 1 ≤ maxLen) := Lib.hid (by unfold maxLen; omega)
          have HC2 : Hid (((prB m ln i c d).length + 1) * 8 ≤ 140737488355328) := Lib.hid (by omega)
          generalize prB m ln i c d = q at *
          have kr := Below.refl wr.heap.size wr
          go_wp2_with fail
          go_region_held3 (fun w' => w'.cell? ⟨w.heap.size, 0, none⟩ = some (.int .i64 (m : Nat)) ∧ w'.cell? ⟨w.heap.size, 1, none⟩ = some (.slice a len cap)) (go_keep) (first
            | (go_at_call 42; refine (implTimes_any m ln a _ _ _ _ _ (HN.out.later (Below.now HO.out.2 (by repeat (first | exact kr | refine Below.drew ?_ | refine below_drewN ?_ _)))) HT.out HL.out (by assumption) (by assumption)).mono ?_; rintro e w2 ⟨rfl, hb2⟩; replace kr : Below wr.heap.size wr w2 := Below.now (by repeat (first | exact kr | refine Below.drew ?_ | refine below_drewN ?_ _)) hb2; have s0 := (HX.out w2 (Below.now HO.out.2 kr)).1; have s1 := (HX.out w2 (Below.now HO.out.2 kr)).2; clear hb2)
            | (refine step_app1g rfl _ _ (by rfl) Tryz.underlying23 Tryz.infoInt rfl (by decide) (by rfl) (HO.out.later kr) (by rfl) rfl (hone _) HC1.out HC2.out ?_; intro v2 w4 hb4 hgr; have t0 : w4.cell? ⟨w.heap.size, 0, none⟩ = some (.int .i64 (m : Nat)) := far_cell hgr (HX.out _ (Below.now HO.out.2 kr)).1 hne; have t1 : w4.cell? ⟨w.heap.size, 1, none⟩ = some (.slice a len cap) := far_cell hgr (HX.out _ (Below.now HO.out.2 kr)).2 hne; clear hgr))
          all_goals
            have F : Hid (Bld 3 1 w1 w4 v2 (prB m ln i c (d + 1)).length (intVals (prB m ln i c (d + 1)))) := Lib.hid (by rw [HS.out, intVals_snoc, List.length_append]; exact hb4)
            clear hb4 hne kr
            go_wp2_with fail
            go_roundw
            case rel => exact ⟨d + 1, by omega, by go_num, F⟩
            case measure => simp [intOf]; omega
        · obtain rfl : d = m := by omega
          have F := HO
          rw [prB_full] at F
          clear z0 z1
          go_wp2_with fail
          go_roundw
          case rel => exact ⟨c + 1, by omega, by go_num, F⟩
          case measure => simp [intOf]; omega
    · obtain rfl : c = m := by omega
      obtain ⟨oa, oc, rfl⟩ := owns_form HO.out.1
      have hpl : (prB c ln i c 0).length ≤ c * c + 0 := Nat.le_of_eq (prB_len i c 0)
      have hc1 : 1 ≤ c * c := Nat.mul_le_mul hm0 hm0
      have HC := Lib.hid (HD.out _ HCL.out (by rw [prB_len]; omega) (by omega) oa oc wr (owns_ints (l := prB c ln i c 0) HO.out.1))
      have HBE := Lib.hid (Below.now HB.out HO.out.2)
      clear z0 z1
      go_wp2_with fail
      refine HC.out.mono ?_
      rintro e w3 ⟨a3, c3, rfl, ho3, hb3⟩
      have F : Hid (RetSl 3 1 (idLs c ln kind i).length (intVals (idLs c ln kind i)) w (.returned (.slice a3 (idLs c ln kind i).length c3)) w3) := Lib.hid ⟨_, _, rfl, owns_mono ho3 HBE.out.size, Below.now HBE.out hb3⟩
      clear ho3 hb3
      go_wp2_with fail
      go_ret
      exact F.out
end Go.Proofs.YtngbimgabcacpaaGreat
