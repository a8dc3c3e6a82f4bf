/-
  The walk of 'FnReports'.
-/
import Derived.Test.YtdhaebbfiaddnaaGreatDoorGre23
import Derived.Test.YtdhaebbfiaddnaaGreatDoorGre33
import Derived.Test.YtdhaebbfiaddnaaGreatDoorGre25
import Derived.Test.YtdhaebbfiaddnaaGreatDoorGre34
import Derived.Test.YtdhaebbfiaddnaaGreatDoorGre35
import Derived.Test.YtdhaebbfiaddnaaGreatDoorGre21
import Derived.Test.YtdhaebbfiaddnaaGreatDoorGre05
namespace Go.Proofs.YtdhaebbfiaddnaaGreatDoor.fnReports
open Go.RowKit
set_option linter.unusedVariables false
theorem lit_words (w : World) : StrsIn (w.alloc (.cells #[.string ⟨#[97]⟩, .string ⟨#[]⟩] 9)) (some ⟨w.heap.size, 0, none⟩) [⟨#[97]⟩, ⟨#[]⟩] := by
  have hO : (w.alloc (.cells #[.string ⟨#[97]⟩, .string ⟨#[]⟩] 9)).ownsRow w.heap.size 9 1 (.slice (some ⟨w.heap.size, 0, none⟩) 2 2) 2 [.string ⟨#[97]⟩, .string ⟨#[]⟩] := World.ownsRow_lit (base := w.heap.size) (size := 1) w #[.string ⟨#[97]⟩, .string ⟨#[]⟩] 2 (Nat.le_refl _) (by unfold maxLen; omega) rfl
  exact owns_cells hO
theorem lit_steps (w : World) : StepsIn (w.alloc (.cells #[.int .i64 1, .int .i64 2] 30)) (some ⟨w.heap.size, 0, none⟩) [(1, 2)] := by
  have hO : (w.alloc (.cells #[.int .i64 1, .int .i64 2] 30)).ownsRow w.heap.size 30 2 (.slice (some ⟨w.heap.size, 0, none⟩) 1 1) 1 [.int .i64 1, .int .i64 2] := World.ownsRow_lit (base := w.heap.size) (size := 2) w #[.int .i64 1, .int .i64 2] 1 (Nat.le_refl _) (by unfold maxLen; omega) rfl
  exact owns_cells hO
/-- a guarded operation that hands back a value, in a world of the class -/
theorem each_doG {P : Program} {Q : Exit → Act → World → Prop} {Fr : (Nat → Value) → Act} {C : World → Prop} {R : World → World → Prop} {opsL l : List Oper} {acc : List Vp} {o : Oper} (V : Vp) (hV : ∀ v w w', C w' → R w w' → V v w → V v w')
    (h : ∀ u w, C w → factsOf acc o.after.toList u w → Region.wanted o (yielded opsL.toArray (Fr u).tmps) = true ∧ ∃ v w', (execOp (Fr u).eval o).run P w = .ok (.value v) w' ∧ C w' ∧ R w w' ∧ V v w') (hn : eachOf P Q opsL Fr C R l (acc ++ [V])) : eachOf P Q opsL Fr C R (o :: l) acc := by
  refine ⟨V, hV, fun u w hc hf => ?_, hn⟩
  obtain ⟨hw, v, w', h1, h2, h3, h4⟩ := h u w hc hf
  rw [if_pos hw]
  intro K hK
  unfold Oper.wp
  rw [h1]
  exact hK v w' h2 h3 h4
theorem words_txt : fmtWords [⟨#[97]⟩, ⟨#[]⟩] = ⟨#[97, 44, 46]⟩ := by decide +kernel
theorem steps_txt : fmtSteps [(1, 2)] = ⟨#[49, 64, 50]⟩ := by decide +kernel
theorem links_txt : fmtLinks [] = ⟨#[61]⟩ := by decide +kernel
theorem run_txt : runText ⟨#[97]⟩ 2 1 = ⟨#[108, 111, 111, 112, 115, 32, 50, 32, 97]⟩ := by decide +kernel
set_option maxRecDepth 100000 in
set_option maxHeartbeats 16000000 in
theorem walkSmall (a : Option Addr) (l : List UInt8) (cap : Nat) (w : World) (hl : BytesIn w a l) (hlen : l.length ≤ 1048576) (ht : Tab10 w) :
    Calls Tryz.prog 4 #[.slice a l.length cap] w fun e w' => e = .returned (.bool true) ∧ Below w.heap.size w w' := by
  have hq0 : ¬ (1048576 : Int) < (l.length : Int) := by omega
  have HM := Lib.hid (specMakeSystem_any a l cap 0 w hl (by omega) (by omega))
  have HT10 := Lib.hid ht
  clear hl ht
  go_enter Tryz.func4, Tryz.ntmps4
  go_wp2_with fail
  refine HM.out.mono ?_
  rintro e w1 ⟨k, R, aR, cR, hs, rfl, hR, hb1⟩
  have h12 : R.length ≤ 12 := hs.1.1.2
  have hpl : (pairsF R).length ≤ 2496 := by
    rw [← pairTo_done]
    exact pairTo_len (left8 hs) h12 (by omega) (by omega)
  have hol : (openF R).length ≤ (pairsF R).length := by unfold openF openL; exact List.length_filter_le _ _
  have HCP := Lib.hid (fun W (h : RulesIn W aR R) => implCountPairs_any k R aR cR W h hs)
  obtain ⟨m, hlg⟩ : ∃ m, LngIs k R m := by
    obtain ⟨m, hh⟩ := HtIs.ex R k.toNat ⟨#[]⟩
    exact ⟨m, .inr ⟨hs, hh⟩⟩
  obtain ⟨hm1, hm2⟩ := hlg.rng
  have hls : lineS k R = lineF (numB (R.length : Int)) (numB ((pairsF R).length : Int)) (numB ((openF R).length : Int)) (numB m) := SlIs.uniq (Classical.choose_spec (SlIs.ex k R)) (.inr ⟨hs, m, hlg, rfl⟩)
  have HSL := Lib.hid (fun W (h : RulesIn W aR R) (h2 : Tab10 W) => implSystemLine_fn k R aR cR W h (by omega) (szR_of hs) h2)
  rw [hls] at HSL
  have HLR : Hid (∀ W, RulesIn W aR R → Calls Tryz.prog 17 #[.agg #[.int .i64 k, .slice aR R.length cR]] W fun e w' => e = .returned (.int .i64 m) ∧ Below W.heap.size W w') := Lib.hid (fun W h => (implLongestReduced_any k R aR cR W h (by omega) (szR_of hs)).mono fun e w' ⟨m2, h1, h2, h3⟩ => ⟨by rw [h2, h1.uniq hlg], h3⟩)
  have HFA : Hid (∀ W, Tab10 W → Calls Tryz.prog 16 #[.int .i64 (R.length : Nat)] W fun e w' => e = .returned (.string (numB (R.length : Int))) ∧ Below W.heap.size W w') := Lib.hid (fun W h => implFormatInt_any _ W (by omega) (by omega) h)
  have HFB : Hid (∀ W, Tab10 W → Calls Tryz.prog 16 #[.int .i64 ((pairsF R).length : Nat)] W fun e w' => e = .returned (.string (numB ((pairsF R).length : Int))) ∧ Below W.heap.size W w') := Lib.hid (fun W h => implFormatInt_any _ W (by omega) (by omega) h)
  have HFC : Hid (∀ W, Tab10 W → Calls Tryz.prog 16 #[.int .i64 ((openF R).length : Nat)] W fun e w' => e = .returned (.string (numB ((openF R).length : Int))) ∧ Below W.heap.size W w') := Lib.hid (fun W h => implFormatInt_any _ W (by omega) (by omega) h)
  have HFD : Hid (∀ W, Tab10 W → Calls Tryz.prog 16 #[.int .i64 m] W fun e w' => e = .returned (.string (numB m)) ∧ Below W.heap.size W w') := Lib.hid (fun W h => implFormatInt_any _ W (by omega) (by omega) h)
  have hgp : growP k R 3 := ⟨hs, by omega, by omega⟩
  have hgl : lineG k R 3 = fmtNums (growO k R 3) := by unfold lineG; rw [if_pos hgp]
  have HGL := Lib.hid (fun W (h : RulesIn W aR R) (h2 : Tab10 W) => implGrowthLine_fn k R aR cR 3 W h (by omega) (szR_of hs) h2)
  rw [hgl] at HGL
  have hk4 : k.toNat ≤ 4 := by have := hs.1.1.1; omega
  have hgr : Rng64 (growO k R 3) := growL_rng hk4 (by decide)
  have hgn : (growO k R 3).length ≤ 17 := by unfold growO; rw [growL_len]; decide
  have HGO : Hid (∀ W, RulesIn W aR R → Calls Tryz.prog 20 #[.agg #[.int .i64 k, .slice aR R.length cR], .int .i64 3] W (RetSl 3 1 (growO k R 3).length (zVals (growO k R 3)) W)) := Lib.hid (fun W h => (implGrowthOf_any k R 3 aR cR W h (by omega) (szR_of hs)).mono fun e w' h => by
    rcases h with ⟨h1, _⟩ | ⟨_, h2⟩
    · exact absurd hgp h1
    · exact h2)
  generalize growO k R 3 = G at *
  have HFN := Lib.hid (fun ag cg W (h : IntsIn W ag G) (h2 : Tab10 W) => implFormatNumbers_any G ag cg W h (by omega) hgr h2)
  have HFW := Lib.hid (fun g W (h : StrsIn W (some ⟨g, 0, none⟩) [⟨#[97]⟩, ⟨#[]⟩]) => implFormatWords_any [⟨#[97]⟩, ⟨#[]⟩] (some ⟨g, 0, none⟩) 2 W h (by decide) (by decide))
  rw [words_txt] at HFW
  have HFS := Lib.hid (fun g W (h : StepsIn W (some ⟨g, 0, none⟩) [(1, 2)]) (h2 : Tab10 W) => implFormatSteps_any [(1, 2)] (some ⟨g, 0, none⟩) 1 W h (by decide) (fun j hj => by
    obtain rfl : j = 0 := by simpa using hj
    decide) h2)
  rw [steps_txt] at HFS
  have HFK := Lib.hid (fun W (h2 : Tab10 W) => implFormatLinks_any [] none 0 W (.inl rfl) (by decide) (fun j hj => by simp at hj) h2)
  rw [links_txt] at HFK
  have HRT := Lib.hid (fun W (h2 : Tab10 W) => implRunText_any ⟨#[97]⟩ 2 1 W (by decide) (by decide) (by decide) h2)
  rw [run_txt] at HRT
  have l1 := itoa_len (n := (R.length : Int)) (by omega) (by omega)
  have l2 := itoa_len (n := ((pairsF R).length : Int)) (by omega) (by omega)
  have l3 := itoa_len (n := ((openF R).length : Int)) (by omega) (by omega)
  have l4 := itoa_len (n := m) (by omega) (by omega)
  unfold lineF at HSL
  generalize numB (R.length : Int) = A1 at *
  generalize numB ((pairsF R).length : Int) = A2 at *
  generalize numB ((openF R).length : Int) = A3 at *
  generalize numB m = A4 at *
  generalize fmtNums G = gt at *
  have y1 : ¬ 9223372036854775807 < 6 + A1.size := by omega
  have y2 : ¬ 9223372036854775807 < 6 + A1.size + 7 := by omega
  have y3 : ¬ 9223372036854775807 < 6 + A1.size + 7 + A2.size := by omega
  have y4 : ¬ 9223372036854775807 < 6 + A1.size + 7 + A2.size + 6 := by omega
  have y5 : ¬ 9223372036854775807 < 6 + A1.size + 7 + A2.size + 6 + A3.size := by omega
  have y6 : ¬ 9223372036854775807 < 6 + A1.size + 7 + A2.size + 6 + A3.size + 9 := by omega
  have y7 : ¬ 9223372036854775807 < 6 + A1.size + 7 + A2.size + 6 + A3.size + 9 + A4.size := by omega
  have HRI : Hid (∀ W, Below w1.heap.size w1 W → RulesIn W aR R) := Lib.hid (fun W h => hR.later h)
  have HB1 := Lib.hid hb1
  clear hb1 HM hs hR hls hgp hgl hgr hlg l1 l2 l3 l4
  have HW2 := Lib.hid (alloc_belowS w1 (.cells #[.int .i64 k, .slice aR R.length cR] 25))
  have HX : Hid (∀ W, Below (w1.alloc (.cells #[.int .i64 k, .slice aR R.length cR] 25)).heap.size (w1.alloc (.cells #[.int .i64 k, .slice aR R.length cR] 25)) W → W.cell? ⟨w1.heap.size, 0, none⟩ = some (.int .i64 k) ∧ W.cell? ⟨w1.heap.size, 1, none⟩ = some (.slice aR R.length cR)) := Lib.hid (fun W hW => ⟨by rw [hW.cell (by simp)]; simp, by rw [hW.cell (by simp)]; simp⟩)
  go_wp2_with fail
  generalize w1.alloc (.cells #[.int .i64 k, .slice aR R.length cR] 25) = w2 at *
  have HRW : Hid (∀ W, Below w2.heap.size w2 W → RulesIn W aR R) := Lib.hid (fun W h => HRI.out W (Below.now HW2.out h))
  have HTW : Hid (∀ W, Below w2.heap.size w2 W → Tab10 W) := Lib.hid (fun W h => HT10.out.later (Below.now HB1.out (Below.now HW2.out h)))
  clear HRI HT10
  refine (HCP.out _ (HRW.out _ (Below.refl _ _))).mono ?_
  rintro e w3 ⟨rfl, hb3⟩
  have HB3 := Lib.hid hb3
  clear hb3 HCP
  go_upto_region 5 with fail
  refine region_each (fun W => Below w3.heap.size w3 W) (fun W W2 => Below W.heap.size W W2) (fun u => by simp only [fPut, Act.put, List.setIfInBounds_toArray, List.set_cons_succ, List.set_cons_zero, Nat.zero_add, Nat.reduceAdd]; rfl) (by kernel_rfl) (by kernel_rfl) (by kernel_rfl) (Below.drew (Below.refl _ _)) ?_
  apply each_read (fun _ => Below.refl _ _) rfl
  · intro u wv hC hf
    have z0 := (HX.out _ (Below.now HB3.out hC)).1
    have z1 := (HX.out _ (Below.now HB3.out hC)).2
    clear hf
    go_simp
    try rfl
  apply each_callR rfl
  · intro u wv hC hf
    have z0 := (HX.out _ (Below.now HB3.out hC)).1
    have z1 := (HX.out _ (Below.now HB3.out hC)).2
    obtain ⟨d0_0, -⟩ := hf
    have e0 : u 0 = _ := d0_0 rfl
    clear d0_0
    apply Exists.intro; apply Exists.intro; apply And.intro
    · go_simp; exact ⟨rfl, rfl⟩
    · refine (HSL.out _ (HRW.out _ (Below.now HB3.out hC)) (HTW.out _ (Below.now HB3.out hC))).mono ?_
      rintro e w3 ⟨rfl, hb⟩
      exact ⟨rfl, Below.now hC hb, hb⟩
  conv => arg 8; simp only [List.cons_append, List.nil_append]
  apply each_read (fun _ => Below.refl _ _) rfl
  · intro u wv hC hf
    have z0 := (HX.out _ (Below.now HB3.out hC)).1
    have z1 := (HX.out _ (Below.now HB3.out hC)).2
    clear hf
    go_simp
    try rfl
  conv => arg 8; simp only [List.cons_append, List.nil_append]
  apply each_read (fun _ => Below.refl _ _) rfl
  · intro u wv hC hf
    have z0 := (HX.out _ (Below.now HB3.out hC)).1
    have z1 := (HX.out _ (Below.now HB3.out hC)).2
    obtain ⟨d2_0, -⟩ := hf
    have e2 : u 2 = _ := d2_0 rfl
    clear d2_0
    go_simp
    try rfl
  conv => arg 8; simp only [List.cons_append, List.nil_append]
  apply each_read (fun _ => Below.refl _ _) rfl
  · intro u wv hC hf
    have z0 := (HX.out _ (Below.now HB3.out hC)).1
    have z1 := (HX.out _ (Below.now HB3.out hC)).2
    obtain ⟨d3_0, -⟩ := hf
    have e3 : u 3 = _ := d3_0 rfl
    clear d3_0
    go_simp
    try rfl
  conv => arg 8; simp only [List.cons_append, List.nil_append]
  apply each_callR rfl
  · intro u wv hC hf
    have z0 := (HX.out _ (Below.now HB3.out hC)).1
    have z1 := (HX.out _ (Below.now HB3.out hC)).2
    obtain ⟨d4_0, d1_1, -⟩ := hf
    have e4 : u 4 = _ := d4_0 rfl
    clear d4_0
    have e1 : u 1 = _ := d1_1 rfl
    clear d1_1
    apply Exists.intro; apply Exists.intro; apply And.intro
    · go_simp; exact ⟨rfl, rfl⟩
    · refine (HFA.out _ (HTW.out _ (Below.now HB3.out hC))).mono ?_
      rintro e w3 ⟨rfl, hb⟩
      exact ⟨rfl, Below.now hC hb, hb⟩
  conv => arg 8; simp only [List.cons_append, List.nil_append]
  apply each_read (fun _ => Below.refl _ _) rfl
  · intro u wv hC hf
    have z0 := (HX.out _ (Below.now HB3.out hC)).1
    have z1 := (HX.out _ (Below.now HB3.out hC)).2
    obtain ⟨d5_0, -⟩ := hf
    have e5 : u 5 = _ := d5_0 rfl
    clear d5_0
    go_simp
    try rfl
  conv => arg 8; simp only [List.cons_append, List.nil_append]
  apply each_read (fun _ => Below.refl _ _) rfl
  · intro u wv hC hf
    have z0 := (HX.out _ (Below.now HB3.out hC)).1
    have z1 := (HX.out _ (Below.now HB3.out hC)).2
    obtain ⟨d6_0, -⟩ := hf
    have e6 : u 6 = _ := d6_0 rfl
    clear d6_0
    go_simp
    try rfl
  conv => arg 8; simp only [List.cons_append, List.nil_append]
  apply each_read (fun _ => Below.refl _ _) rfl
  · intro u wv hC hf
    have z0 := (HX.out _ (Below.now HB3.out hC)).1
    have z1 := (HX.out _ (Below.now HB3.out hC)).2
    clear hf
    go_simp
    try rfl
  conv => arg 8; simp only [List.cons_append, List.nil_append]
  apply each_callR rfl
  · intro u wv hC hf
    have z0 := (HX.out _ (Below.now HB3.out hC)).1
    have z1 := (HX.out _ (Below.now HB3.out hC)).2
    obtain ⟨d8_0, d5_1, -⟩ := hf
    have e8 : u 8 = _ := d8_0 rfl
    clear d8_0
    have e5 : u 5 = _ := d5_1 rfl
    clear d5_1
    apply Exists.intro; apply Exists.intro; apply And.intro
    · go_simp; exact ⟨rfl, rfl⟩
    · refine (HFB.out _ (HTW.out _ (Below.now HB3.out hC))).mono ?_
      rintro e w3 ⟨rfl, hb⟩
      exact ⟨rfl, Below.now hC hb, hb⟩
  conv => arg 8; simp only [List.cons_append, List.nil_append]
  apply each_read (fun _ => Below.refl _ _) rfl
  · intro u wv hC hf
    have z0 := (HX.out _ (Below.now HB3.out hC)).1
    have z1 := (HX.out _ (Below.now HB3.out hC)).2
    obtain ⟨d7_0, d9_1, -⟩ := hf
    have e7 : u 7 = _ := d7_0 rfl
    clear d7_0
    have e9 : u 9 = _ := d9_1 rfl
    clear d9_1
    go_simp
    try rfl
  conv => arg 8; simp only [List.cons_append, List.nil_append]
  apply each_read (fun _ => Below.refl _ _) rfl
  · intro u wv hC hf
    have z0 := (HX.out _ (Below.now HB3.out hC)).1
    have z1 := (HX.out _ (Below.now HB3.out hC)).2
    obtain ⟨d10_0, -⟩ := hf
    have e10 : u 10 = _ := d10_0 rfl
    clear d10_0
    go_simp
    try rfl
  conv => arg 8; simp only [List.cons_append, List.nil_append]
  apply each_read (fun _ => Below.refl _ _) rfl
  · intro u wv hC hf
    have z0 := (HX.out _ (Below.now HB3.out hC)).1
    have z1 := (HX.out _ (Below.now HB3.out hC)).2
    clear hf
    go_simp
    try rfl
  conv => arg 8; simp only [List.cons_append, List.nil_append]
  apply each_callR rfl
  · intro u wv hC hf
    have z0 := (HX.out _ (Below.now HB3.out hC)).1
    have z1 := (HX.out _ (Below.now HB3.out hC)).2
    obtain ⟨d12_0, d9_1, -⟩ := hf
    have e12 : u 12 = _ := d12_0 rfl
    clear d12_0
    have e9 : u 9 = _ := d9_1 rfl
    clear d9_1
    apply Exists.intro; apply Exists.intro; apply And.intro
    · go_simp; exact ⟨rfl, rfl⟩
    · refine (HFC.out _ (HTW.out _ (Below.now HB3.out hC))).mono ?_
      rintro e w3 ⟨rfl, hb⟩
      exact ⟨rfl, Below.now hC hb, hb⟩
  conv => arg 8; simp only [List.cons_append, List.nil_append]
  apply each_read (fun _ => Below.refl _ _) rfl
  · intro u wv hC hf
    have z0 := (HX.out _ (Below.now HB3.out hC)).1
    have z1 := (HX.out _ (Below.now HB3.out hC)).2
    obtain ⟨d11_0, d13_1, -⟩ := hf
    have e11 : u 11 = _ := d11_0 rfl
    clear d11_0
    have e13 : u 13 = _ := d13_1 rfl
    clear d13_1
    go_simp
    try rfl
  conv => arg 8; simp only [List.cons_append, List.nil_append]
  apply each_read (fun _ => Below.refl _ _) rfl
  · intro u wv hC hf
    have z0 := (HX.out _ (Below.now HB3.out hC)).1
    have z1 := (HX.out _ (Below.now HB3.out hC)).2
    obtain ⟨d14_0, -⟩ := hf
    have e14 : u 14 = _ := d14_0 rfl
    clear d14_0
    go_simp
    try rfl
  conv => arg 8; simp only [List.cons_append, List.nil_append]
  apply each_read (fun _ => Below.refl _ _) rfl
  · intro u wv hC hf
    have z0 := (HX.out _ (Below.now HB3.out hC)).1
    have z1 := (HX.out _ (Below.now HB3.out hC)).2
    clear hf
    go_simp
    try rfl
  conv => arg 8; simp only [List.cons_append, List.nil_append]
  apply each_callR rfl
  · intro u wv hC hf
    have z0 := (HX.out _ (Below.now HB3.out hC)).1
    have z1 := (HX.out _ (Below.now HB3.out hC)).2
    obtain ⟨d16_0, d13_1, -⟩ := hf
    have e16 : u 16 = _ := d16_0 rfl
    clear d16_0
    have e13 : u 13 = _ := d13_1 rfl
    clear d13_1
    apply Exists.intro; apply Exists.intro; apply And.intro
    · go_simp; exact ⟨rfl, rfl⟩
    · refine (HLR.out _ (HRW.out _ (Below.now HB3.out hC))).mono ?_
      rintro e w3 ⟨rfl, hb⟩
      exact ⟨rfl, Below.now hC hb, hb⟩
  conv => arg 8; simp only [List.cons_append, List.nil_append]
  apply each_callR rfl
  · intro u wv hC hf
    have z0 := (HX.out _ (Below.now HB3.out hC)).1
    have z1 := (HX.out _ (Below.now HB3.out hC)).2
    obtain ⟨d17_0, d17_1, -⟩ := hf
    have e17 : u 17 = _ := d17_0 rfl
    clear d17_0
    clear d17_1
    apply Exists.intro; apply Exists.intro; apply And.intro
    · go_simp; exact ⟨rfl, rfl⟩
    · refine (HFD.out _ (HTW.out _ (Below.now HB3.out hC))).mono ?_
      rintro e w3 ⟨rfl, hb⟩
      exact ⟨rfl, Below.now hC hb, hb⟩
  conv => arg 8; simp only [List.cons_append, List.nil_append]
  apply each_read (fun _ => Below.refl _ _) rfl
  · intro u wv hC hf
    have z0 := (HX.out _ (Below.now HB3.out hC)).1
    have z1 := (HX.out _ (Below.now HB3.out hC)).2
    obtain ⟨d15_0, d18_1, -⟩ := hf
    have e15 : u 15 = _ := d15_0 rfl
    clear d15_0
    have e18 : u 18 = _ := d18_1 rfl
    clear d18_1
    go_simp
    try rfl
  conv => arg 8; simp only [List.cons_append, List.nil_append]
  apply each_read (fun _ => Below.refl _ _) rfl
  · intro u wv hC hf
    have z0 := (HX.out _ (Below.now HB3.out hC)).1
    have z1 := (HX.out _ (Below.now HB3.out hC)).2
    obtain ⟨d1_0, d19_1, -⟩ := hf
    have e1 : u 1 = _ := d1_0 rfl
    clear d1_0
    have e19 : u 19 = _ := d19_1 rfl
    clear d19_1
    go_simp
    try rfl
  conv => arg 8; simp only [List.cons_append, List.nil_append]
  apply each_read (fun _ => Below.refl _ _) rfl
  · intro u wv hC hf
    have z0 := (HX.out _ (Below.now HB3.out hC)).1
    have z1 := (HX.out _ (Below.now HB3.out hC)).2
    obtain ⟨d20_0, d18_1, -⟩ := hf
    have e20 : u 20 = _ := d20_0 rfl
    clear d20_0
    have e18 : u 18 = _ := d18_1 rfl
    clear d18_1
    go_simp
    try rfl
  conv => arg 8; simp only [List.cons_append, List.nil_append]
  apply each_readG (fun _ => Below.refl _ _)
  · intro u wv hC hf
    have z0 := (HX.out _ (Below.now HB3.out hC)).1
    have z1 := (HX.out _ (Below.now HB3.out hC)).2
    obtain ⟨d21_0, -⟩ := hf
    have e21 : u 21 = _ := d21_0 rfl
    clear d21_0
    refine ⟨wanted_at rfl rfl rfl e21 rfl, ?_⟩
    go_simp
    try rfl
  conv => arg 8; simp only [List.cons_append, List.nil_append]
  apply each_callRG
  · intro u wv hC hf
    have z0 := (HX.out _ (Below.now HB3.out hC)).1
    have z1 := (HX.out _ (Below.now HB3.out hC)).2
    obtain ⟨d22_0, d21_1, d21_2, -⟩ := hf
    have e22 : u 22 = _ := d22_0 rfl
    clear d22_0
    have e21 : u 21 = _ := d21_1 rfl
    clear d21_1
    clear d21_2
    refine ⟨wanted_at rfl rfl rfl e21 rfl, ?_⟩
    apply Exists.intro; apply Exists.intro; apply And.intro
    · go_simp; exact ⟨rfl, rfl⟩
    · refine (HGL.out _ (HRW.out _ (Below.now HB3.out hC)) (HTW.out _ (Below.now HB3.out hC))).mono ?_
      rintro e w3 ⟨rfl, hb⟩
      exact ⟨rfl, Below.now hC hb, hb⟩
  conv => arg 8; simp only [List.cons_append, List.nil_append]
  apply each_readG (fun _ => Below.refl _ _)
  · intro u wv hC hf
    have z0 := (HX.out _ (Below.now HB3.out hC)).1
    have z1 := (HX.out _ (Below.now HB3.out hC)).2
    obtain ⟨d21_0, -⟩ := hf
    have e21 : u 21 = _ := d21_0 rfl
    clear d21_0
    refine ⟨wanted_at rfl rfl rfl e21 rfl, ?_⟩
    go_simp
    try rfl
  conv => arg 8; simp only [List.cons_append, List.nil_append]
  refine each_callG (fun v wv => ∃ ag cg, v = .slice ag G.length cg ∧ IntsIn wv ag G) (fun v w w2 _ hR ⟨a, c, h1, h2⟩ => ⟨a, c, h1, h2.later hR⟩) ?_ ?_
  · intro u wv hC hf
    have z0 := (HX.out _ (Below.now HB3.out hC)).1
    have z1 := (HX.out _ (Below.now HB3.out hC)).2
    obtain ⟨d24_0, d23_1, d21_2, -⟩ := hf
    have e24 : u 24 = _ := d24_0 rfl
    clear d24_0
    have e23 : u 23 = _ := d23_1 rfl
    clear d23_1
    have e21 : u 21 = _ := d21_2 rfl
    clear d21_2
    refine ⟨wanted_at rfl rfl rfl e21 rfl, ?_⟩
    apply Exists.intro; apply Exists.intro; apply And.intro
    · go_simp; exact ⟨rfl, rfl⟩
    · refine (HGO.out _ (HRW.out _ (Below.now HB3.out hC))).mono ?_
      rintro e w3 ⟨ax, cx, rfl, ho, hb⟩
      exact ⟨_, rfl, Below.now hC hb, hb, ax, cx, rfl, owns_ints (l := G) ho⟩
  conv => arg 8; simp only [List.cons_append, List.nil_append]
  apply each_callRG
  · intro u wv hC hf
    have z0 := (HX.out _ (Below.now HB3.out hC)).1
    have z1 := (HX.out _ (Below.now HB3.out hC)).2
    obtain ⟨d25_0, d25_1, d21_2, -⟩ := hf
    obtain ⟨ag, cg, e25, x25⟩ := d25_0 rfl
    clear d25_1
    have e21 : u 21 = _ := d21_2 rfl
    clear d21_2
    refine ⟨wanted_at rfl rfl rfl e21 rfl, ?_⟩
    apply Exists.intro; apply Exists.intro; apply And.intro
    · go_simp; exact ⟨rfl, rfl⟩
    · refine (HFN.out _ _ _ x25 (HTW.out _ (Below.now HB3.out hC))).mono ?_
      rintro e w3 ⟨rfl, hb⟩
      exact ⟨rfl, Below.now hC hb, hb⟩
  conv => arg 8; simp only [List.cons_append, List.nil_append]
  apply each_readG (fun _ => Below.refl _ _)
  · intro u wv hC hf
    have z0 := (HX.out _ (Below.now HB3.out hC)).1
    have z1 := (HX.out _ (Below.now HB3.out hC)).2
    obtain ⟨d23_0, d26_1, d21_2, -⟩ := hf
    have e23 : u 23 = _ := d23_0 rfl
    clear d23_0
    have e26 : u 26 = _ := d26_1 rfl
    clear d26_1
    have e21 : u 21 = _ := d21_2 rfl
    clear d21_2
    refine ⟨wanted_at rfl rfl rfl e21 rfl, ?_⟩
    go_simp
    try rfl
  conv => arg 8; simp only [List.cons_append, List.nil_append]
  apply each_read (fun _ => Below.refl _ _) rfl
  · intro u wv hC hf
    have z0 := (HX.out _ (Below.now HB3.out hC)).1
    have z1 := (HX.out _ (Below.now HB3.out hC)).2
    obtain ⟨d21_0, d27_1, -⟩ := hf
    have e21 : u 21 = _ := d21_0 rfl
    clear d21_0
    have e27 : u 27 = _ := d27_1 rfl
    clear d27_1
    go_simp
    try rfl
  conv => arg 8; simp only [List.cons_append, List.nil_append]
  apply each_read (fun _ => Below.refl _ _) rfl
  · intro u wv hC hf
    have z0 := (HX.out _ (Below.now HB3.out hC)).1
    have z1 := (HX.out _ (Below.now HB3.out hC)).2
    obtain ⟨d28_0, d26_1, -⟩ := hf
    have e28 : u 28 = _ := d28_0 rfl
    clear d28_0
    have e26 : u 26 = _ := d26_1 rfl
    clear d26_1
    go_simp
    try rfl
  conv => arg 8; simp only [List.cons_append, List.nil_append]
  refine each_doG (fun v wv => ∃ g, v = .slice (some ⟨g, 0, none⟩) 2 2 ∧ StrsIn wv (some ⟨g, 0, none⟩) [⟨#[97]⟩, ⟨#[]⟩]) (fun v w w2 _ hR ⟨g, h1, h2⟩ => ⟨g, h1, h2.later hR⟩) ?_ ?_
  · intro u wv hC hf
    have z0 := (HX.out _ (Below.now HB3.out hC)).1
    have z1 := (HX.out _ (Below.now HB3.out hC)).2
    obtain ⟨d29_0, -⟩ := hf
    have e29 : u 29 = _ := d29_0 rfl
    clear d29_0
    refine ⟨wanted_at rfl rfl rfl e29 rfl, ?_⟩
    refine ⟨.slice (some ⟨wv.heap.size, 0, none⟩) 2 2, wv.alloc (.cells #[.string ⟨#[97]⟩, .string ⟨#[]⟩] 9), ?_, Below.alloc hC hC.size _, alloc_belowS _ _, wv.heap.size, rfl, lit_words wv⟩
    go_simp
    try rfl
  conv => arg 8; simp only [List.cons_append, List.nil_append]
  apply each_callRG
  · intro u wv hC hf
    have z0 := (HX.out _ (Below.now HB3.out hC)).1
    have z1 := (HX.out _ (Below.now HB3.out hC)).2
    obtain ⟨d30_0, d29_1, d29_2, -⟩ := hf
    obtain ⟨g30, e30, x30⟩ := d30_0 rfl
    have e29 : u 29 = _ := d29_1 rfl
    clear d29_1
    clear d29_2
    refine ⟨wanted_at rfl rfl rfl e29 rfl, ?_⟩
    apply Exists.intro; apply Exists.intro; apply And.intro
    · go_simp; exact ⟨rfl, rfl⟩
    · refine (HFW.out _ _ x30).mono ?_
      rintro e w3 ⟨rfl, hb⟩
      exact ⟨rfl, Below.now hC hb, hb⟩
  conv => arg 8; simp only [List.cons_append, List.nil_append]
  apply each_readG (fun _ => Below.refl _ _)
  · intro u wv hC hf
    have z0 := (HX.out _ (Below.now HB3.out hC)).1
    have z1 := (HX.out _ (Below.now HB3.out hC)).2
    obtain ⟨d31_0, d29_1, -⟩ := hf
    have e31 : u 31 = _ := d31_0 rfl
    clear d31_0
    have e29 : u 29 = _ := d29_1 rfl
    clear d29_1
    refine ⟨wanted_at rfl rfl rfl e29 rfl, ?_⟩
    go_simp
    try rfl
  conv => arg 8; simp only [List.cons_append, List.nil_append]
  apply each_read (fun _ => Below.refl _ _) rfl
  · intro u wv hC hf
    have z0 := (HX.out _ (Below.now HB3.out hC)).1
    have z1 := (HX.out _ (Below.now HB3.out hC)).2
    obtain ⟨d29_0, d32_1, -⟩ := hf
    have e29 : u 29 = _ := d29_0 rfl
    clear d29_0
    have e32 : u 32 = _ := d32_1 rfl
    clear d32_1
    go_simp
    try rfl
  conv => arg 8; simp only [List.cons_append, List.nil_append]
  apply each_read (fun _ => Below.refl _ _) rfl
  · intro u wv hC hf
    have z0 := (HX.out _ (Below.now HB3.out hC)).1
    have z1 := (HX.out _ (Below.now HB3.out hC)).2
    obtain ⟨d33_0, d31_1, -⟩ := hf
    have e33 : u 33 = _ := d33_0 rfl
    clear d33_0
    have e31 : u 31 = _ := d31_1 rfl
    clear d31_1
    go_simp
    try rfl
  conv => arg 8; simp only [List.cons_append, List.nil_append]
  apply each_readG (fun _ => Below.refl _ _)
  · intro u wv hC hf
    have z0 := (HX.out _ (Below.now HB3.out hC)).1
    have z1 := (HX.out _ (Below.now HB3.out hC)).2
    obtain ⟨d34_0, -⟩ := hf
    have e34 : u 34 = _ := d34_0 rfl
    clear d34_0
    refine ⟨wanted_at rfl rfl rfl e34 rfl, ?_⟩
    go_simp
    try rfl
  conv => arg 8; simp only [List.cons_append, List.nil_append]
  refine each_doG (fun v wv => ∃ g, v = .slice (some ⟨g, 0, none⟩) 1 1 ∧ StepsIn wv (some ⟨g, 0, none⟩) [(1, 2)]) (fun v w w2 _ hR ⟨g, h1, h2⟩ => ⟨g, h1, h2.later hR⟩) ?_ ?_
  · intro u wv hC hf
    have z0 := (HX.out _ (Below.now HB3.out hC)).1
    have z1 := (HX.out _ (Below.now HB3.out hC)).2
    obtain ⟨d35_0, d34_1, -⟩ := hf
    have e35 : u 35 = _ := d35_0 rfl
    clear d35_0
    have e34 : u 34 = _ := d34_1 rfl
    clear d34_1
    refine ⟨wanted_at rfl rfl rfl e34 rfl, ?_⟩
    refine ⟨.slice (some ⟨wv.heap.size, 0, none⟩) 1 1, wv.alloc (.cells #[.int .i64 1, .int .i64 2] 30), ?_, Below.alloc hC hC.size _, alloc_belowS _ _, wv.heap.size, rfl, lit_steps wv⟩
    go_simp
    try rfl
  conv => arg 8; simp only [List.cons_append, List.nil_append]
  apply each_callRG
  · intro u wv hC hf
    have z0 := (HX.out _ (Below.now HB3.out hC)).1
    have z1 := (HX.out _ (Below.now HB3.out hC)).2
    obtain ⟨d36_0, d34_1, d34_2, -⟩ := hf
    obtain ⟨g36, e36, x36⟩ := d36_0 rfl
    have e34 : u 34 = _ := d34_1 rfl
    clear d34_1
    clear d34_2
    refine ⟨wanted_at rfl rfl rfl e34 rfl, ?_⟩
    apply Exists.intro; apply Exists.intro; apply And.intro
    · go_simp; exact ⟨rfl, rfl⟩
    · refine (HFS.out _ _ x36 (HTW.out _ (Below.now HB3.out hC))).mono ?_
      rintro e w3 ⟨rfl, hb⟩
      exact ⟨rfl, Below.now hC hb, hb⟩
  conv => arg 8; simp only [List.cons_append, List.nil_append]
  apply each_readG (fun _ => Below.refl _ _)
  · intro u wv hC hf
    have z0 := (HX.out _ (Below.now HB3.out hC)).1
    have z1 := (HX.out _ (Below.now HB3.out hC)).2
    obtain ⟨d37_0, d34_1, -⟩ := hf
    have e37 : u 37 = _ := d37_0 rfl
    clear d37_0
    have e34 : u 34 = _ := d34_1 rfl
    clear d34_1
    refine ⟨wanted_at rfl rfl rfl e34 rfl, ?_⟩
    go_simp
    try rfl
  conv => arg 8; simp only [List.cons_append, List.nil_append]
  apply each_read (fun _ => Below.refl _ _) rfl
  · intro u wv hC hf
    have z0 := (HX.out _ (Below.now HB3.out hC)).1
    have z1 := (HX.out _ (Below.now HB3.out hC)).2
    obtain ⟨d34_0, d38_1, -⟩ := hf
    have e34 : u 34 = _ := d34_0 rfl
    clear d34_0
    have e38 : u 38 = _ := d38_1 rfl
    clear d38_1
    go_simp
    try rfl
  conv => arg 8; simp only [List.cons_append, List.nil_append]
  apply each_read (fun _ => Below.refl _ _) rfl
  · intro u wv hC hf
    have z0 := (HX.out _ (Below.now HB3.out hC)).1
    have z1 := (HX.out _ (Below.now HB3.out hC)).2
    obtain ⟨d39_0, d37_1, -⟩ := hf
    have e39 : u 39 = _ := d39_0 rfl
    clear d39_0
    have e37 : u 37 = _ := d37_1 rfl
    clear d37_1
    go_simp
    try rfl
  conv => arg 8; simp only [List.cons_append, List.nil_append]
  apply each_callRG
  · intro u wv hC hf
    have z0 := (HX.out _ (Below.now HB3.out hC)).1
    have z1 := (HX.out _ (Below.now HB3.out hC)).2
    obtain ⟨d40_0, d40_1, -⟩ := hf
    have e40 : u 40 = _ := d40_0 rfl
    clear d40_0
    clear d40_1
    refine ⟨wanted_at rfl rfl rfl e40 rfl, ?_⟩
    apply Exists.intro; apply Exists.intro; apply And.intro
    · go_simp; exact ⟨rfl, rfl⟩
    · refine (HFK.out _ (HTW.out _ (Below.now HB3.out hC))).mono ?_
      rintro e w3 ⟨rfl, hb⟩
      exact ⟨rfl, Below.now hC hb, hb⟩
  conv => arg 8; simp only [List.cons_append, List.nil_append]
  apply each_readG (fun _ => Below.refl _ _)
  · intro u wv hC hf
    have z0 := (HX.out _ (Below.now HB3.out hC)).1
    have z1 := (HX.out _ (Below.now HB3.out hC)).2
    obtain ⟨d41_0, d40_1, -⟩ := hf
    have e41 : u 41 = _ := d41_0 rfl
    clear d41_0
    have e40 : u 40 = _ := d40_1 rfl
    clear d40_1
    refine ⟨wanted_at rfl rfl rfl e40 rfl, ?_⟩
    go_simp
    try rfl
  conv => arg 8; simp only [List.cons_append, List.nil_append]
  apply each_read (fun _ => Below.refl _ _) rfl
  · intro u wv hC hf
    have z0 := (HX.out _ (Below.now HB3.out hC)).1
    have z1 := (HX.out _ (Below.now HB3.out hC)).2
    obtain ⟨d40_0, d42_1, -⟩ := hf
    have e40 : u 40 = _ := d40_0 rfl
    clear d40_0
    have e42 : u 42 = _ := d42_1 rfl
    clear d42_1
    go_simp
    try rfl
  conv => arg 8; simp only [List.cons_append, List.nil_append]
  apply each_read (fun _ => Below.refl _ _) rfl
  · intro u wv hC hf
    have z0 := (HX.out _ (Below.now HB3.out hC)).1
    have z1 := (HX.out _ (Below.now HB3.out hC)).2
    obtain ⟨d43_0, d41_1, -⟩ := hf
    have e43 : u 43 = _ := d43_0 rfl
    clear d43_0
    have e41 : u 41 = _ := d41_1 rfl
    clear d41_1
    go_simp
    try rfl
  conv => arg 8; simp only [List.cons_append, List.nil_append]
  apply each_readG (fun _ => Below.refl _ _)
  · intro u wv hC hf
    have z0 := (HX.out _ (Below.now HB3.out hC)).1
    have z1 := (HX.out _ (Below.now HB3.out hC)).2
    obtain ⟨d44_0, -⟩ := hf
    have e44 : u 44 = _ := d44_0 rfl
    clear d44_0
    refine ⟨wanted_at rfl rfl rfl e44 rfl, ?_⟩
    go_simp
    try rfl
  conv => arg 8; simp only [List.cons_append, List.nil_append]
  apply each_callRG
  · intro u wv hC hf
    have z0 := (HX.out _ (Below.now HB3.out hC)).1
    have z1 := (HX.out _ (Below.now HB3.out hC)).2
    obtain ⟨d45_0, d44_1, d44_2, -⟩ := hf
    have e45 : u 45 = _ := d45_0 rfl
    clear d45_0
    have e44 : u 44 = _ := d44_1 rfl
    clear d44_1
    clear d44_2
    refine ⟨wanted_at rfl rfl rfl e44 rfl, ?_⟩
    apply Exists.intro; apply Exists.intro; apply And.intro
    · go_simp; exact ⟨rfl, rfl⟩
    · refine (HRT.out _ (HTW.out _ (Below.now HB3.out hC))).mono ?_
      rintro e w3 ⟨rfl, hb⟩
      exact ⟨rfl, Below.now hC hb, hb⟩
  conv => arg 8; simp only [List.cons_append, List.nil_append]
  apply each_readG (fun _ => Below.refl _ _)
  · intro u wv hC hf
    have z0 := (HX.out _ (Below.now HB3.out hC)).1
    have z1 := (HX.out _ (Below.now HB3.out hC)).2
    obtain ⟨d46_0, d44_1, -⟩ := hf
    have e46 : u 46 = _ := d46_0 rfl
    clear d46_0
    have e44 : u 44 = _ := d44_1 rfl
    clear d44_1
    refine ⟨wanted_at rfl rfl rfl e44 rfl, ?_⟩
    go_simp
    try rfl
  conv => arg 8; simp only [List.cons_append, List.nil_append]
  apply each_read (fun _ => Below.refl _ _) rfl
  · intro u wv hC hf
    have z0 := (HX.out _ (Below.now HB3.out hC)).1
    have z1 := (HX.out _ (Below.now HB3.out hC)).2
    obtain ⟨d44_0, d47_1, -⟩ := hf
    have e44 : u 44 = _ := d44_0 rfl
    clear d44_0
    have e47 : u 47 = _ := d47_1 rfl
    clear d47_1
    go_simp
    try rfl
  conv => arg 8; simp only [List.cons_append, List.nil_append]
  apply each_read (fun _ => Below.refl _ _) rfl
  · intro u wv hC hf
    have z0 := (HX.out _ (Below.now HB3.out hC)).1
    have z1 := (HX.out _ (Below.now HB3.out hC)).2
    obtain ⟨d48_0, d46_1, d0_2, d1_3, d2_4, d3_5, d4_6, d5_7, d6_8, d7_9, d8_10, d9_11, d10_12, d11_13, d12_14, d13_15, d14_16, d15_17, d16_18, d17_19, d18_20, d19_21, d20_22, d21_23, d22_24, d23_25, d24_26, d25_27, d26_28, d27_29, d28_30, d29_31, d30_32, d31_33, d32_34, d33_35, d34_36, d35_37, d36_38, d37_39, d38_40, d39_41, d40_42, d41_43, d42_44, d43_45, d44_46, d45_47, d46_48, d47_49, d48_50, -⟩ := hf
    have e48 : u 48 = _ := d48_0 rfl
    clear d48_0
    have e46 : u 46 = _ := d46_1 rfl
    clear d46_1
    have e0 : u 0 = _ := d0_2 rfl
    clear d0_2
    have e1 : u 1 = _ := d1_3 rfl
    clear d1_3
    have e2 : u 2 = _ := d2_4 rfl
    clear d2_4
    have e3 : u 3 = _ := d3_5 rfl
    clear d3_5
    have e4 : u 4 = _ := d4_6 rfl
    clear d4_6
    have e5 : u 5 = _ := d5_7 rfl
    clear d5_7
    have e6 : u 6 = _ := d6_8 rfl
    clear d6_8
    have e7 : u 7 = _ := d7_9 rfl
    clear d7_9
    have e8 : u 8 = _ := d8_10 rfl
    clear d8_10
    have e9 : u 9 = _ := d9_11 rfl
    clear d9_11
    have e10 : u 10 = _ := d10_12 rfl
    clear d10_12
    have e11 : u 11 = _ := d11_13 rfl
    clear d11_13
    have e12 : u 12 = _ := d12_14 rfl
    clear d12_14
    have e13 : u 13 = _ := d13_15 rfl
    clear d13_15
    have e14 : u 14 = _ := d14_16 rfl
    clear d14_16
    have e15 : u 15 = _ := d15_17 rfl
    clear d15_17
    have e16 : u 16 = _ := d16_18 rfl
    clear d16_18
    have e17 : u 17 = _ := d17_19 rfl
    clear d17_19
    have e18 : u 18 = _ := d18_20 rfl
    clear d18_20
    have e19 : u 19 = _ := d19_21 rfl
    clear d19_21
    have e20 : u 20 = _ := d20_22 rfl
    clear d20_22
    have e21 : u 21 = _ := d21_23 rfl
    clear d21_23
    have e22 : u 22 = _ := d22_24 rfl
    clear d22_24
    have e23 : u 23 = _ := d23_25 rfl
    clear d23_25
    have e24 : u 24 = _ := d24_26 rfl
    clear d24_26
    obtain ⟨ag, cg, e25, x25⟩ := d25_27 rfl
    have e26 : u 26 = _ := d26_28 rfl
    clear d26_28
    have e27 : u 27 = _ := d27_29 rfl
    clear d27_29
    have e28 : u 28 = _ := d28_30 rfl
    clear d28_30
    have e29 : u 29 = _ := d29_31 rfl
    clear d29_31
    obtain ⟨g30, e30, x30⟩ := d30_32 rfl
    have e31 : u 31 = _ := d31_33 rfl
    clear d31_33
    have e32 : u 32 = _ := d32_34 rfl
    clear d32_34
    have e33 : u 33 = _ := d33_35 rfl
    clear d33_35
    have e34 : u 34 = _ := d34_36 rfl
    clear d34_36
    have e35 : u 35 = _ := d35_37 rfl
    clear d35_37
    obtain ⟨g36, e36, x36⟩ := d36_38 rfl
    have e37 : u 37 = _ := d37_39 rfl
    clear d37_39
    have e38 : u 38 = _ := d38_40 rfl
    clear d38_40
    have e39 : u 39 = _ := d39_41 rfl
    clear d39_41
    have e40 : u 40 = _ := d40_42 rfl
    clear d40_42
    have e41 : u 41 = _ := d41_43 rfl
    clear d41_43
    have e42 : u 42 = _ := d42_44 rfl
    clear d42_44
    have e43 : u 43 = _ := d43_45 rfl
    clear d43_45
    have e44 : u 44 = _ := d44_46 rfl
    clear d44_46
    have e45 : u 45 = _ := d45_47 rfl
    clear d45_47
    clear d46_48
    have e47 : u 47 = _ := d47_49 rfl
    clear d47_49
    clear d48_50
    go_simp
    try rfl
  intro u w4 hb4 hall
  obtain ⟨a0, a1, a2, a3, a4, a5, a6, a7, a8, a9, a10, a11, a12, a13, a14, a15, a16, a17, a18, a19, a20, a21, a22, a23, a24, a25, a26, a27, a28, a29, a30, a31, a32, a33, a34, a35, a36, a37, a38, a39, a40, a41, a42, a43, a44, a45, a46, a47, a48, a49, -⟩ := hall
  have e0 : u 0 = _ := a0
  clear a0
  have e1 : u 1 = _ := a1
  clear a1
  have e2 : u 2 = _ := a2
  clear a2
  have e3 : u 3 = _ := a3
  clear a3
  have e4 : u 4 = _ := a4
  clear a4
  have e5 : u 5 = _ := a5
  clear a5
  have e6 : u 6 = _ := a6
  clear a6
  have e7 : u 7 = _ := a7
  clear a7
  have e8 : u 8 = _ := a8
  clear a8
  have e9 : u 9 = _ := a9
  clear a9
  have e10 : u 10 = _ := a10
  clear a10
  have e11 : u 11 = _ := a11
  clear a11
  have e12 : u 12 = _ := a12
  clear a12
  have e13 : u 13 = _ := a13
  clear a13
  have e14 : u 14 = _ := a14
  clear a14
  have e15 : u 15 = _ := a15
  clear a15
  have e16 : u 16 = _ := a16
  clear a16
  have e17 : u 17 = _ := a17
  clear a17
  have e18 : u 18 = _ := a18
  clear a18
  have e19 : u 19 = _ := a19
  clear a19
  have e20 : u 20 = _ := a20
  clear a20
  have e21 : u 21 = _ := a21
  clear a21
  have e22 : u 22 = _ := a22
  clear a22
  have e23 : u 23 = _ := a23
  clear a23
  have e24 : u 24 = _ := a24
  clear a24
  obtain ⟨ag, cg, e25, x25⟩ := a25
  replace e25 : u 25 = _ := e25
  have e26 : u 26 = _ := a26
  clear a26
  have e27 : u 27 = _ := a27
  clear a27
  have e28 : u 28 = _ := a28
  clear a28
  have e29 : u 29 = _ := a29
  clear a29
  obtain ⟨g30, e30, x30⟩ := a30
  replace e30 : u 30 = _ := e30
  have e31 : u 31 = _ := a31
  clear a31
  have e32 : u 32 = _ := a32
  clear a32
  have e33 : u 33 = _ := a33
  clear a33
  have e34 : u 34 = _ := a34
  clear a34
  have e35 : u 35 = _ := a35
  clear a35
  obtain ⟨g36, e36, x36⟩ := a36
  replace e36 : u 36 = _ := e36
  have e37 : u 37 = _ := a37
  clear a37
  have e38 : u 38 = _ := a38
  clear a38
  have e39 : u 39 = _ := a39
  clear a39
  have e40 : u 40 = _ := a40
  clear a40
  have e41 : u 41 = _ := a41
  clear a41
  have e42 : u 42 = _ := a42
  clear a42
  have e43 : u 43 = _ := a43
  clear a43
  have e44 : u 44 = _ := a44
  clear a44
  have e45 : u 45 = _ := a45
  clear a45
  have e46 : u 46 = _ := a46
  clear a46
  have e47 : u 47 = _ := a47
  clear a47
  have e48 : u 48 = _ := a48
  clear a48
  have e49 : u 49 = _ := a49
  clear a49
  simp only [e0, e1, e2, e3, e4, e5, e6, e7, e8, e9, e10, e11, e12, e13, e14, e15, e16, e17, e18, e19, e20, e21, e22, e23, e24, e25, e26, e27, e28, e29, e30, e31, e32, e33, e34, e35, e36, e37, e38, e39, e40, e41, e42, e43, e44, e45, e46, e47, e48, e49]
  clear e0 e1 e2 e3 e4 e5 e6 e7 e8 e9 e10 e11 e12 e13 e14 e15 e16 e17 e18 e19 e20 e21 e22 e23 e24 e25 e26 e27 e28 e29 e30 e31 e32 e33 e34 e35 e36 e37 e38 e39 e40 e41 e42 e43 e44 e45 e46 e47 e48 e49
  have HB4 := Lib.hid (Below.now HB1.out (Below.now HW2.out (Below.now HB3.out hb4)))
  go_wp2_with fail
  go_ret
  exact ⟨rfl, HB4.out⟩
theorem walkBig (a : Option Addr) (n cap : Nat) (w : World) (hn : n ≤ 9223372036854775807) (hlen : 1048576 < n) :
    Calls Tryz.prog 4 #[.slice a n cap] w fun e w' => e = .returned (.bool true) ∧ Below w.heap.size w w' := by
  have hq0 : (1048576 : Int) < (n : Int) := by omega
  go_enter Tryz.func4, Tryz.ntmps4
  go_wp2_with fail
  go_ret
  exact ⟨rfl, Below.refl _ _⟩
end Go.Proofs.YtdhaebbfiaddnaaGreatDoor.fnReports
