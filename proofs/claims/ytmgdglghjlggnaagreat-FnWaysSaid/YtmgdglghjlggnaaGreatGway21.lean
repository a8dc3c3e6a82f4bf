/-
  What MonoidOf is: the words of a complete system and their table.
-/
import Derived.Test.YtmgdglghjlggnaaGreatGway20
import Derived.Test.YtmgdglghjlggnaaGreatGway14
import Derived.Test.YtmgdglghjlggnaaGreatGway18
import Derived.DeepKeys4
import Derived.Maps.OwnSet
import Derived.Deep.RegionHeld3
import Derived.Maps.OwnOps
import Derived.Deep.DeepCutAuto
import Derived.Test.YtmgdglghjlggnaaGreatGway13
import Derived.Test.YtmgdglghjlggnaaGreatGway15
import Derived.Test.YtmgdglghjlggnaaGreatGway04
namespace Go.Proofs.YtmgdglghjlggnaaGreat
open Go.RowKit
set_option linter.unusedVariables false
/-- the words of less than i letters -/
def outTo (R : List RulD) (k i : Nat) : List ByteArray := (List.range i).flatMap fun m => wordsF R k m ⟨#[]⟩
theorem outTo_succ (R : List RulD) (k i : Nat) : outTo R k (i + 1) = outTo R k i ++ wordsF R k i ⟨#[]⟩ := by
  unfold outTo; rw [List.range_succ, List.flatMap_append]; simp
theorem outTo_len {R : List RulD} (hne : LeftsP R) (k i : Nat) : (outTo R k i).length = pSum R k i := by
  unfold outTo pSum
  rw [List.length_flatMap]
  congr 1
  apply List.map_congr_left
  intro m _
  exact wordsF_len hne k m _
/-- the first j words with a letter more -/
def nxW (R : List RulD) (k : Nat) (l : List ByteArray) (j : Nat) : List ByteArray := (l.take j).flatMap (stepW R k)
/-- .. with one of the first x letters -/
def stepTo (R : List RulD) (w : ByteArray) (x : Nat) : List ByteArray := (List.range x).flatMap fun y => if okX R w y = true then [w ++ letterN y] else []
theorem stepTo_yes {R : List RulD} {w : ByteArray} {x : Nat} (h : okX R w x = true) : stepTo R w (x + 1) = stepTo R w x ++ [w ++ letterN x] := by
  unfold stepTo; rw [List.range_succ, List.flatMap_append]; simp [h]
theorem stepTo_no {R : List RulD} {w : ByteArray} {x : Nat} (h : okX R w x = false) : stepTo R w (x + 1) = stepTo R w x := by
  unfold stepTo; rw [List.range_succ, List.flatMap_append]; simp [h]
theorem stepTo_len (R : List RulD) (w : ByteArray) : ∀ x, (stepTo R w x).length ≤ x
  | 0 => Nat.le_refl _
  | x + 1 => by
    have ih := stepTo_len R w x
    cases h : okX R w x
    · rw [stepTo_no h]; omega
    · rw [stepTo_yes h, List.length_append]; simp; omega
theorem nxW_succ {R : List RulD} {k : Nat} {l : List ByteArray} {j : Nat} (h : j < l.length) : nxW R k l (j + 1) = nxW R k l j ++ stepTo R (nthS l j) k := by
  unfold nxW
  rw [List.take_succ_eq_append_getElem h, List.flatMap_append]
  have e : nthS l j = l[j] := by unfold nthS; rw [List.getD_eq_getElem?_getD, List.getElem?_eq_getElem h]; rfl
  rw [e]
  simp [stepW, stepTo]
theorem nxW_len {R : List RulD} {k : Nat} {l : List ByteArray} : ∀ j, j ≤ l.length → (nxW R k l j).length ≤ k * j
  | 0, _ => by simp [nxW]
  | j + 1, h => by
    have ih := nxW_len (R := R) (k := k) (l := l) j (by omega)
    have h1 := stepTo_len R (nthS l j) k
    rw [nxW_succ (by omega), List.length_append, Nat.mul_succ]
    omega
theorem nxW_all (R : List RulD) (k i : Nat) : nxW R k (wordsF R k i ⟨#[]⟩) (wordsF R k i ⟨#[]⟩).length = wordsF R k (i + 1) ⟨#[]⟩ := by
  unfold nxW; rw [List.take_length, wordsF_step]
/-- what AllReduced hands back -/
def RetAll (k : Int) (R : List RulD) (w : World) (e : Ending) (w' : World) : Prop :=
  (¬ (∃ c, CntIs k R c ∧ 0 ≤ c ∧ c ≤ 256) ∧ e = .returned (.tuple #[.slice none 0 0, .bool false]) ∧ Below w.heap.size w w') ∨
  ∃ (kn h : Nat), k = (kn : Int) ∧ SysG R kn ∧ HtIs R kn ⟨#[]⟩ (h : Int) ∧ pSum R kn (h + 1) ≤ 256 ∧ (∃ c, CntIs k R c ∧ 0 ≤ c ∧ c ≤ 256) ∧ ∃ a cap, e = .returned (.tuple #[.slice a (outTo R kn (h + 1)).length cap, .bool true]) ∧
    w'.ownsRow w.heap.size 9 1 (.slice a (outTo R kn (h + 1)).length cap) (outTo R kn (h + 1)).length (strVals (outTo R kn (h + 1))) ∧ Below w.heap.size w w'
def lenV : Value → Nat
  | .slice _ n _ => n
  | _ => 0
theorem strVals_app (l m : List ByteArray) : strVals (l ++ m) = strVals l ++ strVals m := by simp [strVals]
theorem strVals_length (l : List ByteArray) : (strVals l).length = l.length := by simp [strVals]
theorem pSum_ge {R : List RulD} {k h : Nat} (hh : HtIs R k ⟨#[]⟩ (h : Int)) : ∀ j, j ≤ h + 1 → j ≤ pSum R k j
  | 0, _ => Nat.zero_le _
  | j + 1, hj => by
    have ih := pSum_ge hh j (by omega)
    have h1 : paths R k j ⟨#[]⟩ ≠ 0 := by
      rcases hh with ⟨h1, _⟩ | ⟨m, h1, h2, _⟩
      · omega
      · exact fun h0 => h2 (paths_zero_le h0 (by omega))
    rw [pSum_succ]; omega
set_option maxRecDepth 100000 in
set_option maxHeartbeats 4000000 in
theorem specAllReduced_any (k : Int) (R : List RulD) (a : Option Addr) (cap : Nat) (w : World) (hl : RulesIn w a R) (hlen : R.length ≤ 2 ^ 40) (hz : SzR R) :
    Calls Tryz.prog 74 #[.agg #[.int .i64 k, .slice a R.length cap]] w (RetAll k R w) := by
  have HL := Lib.hid hl
  have HS := Lib.hid (fun W h => specCountAll_any k R a cap W h hlen hz)
  have HA := Lib.hid (fun o => alloc_belowS w o)
  have hbx := alloc_at w (.cells #[.int .i64 k, .slice a R.length cap] 67)
  have HBX : Hid (∀ W2, Below (w.alloc (.cells #[.int .i64 k, .slice a R.length cap] 67)).heap.size (w.alloc (.cells #[.int .i64 k, .slice a R.length cap] 67)) W2 → W2.cell? ⟨w.heap.size, 0, none⟩ = some (.int .i64 k) ∧ W2.cell? ⟨w.heap.size, 1, none⟩ = some (.slice a R.length cap)) := Lib.hid (fun W2 hW2 => sys_cells ((hW2.block w.heap.size (by simp)).trans hbx))
  have kc := convC
  clear hl hz hbx
  go_enter Tryz.func74, Tryz.ntmps74
  go_wp2_with fail
  refine (HS.out _ (HL.out.later (HA.out _))).mono ?_
  rintro e w1 ⟨c, hcn, rfl, hb1⟩
  have HCN := Lib.hid hcn
  have HW1 := Lib.hid (Below.now (HA.out _) hb1)
  have HBX1 : Hid (∀ W2, Below w1.heap.size w1 W2 → W2.cell? ⟨w.heap.size, 0, none⟩ = some (.int .i64 k) ∧ W2.cell? ⟨w.heap.size, 1, none⟩ = some (.slice a R.length cap)) := Lib.hid (fun W2 hW2 => HBX.out W2 (Below.now hb1 hW2))
  have HR0 := Lib.hid (fun W => l01In_any c 0 256 W)
  clear hb1 HS HBX
  cases hb : inB c 0 256
  · have F : Hid (RetAll k R w (.returned (.tuple #[.slice none 0 0, .bool false])) w1) := Lib.hid (.inl ⟨fun ⟨c', h1, h2, h3⟩ => (by have := h1.uniq HCN.out; subst this; simp [inB] at hb; omega), rfl, HW1.out⟩)
    rw [hb] at HR0
    clear hb hcn
    go_wp2_with (go_at_call 71; refine (HR0.out _).mono ?_; rintro e w' ⟨rfl, rfl⟩)
    go_ret2
    exact F.out
  · have hb2 := inB_bounds hb
    rw [hb] at HR0
    clear hb
    obtain ⟨h, hlg, hcase⟩ := hcn
    rcases hcase with ⟨_, h1⟩ | ⟨h0, hc⟩
    · omega
    rcases hlg with ⟨_, h1⟩ | ⟨hsp, hh⟩
    · omega
    obtain ⟨_, h8, hk1, hk4⟩ := sys_sizes hsp
    obtain ⟨kn, rfl⟩ := Int.eq_ofNat_of_zero_le (show 0 ≤ k by omega)
    obtain ⟨hn, rfl⟩ := Int.eq_ofNat_of_zero_le h0
    have hG := sysG_of hsp
    have hh' : HtIs R kn ⟨#[]⟩ (hn : Int) := by simpa using hh
    have hps : pSum R kn (hn + 1) ≤ 256 := by simp at hc; omega
    have hge := pSum_ge hh' (hn + 1) (Nat.le_refl _)
    have hkn : kn ≤ 4 := by omega
    have hhn : hn ≤ 256 := by omega
    have HG := Lib.hid hG
    have HH := Lib.hid hh'
    have HPS := Lib.hid hps
    have HEX : Hid (∃ c, CntIs (kn : Int) R c ∧ 0 ≤ c ∧ c ≤ 256) := Lib.hid ⟨c, HCN.out, hb2.1, hb2.2⟩
    have HPA : Hid (∀ i, i ≤ hn + 1 → pSum R kn i ≤ 256) := Lib.hid (fun i hi => Nat.le_trans (pSum_mono R kn hi) hps)
    have HPL : Hid (∀ i, i ≤ hn + 1 → (wordsF R kn i ⟨#[]⟩).length ≤ 256 ∧ ((wordsF R kn i ⟨#[]⟩).length = 0 ↔ i = hn + 1)) := Lib.hid (fun i hi => by
      rw [wordsF_len hG.ne]
      rcases hh' with ⟨h1, _⟩ | ⟨m, h1, h2, h3⟩
      · omega
      · have : m = hn := by omega
        subst this
        by_cases e : i = m + 1
        · subst e; rw [h3]; exact ⟨by omega, by simp⟩
        · exact ⟨Nat.le_trans (pSum_at R kn (show i < m + 1 by omega)) hps, ⟨fun h0 => absurd (paths_zero_le h0 (by omega)) h2, fun h => absurd h e⟩⟩)
    have HEN := Lib.hid (fun v W2 h hv => l07Ends_any (kn : Nat) R v a cap W2 h hlen (fun j hj => by have := (h8 j hj).1; omega) hv)
    clear hsp hh hh' hps hG h8 hc hb2 hge hk1 hk4
    go_wp2_with (go_at_call 71; refine (HR0.out _).mono ?_; rintro e w' ⟨rfl, rfl⟩)
    clear HR0
    have HO0 : Hid (Bld 9 1 w1 ((w1.alloc (.cells #[] 9)).alloc (.cells #[.string ⟨#[]⟩] 9)) (.slice (some ⟨w1.heap.size, 0, none⟩) 0 0) (outTo R kn 0).length (strVals (outTo R kn 0))) := Lib.hid ((Bld.empty 9 1 w1).later (alloc_belowS _ _))
    have HI0 : Hid (StrsIn ((w1.alloc (.cells #[] 9)).alloc (.cells #[.string ⟨#[]⟩] 9)) (some ⟨w1.heap.size + 1, 0, none⟩) (wordsF R kn 0 ⟨#[]⟩)) := Lib.hid (.inr ⟨_, _, rfl, fun i hi => by
      have : i = 0 := by simp [wordsF] at hi; omega
      subst this
      have e1 : (w1.alloc (.cells #[] 9)).heap.size = w1.heap.size + 1 := by simp
      rw [← e1]
      simp [wordsF]⟩)
    go_loopw [4, 5] (fun vo vw wr => ∃ (i : Nat) (aw : Option Addr) (cw : Nat) (L : List ByteArray), i ≤ hn + 1 ∧ L = wordsF R kn i ⟨#[]⟩ ∧ vw = .slice aw L.length cw ∧ Bld 9 1 w1 wr vo (outTo R kn i).length (strVals (outTo R kn i)) ∧ StrsIn wr aw L ∧ Away wr aw vo) (fun vo _ _ => 257 - lenV vo)
    case atStart => exact ⟨0, _, 1, _, Nat.zero_le _, rfl, rfl, HO0.out, HI0.out, fun x hx => (by cases hx; refine ⟨by simp; try omega, by simp [Value.ownBlock]; try omega⟩)⟩
    case round =>
      clear HO0 HI0
      obtain ⟨i, aw, cw, L, hi, hL, rfl, hbd, hst, haw⟩ := hrel
      have hLl := HPL.out i hi
      have hol := outTo_len HG.out.ne kn i
      have hop := HPA.out i hi
      rw [← hL] at hLl
      obtain ⟨ao, co, rfl⟩ := owns_form hbd.1
      have HLE := Lib.hid hL
      have HB := Lib.hid hbd
      have HST := Lib.hid hst
      have HAW := Lib.hid haw
      clear hbd hst haw hL
      by_cases hlt : i = hn + 1
      · have hL0 : L.length = 0 := hLl.2.2 hlt
        subst hlt
        have F : Hid (RetAll (kn : Int) R w (.returned (.tuple #[.slice ao (outTo R kn (hn + 1)).length co, .bool true])) wr) := Lib.hid (.inr ⟨kn, hn, rfl, HG.out, HH.out, HPS.out, HEX.out, ao, co, rfl, owns_mono HB.out.1 HW1.out.size, Below.now HW1.out HB.out.2⟩)
        have hL0' : ¬ 0 < L.length := by omega
        clear hol hLl hL0
        go_wp2_with fail
        go_ret2
        exact F.out
      · have hLp : 0 < L.length := by
          by_cases h0 : L.length = 0
          · exact absurd (hLl.2.1 h0) hlt
          · omega
        have hpn := HPA.out (i + 1) (by omega)
        have hos := outTo_succ R kn i
        rw [← HLE.out] at hos
        have HOS := Lib.hid hos
        have hon : (outTo R kn i).length + L.length ≤ 256 := by
          have h1 := outTo_len HG.out.ne kn (i + 1)
          rw [hos, List.length_append] at h1
          omega
        have HSR : Hid (Src wr (.slice aw L.length cw) L.length (strVals L)) := Lib.hid (by
          cases aw with
          | none =>
            obtain ⟨_, _, hb, _⟩ := HST.out.cell hLp
            cases hb
          | some x => exact Src.of_cells HST.out)
        have HN1 : Hid ((strVals L).length = L.length * 1) := Lib.hid (by rw [strVals_length]; omega)
        have HN2 : Hid (∀ u ∈ strVals L, u.oneCell' = true) := Lib.hid (fun u hu => by
          obtain ⟨_, _, rfl⟩ := List.mem_map.1 hu; rfl)
        clear hos hLl hol
        go_wp2_with (at_builtin; refine wpList_appM rfl (.tmp 20) (.tmp 21) rfl Tryz.underlying52 Tryz.infoStr rfl (by decide) rfl HB.out rfl HSR.out HN1.out HN2.out ?a1 ?a2 ?a3)
        case a1 => unfold maxLen; omega
        case a2 => omega
        intro v4 w4 hb4 hg4 ho4
        have hb4' : Bld 9 1 w1 w4 v4 (outTo R kn (i + 1)).length (strVals (outTo R kn (i + 1))) := by
          rw [HOS.out, List.length_append, strVals_app]; exact hb4
        have hno : (outTo R kn (i + 1)).length ≤ 256 := by rw [HOS.out, List.length_append]; exact hon
        have hlt4 : (outTo R kn i).length < (outTo R kn (i + 1)).length := by rw [HOS.out, List.length_append]; omega
        obtain ⟨a4, c4, hv4⟩ := owns_form hb4'.1
        subst hv4
        have HB4 := Lib.hid hb4'
        have HST4 : Hid (StrsIn w4 aw L) := Lib.hid (CellsIn.grownC HST.out hg4 (fun x hx => (HAW.out x hx).2))
        have HN0 : Hid (Bld 9 1 w4 (w4.alloc (.cells #[] 9)) (.slice (some ⟨w4.heap.size, 0, none⟩) 0 0) (nxW R kn L 0).length (strVals (nxW R kn L 0))) := Lib.hid (Bld.empty 9 1 w4)
        have HNA : Hid (nxW R kn L L.length = wordsF R kn (i + 1) ⟨#[]⟩) := Lib.hid (by rw [HLE.out]; exact nxW_all R kn i)
        have HSZ : Hid (∀ j, j < L.length → (nthS L j).size = i) := Lib.hid (fun j hj => by
          have h1 : nthS L j ∈ L := by unfold nthS; rw [List.getD_eq_getElem?_getD, List.getElem?_eq_getElem hj]; exact List.getElem_mem hj
          have h2 := wordsF_size R kn i ⟨#[]⟩ (nthS L j) (by rw [← HLE.out]; exact h1)
          have h3 : (⟨#[]⟩ : ByteArray).size = 0 := rfl
          omega)
        have hLm : L.length ≤ 256 := by omega
        have HLT := Lib.hid hlt4
        have HNO := Lib.hid hno
        clear hb4 hb4' hg4 ho4 HB HST HAW HOS HSR HN1 HN2 hon hpn hop hlt4 hno
        generalize hO : (outTo R kn (i + 1)) = O at *
        have HOE := Lib.hid hO
        clear hO
        generalize hn0 : (outTo R kn i).length = n0 at *
        have HN0E := Lib.hid hn0
        clear hn0
        go_wp2_with fail
        go_loopw [6, 26] (fun vn vj wr => ∃ j : Nat, j ≤ L.length ∧ vj = .int .i64 (j : Nat) ∧ Bld 9 1 w4 wr vn (nxW R kn L j).length (strVals (nxW R kn L j))) (fun _ vj _ => L.length - (intOf vj).toNat)
        case atStart => exact ⟨0, Nat.zero_le _, rfl, HN0.out⟩
        case round =>
          clear HN0
          obtain ⟨j, hj, rfl, hbn⟩ := hrel
          obtain ⟨an, cn, rfl⟩ := owns_form hbn.1
          have HBN := Lib.hid hbn
          clear hbn
          by_cases hlj : j < L.length
          · obtain ⟨b, off, rfl, hb, hc⟩ := (HST4.out.later HBN.out.2).cell hlj
            have c1 := hc j hlj
            have HXS := Lib.hid (nxW_succ (R := R) (k := kn) hlj)
            have hes := HSZ.out j hlj
            have hnl := nxW_len (R := R) (k := kn) j hj
            have hnl2 : (nxW R kn L j).length ≤ 1024 := by
              have h1 : kn * j ≤ 4 * 256 := Nat.mul_le_mul hkn (by omega)
              omega
            have hN0 : Hid (nxW R kn L j = nxW R kn L j ++ stepTo R (nthS L j) 0) := Lib.hid (by simp [stepTo])
            clear hc hnl
            generalize nthS L j = e at *
            generalize nxW R kn L j = X at *
            go_wp2_with fail
            generalize hW : wr = wr1 at *
            clear hW c1
            go_loopw [6, 9] (fun vn vx wr => ∃ (x : Nat) (Y : List ByteArray), x ≤ kn ∧ vx = .int .i64 (x : Nat) ∧ Bld 9 1 w4 wr vn Y.length (strVals Y) ∧ Hid (Y = X ++ stepTo R e x)) (fun _ vx _ => kn - (intOf vx).toNat)
            case atStart => exact ⟨0, X, Nat.zero_le _, rfl, HBN.out, hN0⟩
            case round =>
              clear hN0 HBN
              obtain ⟨x, Y, hx, rfl, hbn, HY⟩ := hrel
              obtain ⟨an, cn, rfl⟩ := owns_form hbn.1
              have hB1 := Below.now HB4.out.2 hbn.2
              obtain ⟨s0, s1⟩ := HBX1.out wr hB1
              have HBN := Lib.hid hbn
              have HB1 := Lib.hid hB1
              have hsl := stepTo_len R e x
              have hXl : Y.length ≤ 1028 := by rw [HY.out, List.length_append]; omega
              clear hbn hB1 hsl
              by_cases hlx : x < kn
              · have s0a : ∀ o, (wr.alloc o).cell? ⟨w.heap.size, 0, none⟩ = some (.int .i64 (kn : Nat)) := fun o => by rw [(alloc_belowS wr o).cell (World.block_lt_of_cell? wr _ s0)]; exact s0
                have s1a : ∀ o, (wr.alloc o).cell? ⟨w.heap.size, 1, none⟩ = some (.slice a R.length cap) := fun o => by rw [(alloc_belowS wr o).cell (World.block_lt_of_cell? wr _ s1)]; exact s1
                have hu : IntKind.u8.wrap (97 + (x : Int)) = 97 + (x : Int) := by simp [IntKind.wrap, IntKind.signed, IntKind.bits]; omega
                have hvs : (e ++ oneC (97 + (x : Int))).size ≤ 1000 := by
                  rw [ByteArray.size_append]
                  have : (oneC (97 + (x : Int))).size = 1 := rfl
                  omega
                have HEV := Lib.hid (fun W2 h => HEN.out (e ++ oneC (97 + (x : Int))) W2 h hvs)
                have HOK : Hid (okX R e x = !endsR R (e ++ oneC (97 + (x : Int)))) := Lib.hid rfl
                have HLN : Hid (e ++ letterN x = e ++ oneC (97 + (x : Int))) := Lib.hid rfl
                have hos : ∀ z, (oneC z).size = 1 := fun z => rfl
                have hesz1 : ¬ (9223372036854775807 : Int) < (e.size : Int) + 1 := by omega
                have hesz2 : ¬ 9223372036854775807 < e.size + 1 := by omega
                go_wp2_with fail
                clear hu hos hesz1 hesz2 hvs
                generalize e ++ oneC (97 + (x : Int)) = v at *
                refine (HEV.out _ (HL.out.later (Below.now HW1.out (Below.now HB1.out (alloc_belowS wr _))))).mono ?_
                rintro e2 w2 ⟨rfl, hb2⟩
                have HBN2 := Lib.hid (HBN.out.later (Below.now (alloc_belowS wr _) hb2))
                clear hb2 HEV s0 s1 s0a s1a HBN
                cases hend : endsR R v
                · have hok : okX R e x = true := by rw [HOK.out, hend]; rfl
                  have hst := stepTo_yes (R := R) (w := e) hok
                  rw [HLN.out] at hst
                  have HSTP := Lib.hid hst
                  clear hok hend HOK hst HLN
                  have HA3 := Lib.hid (HBN2.out.later (alloc_belowS w2 (.cells #[.string v] 9)))
                  have HN1 : Hid ([Value.string v].length = 1 * 1) := Lib.hid rfl
                  have HN2 : Hid (∀ u ∈ [Value.string v], u.oneCell' = true) := Lib.hid (fun u hu => by rw [List.mem_singleton.1 hu]; rfl)
                  go_wp2_with (at_builtin; refine wpList_appM rfl (.tmp 47) (.tmp 49) rfl Tryz.underlying52 Tryz.infoStr rfl (by decide) rfl HA3.out rfl (Src.lit _) HN1.out HN2.out ?b1 ?b2 ?b3)
                  case b1 => unfold maxLen; omega
                  case b2 => omega
                  intro v7 w7 hb7 hg7 ho7
                  have HB7 : Hid (Bld 9 1 w4 w7 v7 (Y ++ [v]).length (strVals (Y ++ [v]))) := Lib.hid (by
                    rw [List.length_append, strVals_app]; exact hb7)
                  have HY7 : Hid (Y ++ [v] = X ++ stepTo R e (x + 1)) := Lib.hid (by rw [HSTP.out, ← List.append_assoc, HY.out])
                  clear hb7 hg7 ho7
                  go_wp2_with fail
                  go_roundw
                  case rel => exact ⟨x + 1, _, by omega, by go_num, HB7.out, HY7⟩
                  case measure => simp [intOf]; omega
                · have hok : okX R e x = false := by rw [HOK.out, hend]; rfl
                  have HY7 : Hid (Y = X ++ stepTo R e (x + 1)) := Lib.hid (by rw [stepTo_no hok]; exact HY.out)
                  clear hok hend HOK HLN
                  go_wp2_with fail
                  go_roundw
                  case rel => exact ⟨x + 1, Y, by omega, by go_num, HBN2.out, HY7⟩
                  case measure => simp [intOf]; omega
              · obtain rfl : x = kn := by omega
                have HB7 : Hid (Bld 9 1 w4 wr (.slice an Y.length cn) (nxW R x L (j + 1)).length (strVals (nxW R x L (j + 1)))) := Lib.hid (by rw [HXS.out, ← HY.out]; exact HBN.out)
                go_wp2_with fail
                go_roundw
                case rel => exact ⟨j + 1, by omega, by go_num, HB7.out⟩
                case measure => simp [intOf]; omega
          · obtain rfl : j = L.length := by omega
            have HB9 := Lib.hid (HB4.out.later HBN.out.2)
            have HI9 : Hid (StrsIn wr an (nxW R kn L L.length)) := Lib.hid (owns_strsIn2 HBN.out.1)
            have HA9 : Hid (Away wr an (.slice a4 O.length c4)) := Lib.hid (fun x hx => by
              have h1 := HBN.out.1.lt x.block (by rw [hx]; rfl)
              refine ⟨h1.2, fun e => ?_⟩
              have h2 := (HB4.out.1.lt x.block e.symm).2
              omega)
            generalize nxW R kn L L.length = L2 at *
            go_wp2_with fail
            go_roundw
            case rel => exact ⟨i + 1, an, cn, L2, by omega, HNA.out, rfl, by rw [HOE.out]; exact HB9.out, HI9.out, HA9.out⟩
            case measure => have h1 := HLT.out; have h2 := HNO.out; have h3 := HN0E.out; simp only [lenV]; omega
end Go.Proofs.YtmgdglghjlggnaaGreat
namespace Go.Proofs.YtmgdglghjlggnaaGreat
open Go.RowKit
set_option linter.unusedVariables false
/-- the first reduced word from w by m letters that is above the bound -/
def firstF (R : List RulD) (k : Nat) (bound : ByteArray) (m : Nat) (w : ByteArray) : Option ByteArray := (wordsF R k m w).find? fun u => ltB bound u
/-- none begins with w and one of the first x letters -/
def NoneTo (R : List RulD) (k : Nat) (bound : ByteArray) (m : Nat) (w : ByteArray) (x : Nat) : Prop := ∀ y, y < x → okX R w y = true → firstF R k bound m (w ++ letterN y) = none
theorem NoneTo.start (R : List RulD) (k : Nat) (bound : ByteArray) (m : Nat) (w : ByteArray) : NoneTo R k bound m w 0 := fun y hy => by omega
theorem NoneTo.no {R : List RulD} {k : Nat} {bound : ByteArray} {m : Nat} {w : ByteArray} {x : Nat} (h : NoneTo R k bound m w x) (hx : okX R w x = false) : NoneTo R k bound m w (x + 1) := fun y hy ho => by
  by_cases e : y = x
  · subst e; rw [hx] at ho; cases ho
  · exact h y (by omega) ho
theorem NoneTo.skip {R : List RulD} {k : Nat} {bound : ByteArray} {m : Nat} {w : ByteArray} {x : Nat} (h : NoneTo R k bound m w x) (hx : firstF R k bound m (w ++ letterN x) = none) : NoneTo R k bound m w (x + 1) := fun y hy ho => by
  by_cases e : y = x
  · subst e; exact hx
  · exact h y (by omega) ho
theorem find_flat {α β : Type} (p : β → Bool) (g : α → List β) : ∀ l : List α, (∀ a ∈ l, (g a).find? p = none) → (l.flatMap g).find? p = none := fun l h => by
  rw [List.find?_eq_none]
  intro b hb
  obtain ⟨a, ha, hb⟩ := List.mem_flatMap.1 hb
  exact List.find?_eq_none.1 (h a ha) b hb
theorem NoneTo.done {R : List RulD} {k : Nat} {bound : ByteArray} {m : Nat} {w : ByteArray} (h : NoneTo R k bound m w k) : firstF R k bound (m + 1) w = none := by
  unfold firstF
  refine find_flat _ _ _ fun x hx => ?_
  split
  · rename_i ho
    exact h x (List.mem_range.1 hx) ho
  · rfl
end Go.Proofs.YtmgdglghjlggnaaGreat
namespace Go.Proofs.YtmgdglghjlggnaaGreat
open Go.RowKit
set_option linter.unusedVariables false
end Go.Proofs.YtmgdglghjlggnaaGreat
namespace Go.Proofs.YtmgdglghjlggnaaGreat
open Go.RowKit Go.Maps
set_option linter.unusedVariables false
/-- the key of two strings -/
def kl2 (a b : ByteArray) : Lit := .string (keyBytes [.string a.data.toList, .string b.data.toList])
end Go.Proofs.YtmgdglghjlggnaaGreat
namespace Go.Proofs.YtmgdglghjlggnaaGreat
open Go.RowKit Go.Maps
set_option linter.unusedVariables false
end Go.Proofs.YtmgdglghjlggnaaGreat
namespace Go.Proofs.YtmgdglghjlggnaaGreat
open Go.RowKit Go.Maps Go.WideShapes
set_option linter.unusedVariables false
/-- no reduced word goes on from there -/
def DEnt (R : List RulD) (k : Nat) (p : Lit × DataW Unit) : Prop := ∃ (e : ByteArray) (m : Nat), EndP k e ∧ m ≤ 300 ∧ p = (kl2 e (numB (m : Int)), .lit (.bool true)) ∧ paths R k m e = 0
def DMap (R : List RulD) (k : Nat) (D : DataW Unit) : Prop := ∃ es, D = .map es ∧ es.Pairwise (fun p q => p.1 ≠ q.1) ∧ ∀ p ∈ es, DEnt R k p
theorem DMap.start (R : List RulD) (k : Nat) : DMap R k (.map []) := ⟨[], rfl, List.Pairwise.nil, fun p hp => by cases hp⟩
theorem DMap.put {R : List RulD} {k : Nat} {D : DataW Unit} (h : DMap R k D) {e : ByteArray} {m : Nat} (he : EndP k e) (hm : m ≤ 300) (hp : paths R k m e = 0) : DMap R k (D.put (kl2 e (numB (m : Int))) (.lit (.bool true))) := by
  obtain ⟨es, rfl, h0, h1⟩ := h
  refine ⟨_, rfl, ?_, fun p hpm => ?_⟩
  · refine (insert_perm _ _).symm.pairwise ?_ (fun hab e => hab e.symm)
    rw [List.pairwise_cons]
    refine ⟨fun q hq e1 => ?_, h0.filter _⟩
    have h2 := (List.mem_filter.1 hq).2
    have h3 : q.1 = kl2 e (numB (m : Int)) := e1.symm
    rw [h3] at h2
    have h4 : (kl2 e (numB (m : Int))).sameKey (kl2 e (numB (m : Int))) = true := by unfold kl2 Lit.sameKey; simp
    rw [h4] at h2
    cases h2
  · rcases List.mem_cons.1 ((insert_perm _ _).mem_iff.1 hpm) with rfl | h2
    · exact ⟨e, m, he, hm, rfl, hp⟩
    · exact h1 p (List.mem_filter.1 h2).1
theorem sum_constW (l : List Wd) (c : Nat) : (l.map fun _ => c).sum = l.length * c := by
  induction l with
  | nil => simp
  | cons a l ih => simp only [List.map_cons, List.sum_cons, ih, List.length_cons, Nat.add_mul]; omega
open Classical in
theorem DMap.few {R : List RulD} {k : Nat} (hk : k ≤ 4) {D : DataW Unit} (h : DMap R k D) : Maps.size D ≤ 6575345 := by
  obtain ⟨es, rfl, h0, h1⟩ := h
  let T := (allUp k 7).flatMap fun v => (List.range 301).map fun m => (v, m)
  have hT : T.length = (allUp k 7).length * 301 := by
    show ((allUp k 7).flatMap _).length = _
    rw [List.length_flatMap]
    simp only [List.length_map, List.length_range]
    exact sum_constW _ _
  let g : Lit × DataW Unit → Wd × Nat := fun p => if h : DEnt R k p then ((Classical.choose h).data.toList, Classical.choose (Classical.choose_spec h)) else ([], 0)
  have hg : ∀ p ∈ es, ∃ (e : ByteArray) (m : Nat), EndP k e ∧ m ≤ 300 ∧ p.1 = kl2 e (numB (m : Int)) ∧ g p = (e.data.toList, m) := fun p hp => by
    have h2 := h1 p hp
    obtain ⟨h3, h4, h5, _⟩ := Classical.choose_spec (Classical.choose_spec h2)
    exact ⟨Classical.choose h2, Classical.choose (Classical.choose_spec h2), h3, h4, congrArg Prod.fst h5, by simp only [g, dif_pos h2]⟩
  have h2 := nodup_len (l := es.map g) (m := T) (by
    unfold List.Nodup
    rw [List.pairwise_map]
    refine h0.imp_of_mem fun {a b} ha hb hab e => hab ?_
    obtain ⟨e1, m1, _, _, a3, a4⟩ := hg a ha
    obtain ⟨e2, m2, _, _, b3, b4⟩ := hg b hb
    rw [a4, b4] at e
    simp only [Prod.mk.injEq] at e
    rw [a3, b3, ba_ext0 e.1, e.2]) (fun x hx => by
    obtain ⟨p, hp, rfl⟩ := List.mem_map.1 hx
    obtain ⟨e, m, c1, c2, _, c4⟩ := hg p hp
    rw [c4]
    exact List.mem_flatMap.2 ⟨e.data.toList, allUp_has c1.1 c1.2, List.mem_map.2 ⟨m, List.mem_range.2 (by omega), rfl⟩⟩)
  have h3 := allUp_len hk 7
  have h4 : (4 : Nat) ^ (7 + 1) = 65536 := by decide
  rw [List.length_map, hT] at h2
  rw [Maps.size_eq]
  omega
end Go.Proofs.YtmgdglghjlggnaaGreat
namespace Go.Proofs.YtmgdglghjlggnaaGreat
open Go.RowKit Go.Maps
set_option linter.unusedVariables false
/-- the letters of a word -/
def LetW (k : Nat) (e : ByteArray) : Prop := ∀ y ∈ e.data.toList, ∃ x, x < k ∧ y = lt97 x
theorem LetW.on {k : Nat} {e : ByteArray} (h : LetW k e) {x : Nat} (hx : x < k) : LetW k (e ++ letterN x) := fun y hy => by
  rw [app_lt] at hy
  rcases List.mem_append.1 hy with h1 | h1
  · exact h y h1
  · exact ⟨x, hx, by simpa using h1⟩
end Go.Proofs.YtmgdglghjlggnaaGreat
namespace Go.Proofs.YtmgdglghjlggnaaGreat
open Go.RowKit Go.Maps
set_option linter.unusedVariables false
end Go.Proofs.YtmgdglghjlggnaaGreat
namespace Go.Proofs.YtmgdglghjlggnaaGreat
open Go.RowKit Go.Maps
set_option linter.unusedVariables false
end Go.Proofs.YtmgdglghjlggnaaGreat
namespace Go.Proofs.YtmgdglghjlggnaaGreat
open Go.RowKit
set_option linter.unusedVariables false
/-- what AllReduced is -/
def AllIs (k : Int) (R : List RulD) (L : List ByteArray) (f : Bool) : Prop :=
  (¬ (∃ c, CntIs k R c ∧ 0 ≤ c ∧ c ≤ 256) ∧ L = [] ∧ f = false) ∨
  ∃ (kn h : Nat), k = (kn : Int) ∧ HtIs R kn ⟨#[]⟩ (h : Int) ∧ (∃ c, CntIs k R c ∧ 0 ≤ c ∧ c ≤ 256) ∧ L = outTo R kn (h + 1) ∧ f = true ∧ L.length ≤ 256
theorem AllIs.few {k : Int} {R : List RulD} {L : List ByteArray} {f : Bool} (h : AllIs k R L f) : L.length ≤ 256 := by
  rcases h with ⟨_, rfl, _⟩ | ⟨_, _, _, _, _, _, _, h⟩
  · simp
  · exact h
theorem AllIs.uniq {k : Int} {R : List RulD} {L L' : List ByteArray} {f f' : Bool} (a : AllIs k R L f) (b : AllIs k R L' f') : L = L' ∧ f = f' := by
  rcases a with ⟨a1, a2, a3⟩ | ⟨kn, h, a1, a2, a3, a4, a5, _⟩ <;> rcases b with ⟨b1, b2, b3⟩ | ⟨kn', h', b1, b2, b3, b4, b5, _⟩
  · exact ⟨by rw [a2, b2], by rw [a3, b3]⟩
  · exact absurd b3 a1
  · exact absurd a3 b1
  · obtain rfl : kn = kn' := by omega
    have e := a2.uniq b2
    obtain rfl : h = h' := by omega
    exact ⟨by rw [a4, b4], by rw [a5, b5]⟩
/-- what AllReduced hands back -/
def RetAF (k : Int) (R : List RulD) (w : World) (e : Ending) (w' : World) : Prop :=
  ∃ (L : List ByteArray) (f : Bool) (a : Option Addr) (cap : Nat), AllIs k R L f ∧ e = .returned (.tuple #[.slice a L.length cap, .bool f]) ∧ w'.ownsRow w.heap.size 9 1 (.slice a L.length cap) L.length (strVals L) ∧ Below w.heap.size w w'
theorem RetAll.fn {k : Int} {R : List RulD} {w : World} {e : Ending} {w' : World} (h : RetAll k R w e w') : RetAF k R w e w' := by
  rcases h with ⟨h1, rfl, hb⟩ | ⟨kn, h, h1, hG, h2, h3, h4, a, cap, rfl, ho, hb⟩
  · exact ⟨[], false, none, 0, .inl ⟨h1, rfl, rfl⟩, rfl, World.ownsRow_nil _ _ _ _, hb⟩
  · exact ⟨_, true, a, cap, .inr ⟨kn, h, h1, h2, h4, rfl, rfl, by rw [outTo_len hG.ne]; exact h3⟩, rfl, ho, hb⟩
theorem specAllReduced_fn (k : Int) (R : List RulD) (a : Option Addr) (cap : Nat) (w : World) (hl : RulesIn w a R) (hlen : R.length ≤ 2 ^ 40) (hz : SzR R) :
    Calls Tryz.prog 74 #[.agg #[.int .i64 k, .slice a R.length cap]] w (RetAF k R w) := (specAllReduced_any k R a cap w hl hlen hz).mono fun _ _ h => h.fn
end Go.Proofs.YtmgdglghjlggnaaGreat
namespace Go.Proofs.YtmgdglghjlggnaaGreat
open Go.RowKit
set_option linter.unusedVariables false
theorem letB_lt97 {k x : Nat} (hx : x < k) (hk : k ≤ 4) : letB (k : Int) (lt97 x) = true := by
  have h : (lt97 x).toNat = 97 + x := by unfold lt97; simp; omega
  unfold letB inB
  rw [h]
  simp
  omega
theorem wordsF_ok {R : List RulD} {k : Nat} (hk : k ≤ 4) : ∀ (m : Nat) (w : ByteArray), okLt (k : Int) w.data.toList → ∀ u ∈ wordsF R k m w, okLt (k : Int) u.data.toList
  | 0, w, hw, u, hu => by rw [List.mem_singleton.1 hu]; exact hw
  | m + 1, w, hw, u, hu => by
    obtain ⟨x, hx, h2⟩ := List.mem_flatMap.1 hu
    split at h2
    · refine wordsF_ok hk m _ ?_ u h2
      intro y hy
      rw [app_lt] at hy
      rcases List.mem_append.1 hy with hy | hy
      · exact hw y hy
      · rw [List.mem_singleton.1 hy]
        exact letB_lt97 (List.mem_range.1 hx) hk
    · cases h2
theorem mem_outTo {R : List RulD} {k i : Nat} {u : ByteArray} (h : u ∈ outTo R k i) : ∃ m, m < i ∧ u ∈ wordsF R k m ⟨#[]⟩ := by
  unfold outTo at h
  obtain ⟨m, hm, h2⟩ := List.mem_flatMap.1 h
  exact ⟨m, List.mem_range.1 hm, h2⟩
/-- the words and the table are made -/
def GoM (k : Int) (R : List RulD) : Prop := ComplP k R ∧ (∃ c, CntIs k R c ∧ 1 ≤ c ∧ c ≤ 40) ∧ ∃ h, LngIs k R h ∧ h ≤ 8
theorem CntIs.one {k : Int} {R : List RulD} {c : Int} (h : CntIs k R c) (h0 : 0 ≤ c) : 1 ≤ c := by
  obtain ⟨l, _, h2⟩ := h
  rcases h2 with ⟨_, rfl⟩ | ⟨h1, rfl⟩
  · omega
  · have := pSum_at R k.toNat (show 0 < l.toNat + 1 by omega)
    have e : paths R k.toNat 0 ⟨#[]⟩ = 1 := rfl
    omega
/-- what is known of the words -/
structure MonW (k : Int) (L : List ByteArray) : Prop where
  few : L.length ≤ 40
  word : ∀ u ∈ L, wordOkB k u = true ∧ u.size ≤ 8
theorem GoM.words {k : Int} {R : List RulD} (h : GoM k R) {L : List ByteArray} (hL : AllIs k R L true) : MonW k L := by
  obtain ⟨hc, ⟨c, hc1, hc2, hc3⟩, hg, hh1, hh2⟩ := h
  rcases hL with ⟨_, _, h3⟩ | ⟨kn, h, rfl, h2, _, rfl, _, _⟩
  · cases h3
  · have G := sysG_of hc.1
    rcases hh1 with ⟨h1, _⟩ | ⟨_, h4⟩
    · exact absurd hc.1 h1
    · rw [Int.toNat_natCast] at h4
      have e := h4.uniq h2
      have hk := hc.1.1.1.1
      obtain ⟨l, hl1, hl2⟩ := hc1
      rcases hl1 with ⟨h5, _⟩ | ⟨_, h5⟩
      · exact absurd hc.1 h5
      · rw [Int.toNat_natCast] at h5 hl2
        have e2 := h5.uniq h2
        subst e2
        refine ⟨?_, fun u hu => ?_⟩
        · rw [outTo_len G.ne]
          rcases hl2 with ⟨h6, _⟩ | ⟨_, rfl⟩
          · omega
          · rw [Int.toNat_natCast] at hc3
            omega
        · obtain ⟨m, hm, hu2⟩ := mem_outTo hu
          have hz := wordsF_size R kn m _ u hu2
          have e0 : (⟨#[]⟩ : ByteArray).size = 0 := rfl
          refine ⟨wordOk_iff.2 ⟨hk, by omega, wordsF_ok (by omega) m _ (fun y hy => by cases hy) u hu2⟩, by omega⟩
theorem word_app {k : Int} {u v : ByteArray} (hu : wordOkB k u = true) (hv : wordOkB k v = true) (h : u.size + v.size ≤ 16) : wordOkB k (u ++ v) = true := by
  obtain ⟨a1, a2, a3⟩ := wordOk_iff.1 hu
  obtain ⟨_, _, b3⟩ := wordOk_iff.1 hv
  refine wordOk_iff.2 ⟨a1, by rw [ByteArray.size_append]; exact h, fun y hy => ?_⟩
  rw [ByteArray.data_append, Array.toList_append] at hy
  rcases List.mem_append.1 hy with hy | hy
  · exact a3 y hy
  · exact b3 y hy
theorem MonW.pair {k : Int} {L : List ByteArray} (h : MonW k L) {i j : Nat} (hi : i < L.length) (hj : j < L.length) : wordOkB k (nthS L i ++ nthS L j) = true ∧ (nthS L i).size + (nthS L j).size ≤ 16 := by
  have h1 := h.word (nthS L i) (by rw [nthS_lt hi]; exact List.getElem_mem hi)
  have h2 := h.word (nthS L j) (by rw [nthS_lt hj]; exact List.getElem_mem hj)
  exact ⟨word_app h1.1 h2.1 (by omega), by omega⟩
/-- what MonoidOf is: words, table, whether it is made -/
def MonIs (k : Int) (R : List RulD) (L : List ByteArray) (P : List Int) (f : Bool) : Prop := (¬ GoM k R ∧ L = [] ∧ P = [] ∧ f = false) ∨ (GoM k R ∧ AllIs k R L true ∧ P = prodF R L ∧ f = true)
theorem MonIs.uniq {k : Int} {R : List RulD} {L L' : List ByteArray} {P P' : List Int} {f f' : Bool} (a : MonIs k R L P f) (b : MonIs k R L' P' f') : L = L' ∧ P = P' ∧ f = f' := by
  rcases a with ⟨a1, rfl, rfl, rfl⟩ | ⟨a1, a2, rfl, rfl⟩ <;> rcases b with ⟨b1, rfl, rfl, rfl⟩ | ⟨b1, b2, rfl, rfl⟩
  · exact ⟨rfl, rfl, rfl⟩
  · exact absurd b1 a1
  · exact absurd a1 b1
  · obtain ⟨rfl, _⟩ := a2.uniq b2
    exact ⟨rfl, rfl, rfl⟩
theorem MonIs.few {k : Int} {R : List RulD} {L : List ByteArray} {P : List Int} {f : Bool} (h : MonIs k R L P f) : L.length ≤ 40 ∧ P.length ≤ 1640 := by
  rcases h with ⟨_, rfl, rfl, _⟩ | ⟨h1, h2, rfl, _⟩
  · exact ⟨by simp, by simp⟩
  · have h3 := (h1.words h2).few
    refine ⟨h3, ?_⟩
    rw [← prodTo_done]
    exact prodTo_few h3 (Nat.le_refl _) (Nat.zero_le _)
/-- what MonoidOf hands back -/
def RetMon (k : Int) (R : List RulD) (w : World) (e : Ending) (w' : World) : Prop :=
  ∃ (L : List ByteArray) (P : List Int) (f : Bool) (aP aL : Option Addr) (cP cL : Nat), MonIs k R L P f ∧ e = .returned (.tuple #[.agg #[.int .i64 (L.length : Nat), .slice aP P.length cP], .slice aL L.length cL, .bool f]) ∧
    w'.ownsRow w.heap.size 3 1 (.slice aP P.length cP) P.length (intVals P) ∧ w'.ownsRow w.heap.size 9 1 (.slice aL L.length cL) L.length (strVals L) ∧ Below w.heap.size w w'
end Go.Proofs.YtmgdglghjlggnaaGreat
