/-
  Steps of a rewriting system, and normal forms, as plain data.
-/
import Derived.Test.YtdhaebbfiaddnaaGreatDoorGts14
import Derived.Test.YtdhaebbfiaddnaaGreatDoorGts05
namespace Go.Proofs.YtdhaebbfiaddnaaGreatDoor
open Go.RowKit
set_option linter.unusedVariables false
/-- the words of less than i letters -/
def outTo (R : List RulD) (k i : Nat) : List ByteArray := (List.range i).flatMap fun m => wordsF R k m ⟨#[]⟩
theorem outTo_succ (R : List RulD) (k i : Nat) : outTo R k (i + 1) = outTo R k i ++ wordsF R k i ⟨#[]⟩ := by
  unfold outTo; rw [List.range_succ, List.flatMap_append]; simp
theorem outTo_len {R : List RulD} (hne : LeftsP R) (k i : Nat) : (outTo R k i).length = pSum R k i := by
  unfold outTo pSum
  rw [List.length_flatMap]
  congr 1
  apply List.map_congr_left
  intro m _
  exact wordsF_len hne k m _
/-- the first j words with a letter more -/
def nxW (R : List RulD) (k : Nat) (l : List ByteArray) (j : Nat) : List ByteArray := (l.take j).flatMap (stepW R k)
/-- .. with one of the first x letters -/
def stepTo (R : List RulD) (w : ByteArray) (x : Nat) : List ByteArray := (List.range x).flatMap fun y => if okX R w y = true then [w ++ letterN y] else []
theorem stepTo_yes {R : List RulD} {w : ByteArray} {x : Nat} (h : okX R w x = true) : stepTo R w (x + 1) = stepTo R w x ++ [w ++ letterN x] := by
  unfold stepTo; rw [List.range_succ, List.flatMap_append]; simp [h]
theorem stepTo_no {R : List RulD} {w : ByteArray} {x : Nat} (h : okX R w x = false) : stepTo R w (x + 1) = stepTo R w x := by
  unfold stepTo; rw [List.range_succ, List.flatMap_append]; simp [h]
theorem stepTo_len (R : List RulD) (w : ByteArray) : ∀ x, (stepTo R w x).length ≤ x
  | 0 => Nat.le_refl _
  | x + 1 => by
    have ih := stepTo_len R w x
    cases h : okX R w x
    · rw [stepTo_no h]; omega
    · rw [stepTo_yes h, List.length_append]; simp; omega
theorem nxW_succ {R : List RulD} {k : Nat} {l : List ByteArray} {j : Nat} (h : j < l.length) : nxW R k l (j + 1) = nxW R k l j ++ stepTo R (nthS l j) k := by
  unfold nxW
  rw [List.take_succ_eq_append_getElem h, List.flatMap_append]
  have e : nthS l j = l[j] := by unfold nthS; rw [List.getD_eq_getElem?_getD, List.getElem?_eq_getElem h]; rfl
  rw [e]
  simp [stepW, stepTo]
theorem nxW_len {R : List RulD} {k : Nat} {l : List ByteArray} : ∀ j, j ≤ l.length → (nxW R k l j).length ≤ k * j
  | 0, _ => by simp [nxW]
  | j + 1, h => by
    have ih := nxW_len (R := R) (k := k) (l := l) j (by omega)
    have h1 := stepTo_len R (nthS l j) k
    rw [nxW_succ (by omega), List.length_append, Nat.mul_succ]
    omega
theorem nxW_all (R : List RulD) (k i : Nat) : nxW R k (wordsF R k i ⟨#[]⟩) (wordsF R k i ⟨#[]⟩).length = wordsF R k (i + 1) ⟨#[]⟩ := by
  unfold nxW; rw [List.take_length, wordsF_step]
/-- what AllReduced hands back -/
def RetAll (k : Int) (R : List RulD) (w : World) (e : Ending) (w' : World) : Prop :=
  (¬ (∃ c, CntIs k R c ∧ 0 ≤ c ∧ c ≤ 256) ∧ e = .returned (.tuple #[.slice none 0 0, .bool false]) ∧ Below w.heap.size w w') ∨
  ∃ (kn h : Nat), k = (kn : Int) ∧ SysG R kn ∧ HtIs R kn ⟨#[]⟩ (h : Int) ∧ pSum R kn (h + 1) ≤ 256 ∧ (∃ c, CntIs k R c ∧ 0 ≤ c ∧ c ≤ 256) ∧ ∃ a cap, e = .returned (.tuple #[.slice a (outTo R kn (h + 1)).length cap, .bool true]) ∧
    w'.ownsRow w.heap.size 9 1 (.slice a (outTo R kn (h + 1)).length cap) (outTo R kn (h + 1)).length (strVals (outTo R kn (h + 1))) ∧ Below w.heap.size w w'
def lenV : Value → Nat
  | .slice _ n _ => n
  | _ => 0
theorem strVals_app (l m : List ByteArray) : strVals (l ++ m) = strVals l ++ strVals m := by simp [strVals]
theorem strVals_length (l : List ByteArray) : (strVals l).length = l.length := by simp [strVals]
theorem pSum_ge {R : List RulD} {k h : Nat} (hh : HtIs R k ⟨#[]⟩ (h : Int)) : ∀ j, j ≤ h + 1 → j ≤ pSum R k j
  | 0, _ => Nat.zero_le _
  | j + 1, hj => by
    have ih := pSum_ge hh j (by omega)
    have h1 : paths R k j ⟨#[]⟩ ≠ 0 := by
      rcases hh with ⟨h1, _⟩ | ⟨m, h1, h2, _⟩
      · omega
      · exact fun h0 => h2 (paths_zero_le h0 (by omega))
    rw [pSum_succ]; omega
set_option maxRecDepth 100000 in
set_option maxHeartbeats 4000000 in
theorem specAllReduced_any (k : Int) (R : List RulD) (a : Option Addr) (cap : Nat) (w : World) (hl : RulesIn w a R) (hlen : R.length ≤ 2 ^ 40) (hz : SzR R) :
    Calls Tryz.prog 119 #[.agg #[.int .i64 k, .slice a R.length cap]] w (RetAll k R w) := by
  have HL := Lib.hid hl
  have HS := Lib.hid (fun W h => specCountAll_any k R a cap W h hlen hz)
  have HA := Lib.hid (fun o => alloc_belowS w o)
  have hbx := alloc_at w (.cells #[.int .i64 k, .slice a R.length cap] 25)
  have HBX : Hid (∀ W2, Below (w.alloc (.cells #[.int .i64 k, .slice a R.length cap] 25)).heap.size (w.alloc (.cells #[.int .i64 k, .slice a R.length cap] 25)) W2 → W2.cell? ⟨w.heap.size, 0, none⟩ = some (.int .i64 k) ∧ W2.cell? ⟨w.heap.size, 1, none⟩ = some (.slice a R.length cap)) := Lib.hid (fun W2 hW2 => sys_cells ((hW2.block w.heap.size (by simp)).trans hbx))
  have kc := convC
  clear hl hz hbx
  go_enter Tryz.func119, Tryz.ntmps119
  go_wp2_with fail
  refine (HS.out _ (HL.out.later (HA.out _))).mono ?_
  rintro e w1 ⟨c, hcn, rfl, hb1⟩
  have HCN := Lib.hid hcn
  have HW1 := Lib.hid (Below.now (HA.out _) hb1)
  have HBX1 : Hid (∀ W2, Below w1.heap.size w1 W2 → W2.cell? ⟨w.heap.size, 0, none⟩ = some (.int .i64 k) ∧ W2.cell? ⟨w.heap.size, 1, none⟩ = some (.slice a R.length cap)) := Lib.hid (fun W2 hW2 => HBX.out W2 (Below.now hb1 hW2))
  have HR0 := Lib.hid (fun W => l01In_any c 0 256 W)
  clear hb1 HS HBX
  cases hb : inB c 0 256
  · have F : Hid (RetAll k R w (.returned (.tuple #[.slice none 0 0, .bool false])) w1) := Lib.hid (.inl ⟨fun ⟨c', h1, h2, h3⟩ => (by have := h1.uniq HCN.out; subst this; simp [inB] at hb; omega), rfl, HW1.out⟩)
    rw [hb] at HR0
    clear hb hcn
    go_wp2_with (go_at_call 116; refine (HR0.out _).mono ?_; rintro e w' ⟨rfl, rfl⟩)
    go_ret2
    exact F.out
  · have hb2 := inB_bounds hb
    rw [hb] at HR0
    clear hb
    obtain ⟨h, hlg, hcase⟩ := hcn
    rcases hcase with ⟨_, h1⟩ | ⟨h0, hc⟩
    · omega
    rcases hlg with ⟨_, h1⟩ | ⟨hsp, hh⟩
    · omega
    obtain ⟨_, h8, hk1, hk4⟩ := sys_sizes hsp
    obtain ⟨kn, rfl⟩ := Int.eq_ofNat_of_zero_le (show 0 ≤ k by omega)
    obtain ⟨hn, rfl⟩ := Int.eq_ofNat_of_zero_le h0
    have hG := sysG_of hsp
    have hh' : HtIs R kn ⟨#[]⟩ (hn : Int) := by simpa using hh
    have hps : pSum R kn (hn + 1) ≤ 256 := by simp at hc; omega
    have hge := pSum_ge hh' (hn + 1) (Nat.le_refl _)
    have hkn : kn ≤ 4 := by omega
    have hhn : hn ≤ 256 := by omega
    have HG := Lib.hid hG
    have HH := Lib.hid hh'
    have HPS := Lib.hid hps
    have HEX : Hid (∃ c, CntIs (kn : Int) R c ∧ 0 ≤ c ∧ c ≤ 256) := Lib.hid ⟨c, HCN.out, hb2.1, hb2.2⟩
    have HPA : Hid (∀ i, i ≤ hn + 1 → pSum R kn i ≤ 256) := Lib.hid (fun i hi => Nat.le_trans (pSum_mono R kn hi) hps)
    have HPL : Hid (∀ i, i ≤ hn + 1 → (wordsF R kn i ⟨#[]⟩).length ≤ 256 ∧ ((wordsF R kn i ⟨#[]⟩).length = 0 ↔ i = hn + 1)) := Lib.hid (fun i hi => by
      rw [wordsF_len hG.ne]
      rcases hh' with ⟨h1, _⟩ | ⟨m, h1, h2, h3⟩
      · omega
      · have : m = hn := by omega
        subst this
        by_cases e : i = m + 1
        · subst e; rw [h3]; exact ⟨by omega, by simp⟩
        · exact ⟨Nat.le_trans (pSum_at R kn (show i < m + 1 by omega)) hps, ⟨fun h0 => absurd (paths_zero_le h0 (by omega)) h2, fun h => absurd h e⟩⟩)
    have HEN := Lib.hid (fun v W2 h hv => l07Ends_any (kn : Nat) R v a cap W2 h hlen (fun j hj => by have := (h8 j hj).1; omega) hv)
    clear hsp hh hh' hps hG h8 hc hb2 hge hk1 hk4
    go_wp2_with (go_at_call 116; refine (HR0.out _).mono ?_; rintro e w' ⟨rfl, rfl⟩)
    clear HR0
    have HO0 : Hid (Bld 9 1 w1 ((w1.alloc (.cells #[] 9)).alloc (.cells #[.string ⟨#[]⟩] 9)) (.slice (some ⟨w1.heap.size, 0, none⟩) 0 0) (outTo R kn 0).length (strVals (outTo R kn 0))) := Lib.hid ((Bld.empty 9 1 w1).later (alloc_belowS _ _))
    have HI0 : Hid (StrsIn ((w1.alloc (.cells #[] 9)).alloc (.cells #[.string ⟨#[]⟩] 9)) (some ⟨w1.heap.size + 1, 0, none⟩) (wordsF R kn 0 ⟨#[]⟩)) := Lib.hid (.inr ⟨_, _, rfl, fun i hi => by
      have : i = 0 := by simp [wordsF] at hi; omega
      subst this
      have e1 : (w1.alloc (.cells #[] 9)).heap.size = w1.heap.size + 1 := by simp
      rw [← e1]
      simp [wordsF]⟩)
    go_loopw [4, 5] (fun vo vw wr => ∃ (i : Nat) (aw : Option Addr) (cw : Nat) (L : List ByteArray), i ≤ hn + 1 ∧ L = wordsF R kn i ⟨#[]⟩ ∧ vw = .slice aw L.length cw ∧ Bld 9 1 w1 wr vo (outTo R kn i).length (strVals (outTo R kn i)) ∧ StrsIn wr aw L ∧ Away wr aw vo) (fun vo _ _ => 257 - lenV vo)
    case atStart => exact ⟨0, _, 1, _, Nat.zero_le _, rfl, rfl, HO0.out, HI0.out, fun x hx => (by cases hx; refine ⟨by simp; try omega, by simp [Value.ownBlock]; try omega⟩)⟩
    case round =>
      clear HO0 HI0
      obtain ⟨i, aw, cw, L, hi, hL, rfl, hbd, hst, haw⟩ := hrel
      have hLl := HPL.out i hi
      have hol := outTo_len HG.out.ne kn i
      have hop := HPA.out i hi
      rw [← hL] at hLl
      obtain ⟨ao, co, rfl⟩ := owns_form hbd.1
      have HLE := Lib.hid hL
      have HB := Lib.hid hbd
      have HST := Lib.hid hst
      have HAW := Lib.hid haw
      clear hbd hst haw hL
      by_cases hlt : i = hn + 1
      · have hL0 : L.length = 0 := hLl.2.2 hlt
        subst hlt
        have F : Hid (RetAll (kn : Int) R w (.returned (.tuple #[.slice ao (outTo R kn (hn + 1)).length co, .bool true])) wr) := Lib.hid (.inr ⟨kn, hn, rfl, HG.out, HH.out, HPS.out, HEX.out, ao, co, rfl, owns_mono HB.out.1 HW1.out.size, Below.now HW1.out HB.out.2⟩)
        have hL0' : ¬ 0 < L.length := by omega
        clear hol hLl hL0
        go_wp2_with fail
        go_ret2
        exact F.out
      · have hLp : 0 < L.length := by
          by_cases h0 : L.length = 0
          · exact absurd (hLl.2.1 h0) hlt
          · omega
        have hpn := HPA.out (i + 1) (by omega)
        have hos := outTo_succ R kn i
        rw [← HLE.out] at hos
        have HOS := Lib.hid hos
        have hon : (outTo R kn i).length + L.length ≤ 256 := by
          have h1 := outTo_len HG.out.ne kn (i + 1)
          rw [hos, List.length_append] at h1
          omega
        have HSR : Hid (Src wr (.slice aw L.length cw) L.length (strVals L)) := Lib.hid (by
          cases aw with
          | none =>
            obtain ⟨_, _, hb, _⟩ := HST.out.cell hLp
            cases hb
          | some x => exact Src.of_cells HST.out)
        have HN1 : Hid ((strVals L).length = L.length * 1) := Lib.hid (by rw [strVals_length]; omega)
        have HN2 : Hid (∀ u ∈ strVals L, u.oneCell' = true) := Lib.hid (fun u hu => by
          obtain ⟨_, _, rfl⟩ := List.mem_map.1 hu; rfl)
        clear hos hLl hol
        go_wp2_with (at_builtin; refine wpList_appM rfl (.tmp 20) (.tmp 21) rfl Tryz.underlying52 Tryz.infoStr rfl (by decide) rfl HB.out rfl HSR.out HN1.out HN2.out ?a1 ?a2 ?a3)
        case a1 => unfold maxLen; omega
        case a2 => omega
        intro v4 w4 hb4 hg4 ho4
        have hb4' : Bld 9 1 w1 w4 v4 (outTo R kn (i + 1)).length (strVals (outTo R kn (i + 1))) := by
          rw [HOS.out, List.length_append, strVals_app]; exact hb4
        have hno : (outTo R kn (i + 1)).length ≤ 256 := by rw [HOS.out, List.length_append]; exact hon
        have hlt4 : (outTo R kn i).length < (outTo R kn (i + 1)).length := by rw [HOS.out, List.length_append]; omega
        obtain ⟨a4, c4, hv4⟩ := owns_form hb4'.1
        subst hv4
        have HB4 := Lib.hid hb4'
        have HST4 : Hid (StrsIn w4 aw L) := Lib.hid (CellsIn.grownC HST.out hg4 (fun x hx => (HAW.out x hx).2))
        have HN0 : Hid (Bld 9 1 w4 (w4.alloc (.cells #[] 9)) (.slice (some ⟨w4.heap.size, 0, none⟩) 0 0) (nxW R kn L 0).length (strVals (nxW R kn L 0))) := Lib.hid (Bld.empty 9 1 w4)
        have HNA : Hid (nxW R kn L L.length = wordsF R kn (i + 1) ⟨#[]⟩) := Lib.hid (by rw [HLE.out]; exact nxW_all R kn i)
        have HSZ : Hid (∀ j, j < L.length → (nthS L j).size = i) := Lib.hid (fun j hj => by
          have h1 : nthS L j ∈ L := by unfold nthS; rw [List.getD_eq_getElem?_getD, List.getElem?_eq_getElem hj]; exact List.getElem_mem hj
          have h2 := wordsF_size R kn i ⟨#[]⟩ (nthS L j) (by rw [← HLE.out]; exact h1)
          have h3 : (⟨#[]⟩ : ByteArray).size = 0 := rfl
          omega)
        have hLm : L.length ≤ 256 := by omega
        have HLT := Lib.hid hlt4
        have HNO := Lib.hid hno
        clear hb4 hb4' hg4 ho4 HB HST HAW HOS HSR HN1 HN2 hon hpn hop hlt4 hno
        generalize hO : (outTo R kn (i + 1)) = O at *
        have HOE := Lib.hid hO
        clear hO
        generalize hn0 : (outTo R kn i).length = n0 at *
        have HN0E := Lib.hid hn0
        clear hn0
        go_wp2_with fail
        go_loopw [6, 26] (fun vn vj wr => ∃ j : Nat, j ≤ L.length ∧ vj = .int .i64 (j : Nat) ∧ Bld 9 1 w4 wr vn (nxW R kn L j).length (strVals (nxW R kn L j))) (fun _ vj _ => L.length - (intOf vj).toNat)
        case atStart => exact ⟨0, Nat.zero_le _, rfl, HN0.out⟩
        case round =>
          clear HN0
          obtain ⟨j, hj, rfl, hbn⟩ := hrel
          obtain ⟨an, cn, rfl⟩ := owns_form hbn.1
          have HBN := Lib.hid hbn
          clear hbn
          by_cases hlj : j < L.length
          · obtain ⟨b, off, rfl, hb, hc⟩ := (HST4.out.later HBN.out.2).cell hlj
            have c1 := hc j hlj
            have HXS := Lib.hid (nxW_succ (R := R) (k := kn) hlj)
            have hes := HSZ.out j hlj
            have hnl := nxW_len (R := R) (k := kn) j hj
            have hnl2 : (nxW R kn L j).length ≤ 1024 := by
              have h1 : kn * j ≤ 4 * 256 := Nat.mul_le_mul hkn (by omega)
              omega
            have hN0 : Hid (nxW R kn L j = nxW R kn L j ++ stepTo R (nthS L j) 0) := Lib.hid (by simp [stepTo])
            clear hc hnl
            generalize nthS L j = e at *
            generalize nxW R kn L j = X at *
            go_wp2_with fail
            generalize hW : wr = wr1 at *
            clear hW c1
            go_loopw [6, 9] (fun vn vx wr => ∃ (x : Nat) (Y : List ByteArray), x ≤ kn ∧ vx = .int .i64 (x : Nat) ∧ Bld 9 1 w4 wr vn Y.length (strVals Y) ∧ Hid (Y = X ++ stepTo R e x)) (fun _ vx _ => kn - (intOf vx).toNat)
            case atStart => exact ⟨0, X, Nat.zero_le _, rfl, HBN.out, hN0⟩
            case round =>
              clear hN0 HBN
              obtain ⟨x, Y, hx, rfl, hbn, HY⟩ := hrel
              obtain ⟨an, cn, rfl⟩ := owns_form hbn.1
              have hB1 := Below.now HB4.out.2 hbn.2
              obtain ⟨s0, s1⟩ := HBX1.out wr hB1
              have HBN := Lib.hid hbn
              have HB1 := Lib.hid hB1
              have hsl := stepTo_len R e x
              have hXl : Y.length ≤ 1028 := by rw [HY.out, List.length_append]; omega
              clear hbn hB1 hsl
              by_cases hlx : x < kn
              · have s0a : ∀ o, (wr.alloc o).cell? ⟨w.heap.size, 0, none⟩ = some (.int .i64 (kn : Nat)) := fun o => by rw [(alloc_belowS wr o).cell (World.block_lt_of_cell? wr _ s0)]; exact s0
                have s1a : ∀ o, (wr.alloc o).cell? ⟨w.heap.size, 1, none⟩ = some (.slice a R.length cap) := fun o => by rw [(alloc_belowS wr o).cell (World.block_lt_of_cell? wr _ s1)]; exact s1
                have hu : IntKind.u8.wrap (97 + (x : Int)) = 97 + (x : Int) := by simp [IntKind.wrap, IntKind.signed, IntKind.bits]; omega
                have hvs : (e ++ oneC (97 + (x : Int))).size ≤ 1000 := by
                  rw [ByteArray.size_append]
                  have : (oneC (97 + (x : Int))).size = 1 := rfl
                  omega
                have HEV := Lib.hid (fun W2 h => HEN.out (e ++ oneC (97 + (x : Int))) W2 h hvs)
                have HOK : Hid (okX R e x = !endsR R (e ++ oneC (97 + (x : Int)))) := Lib.hid rfl
                have HLN : Hid (e ++ letterN x = e ++ oneC (97 + (x : Int))) := Lib.hid rfl
                have hos : ∀ z, (oneC z).size = 1 := fun z => rfl
                have hesz1 : ¬ (9223372036854775807 : Int) < (e.size : Int) + 1 := by omega
                have hesz2 : ¬ 9223372036854775807 < e.size + 1 := by omega
                go_wp2_with fail
                clear hu hos hesz1 hesz2 hvs
                generalize e ++ oneC (97 + (x : Int)) = v at *
                refine (HEV.out _ (HL.out.later (Below.now HW1.out (Below.now HB1.out (alloc_belowS wr _))))).mono ?_
                rintro e2 w2 ⟨rfl, hb2⟩
                have HBN2 := Lib.hid (HBN.out.later (Below.now (alloc_belowS wr _) hb2))
                clear hb2 HEV s0 s1 s0a s1a HBN
                cases hend : endsR R v
                · have hok : okX R e x = true := by rw [HOK.out, hend]; rfl
                  have hst := stepTo_yes (R := R) (w := e) hok
                  rw [HLN.out] at hst
                  have HSTP := Lib.hid hst
                  clear hok hend HOK hst HLN
                  have HA3 := Lib.hid (HBN2.out.later (alloc_belowS w2 (.cells #[.string v] 9)))
                  have HN1 : Hid ([Value.string v].length = 1 * 1) := Lib.hid rfl
                  have HN2 : Hid (∀ u ∈ [Value.string v], u.oneCell' = true) := Lib.hid (fun u hu => by rw [List.mem_singleton.1 hu]; rfl)
                  go_wp2_with (at_builtin; refine wpList_appM rfl (.tmp 47) (.tmp 49) rfl Tryz.underlying52 Tryz.infoStr rfl (by decide) rfl HA3.out rfl (Src.lit _) HN1.out HN2.out ?b1 ?b2 ?b3)
                  case b1 => unfold maxLen; omega
                  case b2 => omega
                  intro v7 w7 hb7 hg7 ho7
                  have HB7 : Hid (Bld 9 1 w4 w7 v7 (Y ++ [v]).length (strVals (Y ++ [v]))) := Lib.hid (by
                    rw [List.length_append, strVals_app]; exact hb7)
                  have HY7 : Hid (Y ++ [v] = X ++ stepTo R e (x + 1)) := Lib.hid (by rw [HSTP.out, ← List.append_assoc, HY.out])
                  clear hb7 hg7 ho7
                  go_wp2_with fail
                  go_roundw
                  case rel => exact ⟨x + 1, _, by omega, by go_num, HB7.out, HY7⟩
                  case measure => simp [intOf]; omega
                · have hok : okX R e x = false := by rw [HOK.out, hend]; rfl
                  have HY7 : Hid (Y = X ++ stepTo R e (x + 1)) := Lib.hid (by rw [stepTo_no hok]; exact HY.out)
                  clear hok hend HOK HLN
                  go_wp2_with fail
                  go_roundw
                  case rel => exact ⟨x + 1, Y, by omega, by go_num, HBN2.out, HY7⟩
                  case measure => simp [intOf]; omega
              · obtain rfl : x = kn := by omega
                have HB7 : Hid (Bld 9 1 w4 wr (.slice an Y.length cn) (nxW R x L (j + 1)).length (strVals (nxW R x L (j + 1)))) := Lib.hid (by rw [HXS.out, ← HY.out]; exact HBN.out)
                go_wp2_with fail
                go_roundw
                case rel => exact ⟨j + 1, by omega, by go_num, HB7.out⟩
                case measure => simp [intOf]; omega
          · obtain rfl : j = L.length := by omega
            have HB9 := Lib.hid (HB4.out.later HBN.out.2)
            have HI9 : Hid (StrsIn wr an (nxW R kn L L.length)) := Lib.hid (owns_strsIn2 HBN.out.1)
            have HA9 : Hid (Away wr an (.slice a4 O.length c4)) := Lib.hid (fun x hx => by
              have h1 := HBN.out.1.lt x.block (by rw [hx]; rfl)
              refine ⟨h1.2, fun e => ?_⟩
              have h2 := (HB4.out.1.lt x.block e.symm).2
              omega)
            generalize nxW R kn L L.length = L2 at *
            go_wp2_with fail
            go_roundw
            case rel => exact ⟨i + 1, an, cn, L2, by omega, HNA.out, rfl, by rw [HOE.out]; exact HB9.out, HI9.out, HA9.out⟩
            case measure => have h1 := HLT.out; have h2 := HNO.out; have h3 := HN0E.out; simp only [lenV]; omega
end Go.Proofs.YtdhaebbfiaddnaaGreatDoor
namespace Go.Proofs.YtdhaebbfiaddnaaGreatDoor
open Go.RowKit
set_option linter.unusedVariables false
/-- the letters a .. d alone -/
def LW (v : List UInt8) : Prop := ∀ y ∈ v, 97 ≤ y.toNat ∧ y.toNat ≤ 100
theorem LW.app {u v : List UInt8} (hu : LW u) (hv : LW v) : LW (u ++ v) := fun y hy => by
  rcases List.mem_append.1 hy with h | h
  · exact hu y h
  · exact hv y h
theorem LW.sub {u v : List UInt8} (h : LW v) (hs : u.Sublist v) : LW u := fun y hy => h y (hs.subset hy)
/-- the number of a word: its letters as the digits 1 to 4 in base 5 -/
def rkL : List UInt8 → Nat → Nat
  | [], a => a
  | y :: v, a => rkL v (a * 5 + (y.toNat - 96))
def rk (v : List UInt8) : Nat := rkL v 0
theorem rkL_add : ∀ (v : List UInt8) (a : Nat), rkL v a = a * 5 ^ v.length + rk v
  | [], a => by simp [rkL, rk]
  | y :: v, a => by
    unfold rk
    simp only [rkL]
    rw [rkL_add v, rkL_add v (0 * 5 + _)]
    rw [List.length_cons, Nat.pow_succ, Nat.add_mul, Nat.zero_mul, Nat.zero_add, Nat.mul_comm (5 ^ v.length) 5, ← Nat.mul_assoc]
    omega
theorem rk_app (u v : List UInt8) : rk (u ++ v) = rk u * 5 ^ v.length + rk v := by
  have h : ∀ (u : List UInt8) (a : Nat), rkL (u ++ v) a = rkL v (rkL u a) := fun u => by
    induction u with
    | nil => intro a; rfl
    | cons y u ih => intro a; exact ih _
  unfold rk
  rw [h, rkL_add]
  rfl
theorem rk_cons (y : UInt8) (v : List UInt8) : rk (y :: v) = (y.toNat - 96) * 5 ^ v.length + rk v := by
  have h := rk_app [y] v
  have e : rk [y] = y.toNat - 96 := by simp [rk, rkL]
  rw [e] at h
  exact h
theorem rk_lt : ∀ {v : List UInt8}, LW v → rk v < 5 ^ v.length
  | [], _ => by simp [rk, rkL]
  | y :: v, h => by
    have ih := rk_lt (v := v) (fun z hz => h z (List.mem_cons_of_mem _ hz))
    have h1 := h y List.mem_cons_self
    rw [rk_cons, List.length_cons, Nat.pow_succ]
    have h2 : (y.toNat - 96) * 5 ^ v.length ≤ 4 * 5 ^ v.length := Nat.mul_le_mul_right _ (by omega)
    omega
theorem rk_ge {y : UInt8} {v : List UInt8} (h : LW (y :: v)) : 5 ^ v.length ≤ rk (y :: v) := by
  have h1 := h y List.mem_cons_self
  rw [rk_cons]
  have h2 : 1 * 5 ^ v.length ≤ (y.toNat - 96) * 5 ^ v.length := Nat.mul_le_mul_right _ (by omega)
  omega
theorem rk_lex : ∀ {u v : List UInt8}, LW u → LW v → u.length = v.length → u < v → rk u < rk v
  | [], [], _, _, _, h => absurd h (List.lt_irrefl _)
  | [], _ :: _, _, _, h, _ => by simp at h
  | _ :: _, [], _, _, h, _ => by simp at h
  | a :: u, b :: v, hu, hv, hl, h => by
    have hl2 : u.length = v.length := by simpa using hl
    have hu2 : LW u := fun z hz => hu z (List.mem_cons_of_mem _ hz)
    have hv2 : LW v := fun z hz => hv z (List.mem_cons_of_mem _ hz)
    have ha := hu a List.mem_cons_self
    have hb := hv b List.mem_cons_self
    rw [rk_cons, rk_cons, hl2]
    rcases List.cons_lt_cons_iff.1 h with h1 | ⟨rfl, h1⟩
    · have h2 := UInt8.lt_iff_toNat_lt.1 h1
      have h3 := rk_lt hu2
      rw [hl2] at h3
      have h4 : (a.toNat - 96 + 1) * 5 ^ v.length ≤ (b.toNat - 96) * 5 ^ v.length := Nat.mul_le_mul_right _ (by omega)
      rw [Nat.add_mul] at h4
      omega
    · have := rk_lex hu2 hv2 hl2 h1
      omega
theorem rk_less {u v : List UInt8} (hu : LW u) (hv : LW v) (h : ltW u v = true) : rk u < rk v := by
  unfold ltW at h
  rcases of_decide_eq_true h with h | ⟨h1, h2⟩
  · cases v with
    | nil => simp at h
    | cons y v =>
      have h1 := rk_lt hu
      have h2 := rk_ge hv
      have h3 : 5 ^ u.length ≤ 5 ^ v.length := Nat.pow_le_pow_right (by omega) (by simp at h; omega)
      omega
  · exact rk_lex hu hv h1 h2
theorem rk_swap {u x y v : List UInt8} (hx : LW x) (hy : LW y) (h : ltW y x = true) : rk (u ++ (y ++ v)) < rk (u ++ (x ++ v)) := by
  have hlen : y.length ≤ x.length := by
    unfold ltW at h
    rcases of_decide_eq_true h with h | ⟨h, _⟩ <;> omega
  have h1 := rk_less hy hx h
  rw [rk_app u (y ++ v), rk_app u (x ++ v), rk_app y v, rk_app x v, List.length_append, List.length_append, Nat.pow_add, Nat.pow_add]
  have h2 : 5 ^ y.length ≤ 5 ^ x.length := Nat.pow_le_pow_right (by omega) hlen
  have h3 : rk u * (5 ^ y.length * 5 ^ v.length) ≤ rk u * (5 ^ x.length * 5 ^ v.length) := Nat.mul_le_mul_left _ (Nat.mul_le_mul_right _ h2)
  have h4 : (rk y + 1) * 5 ^ v.length ≤ rk x * 5 ^ v.length := Nat.mul_le_mul_right _ h1
  have h5 : 1 ≤ 5 ^ v.length := Nat.one_le_pow _ _ (by omega)
  rw [Nat.add_mul, Nat.one_mul] at h4
  omega
theorem rk_top {v : List UInt8} (h : LW v) (hl : v.length ≤ 16) : rk v < 152587890625 := by
  have h1 := rk_lt h
  have h2 : 5 ^ v.length ≤ 5 ^ 16 := Nat.pow_le_pow_right (by omega) hl
  have h3 : (5 : Nat) ^ 16 = 152587890625 := by decide
  omega
/-- l lies in w at the place i -/
def preAt (w : ByteArray) (i : Nat) (l : ByteArray) : Bool := l.data.toList.isPrefixOf (w.data.toList.drop i)
theorem preAt_fits {w l : ByteArray} {i : Nat} (h : preAt w i l = true) (hl : 0 < l.size) : i + l.size ≤ w.size := by
  have h1 := (List.isPrefixOf_iff_prefix.1 h).length_le
  have h2 : l.data.toList.length = l.size := rfl
  have h3 : w.data.toList.length = w.size := rfl
  rw [List.length_drop] at h1
  omega
/-- the steps with a rule at a place (the first k rules) -/
def stAt (R : List RulD) (w : ByteArray) (i k : Nat) : List (Nat × Nat) := ((List.range k).filter fun r => preAt w i (nthR R r).1).map fun r => (r, i)
/-- the steps at the places before i, and with the rules before k at i -/
def stTo (R : List RulD) (w : ByteArray) (i k : Nat) : List (Nat × Nat) := ((List.range i).flatMap fun j => stAt R w j R.length) ++ stAt R w i k
/-- all steps, by place and then by rule -/
def stepsF (R : List RulD) (w : ByteArray) : List (Nat × Nat) := (List.range w.size).flatMap fun j => stAt R w j R.length
theorem stAt_zero (R : List RulD) (w : ByteArray) (i : Nat) : stAt R w i 0 = [] := rfl
theorem stTo_start (R : List RulD) (w : ByteArray) : stTo R w 0 0 = [] := rfl
theorem stTo_yes {R : List RulD} {w : ByteArray} {i k : Nat} (h : preAt w i (nthR R k).1 = true) : stTo R w i (k + 1) = stTo R w i k ++ [(k, i)] := by
  unfold stTo stAt
  rw [List.range_succ, List.filter_append, List.map_append, List.append_assoc]
  simp [h]
theorem stTo_no {R : List RulD} {w : ByteArray} {i k : Nat} (h : preAt w i (nthR R k).1 = false) : stTo R w i (k + 1) = stTo R w i k := by
  unfold stTo stAt
  rw [List.range_succ, List.filter_append, List.map_append]
  simp [h]
theorem stTo_next (R : List RulD) (w : ByteArray) (i : Nat) : stTo R w i R.length = stTo R w (i + 1) 0 := by
  unfold stTo
  rw [stAt_zero, List.append_nil, List.range_succ, List.flatMap_append]
  simp
theorem stTo_done (R : List RulD) (w : ByteArray) : stTo R w w.size 0 = stepsF R w := by
  unfold stTo stepsF
  rw [stAt_zero, List.append_nil]
theorem stAt_pre (R : List RulD) (w : ByteArray) (i : Nat) {j k : Nat} (h : j ≤ k) : stAt R w i j <+: stAt R w i k := by
  unfold stAt
  refine List.IsPrefix.map _ (List.IsPrefix.filter _ ?_)
  obtain ⟨d, rfl⟩ := Nat.exists_eq_add_of_le h
  rw [List.range_add]
  exact List.prefix_append _ _
theorem stTo_rows (R : List RulD) (w : ByteArray) {i j : Nat} (h : i ≤ j) : stTo R w i 0 <+: stTo R w j 0 := by
  unfold stTo
  rw [stAt_zero, stAt_zero, List.append_nil, List.append_nil]
  obtain ⟨d, rfl⟩ := Nat.exists_eq_add_of_le h
  rw [List.range_add, List.flatMap_append]
  exact List.prefix_append _ _
theorem stTo_pre {R : List RulD} {w : ByteArray} {i k : Nat} (hi : i < w.size) (hk : k ≤ R.length) : stTo R w i k <+: stepsF R w := by
  rw [← stTo_done]
  refine List.IsPrefix.trans ?_ (stTo_rows R w (show i + 1 ≤ w.size from hi))
  rw [← stTo_next]
  unfold stTo
  exact List.prefix_append_right_inj _ |>.2 (stAt_pre R w i hk)
/-- the first step of all -/
theorem first_at {R : List RulD} {w : ByteArray} {i k : Nat} (hi : i < w.size) (hk : k < R.length) (h0 : stTo R w i k = []) (h : preAt w i (nthR R k).1 = true) : (stepsF R w).head? = some (k, i) := by
  have h1 := stTo_pre (R := R) (w := w) hi (show k + 1 ≤ R.length from hk)
  rw [stTo_yes h, h0] at h1
  obtain ⟨t, ht⟩ := h1
  rw [← ht]
  rfl
theorem mem_stepsF {R : List RulD} {w : ByteArray} {s : Nat × Nat} : s ∈ stepsF R w ↔ s.2 < w.size ∧ s.1 < R.length ∧ preAt w s.2 (nthR R s.1).1 = true := by
  unfold stepsF stAt
  simp only [List.mem_flatMap, List.mem_range, List.mem_map, List.mem_filter]
  constructor
  · rintro ⟨i, hi, r, ⟨hr, hp⟩, rfl⟩
    exact ⟨hi, hr, hp⟩
  · rintro ⟨h1, h2, h3⟩
    exact ⟨s.2, h1, s.1, ⟨h2, h3⟩, rfl⟩
theorem stepsF_len (R : List RulD) (w : ByteArray) : (stepsF R w).length ≤ w.size * R.length := by
  unfold stepsF
  rw [List.length_flatMap]
  have key : ∀ n, ((List.range n).map fun j => (stAt R w j R.length).length).sum ≤ n * R.length := fun n => by
    induction n with
    | zero => simp
    | succ n ih =>
      rw [List.range_succ, List.map_append, List.sum_append]
      have h1 : (stAt R w n R.length).length ≤ R.length := by
        unfold stAt
        rw [List.length_map]
        have := List.length_filter_le (fun r => preAt w n (nthR R r).1) (List.range R.length)
        simpa using this
      simp only [List.map_cons, List.map_nil, List.sum_cons, List.sum_nil, Nat.add_zero]
      rw [Nat.succ_mul]
      omega
  exact key w.size
/-- a part of a word replaced -/
def replF (w : ByteArray) (i l : Nat) (by_ : ByteArray) : ByteArray := w.extract 0 i ++ by_ ++ w.extract (i + l) w.size
/-- may it be replaced? -/
def ReplOk (w : ByteArray) (i l : Nat) (by_ : ByteArray) : Prop := i + l ≤ w.size ∧ w.size - l + by_.size ≤ 16
theorem replF_size {w by_ : ByteArray} {i l : Nat} (h : i + l ≤ w.size) : (replF w i l by_).size = w.size - l + by_.size := by
  unfold replF
  simp only [ByteArray.size_append, ByteArray.size_extract]
  omega
theorem extract_lt (v : ByteArray) (i j : Nat) : (v.extract i j).data.toList = (v.data.toList.take j).drop i := by
  rw [ByteArray.data_extract, Array.toList_extract, List.extract_eq_take_drop, List.drop_take]
theorem replF_list (w : ByteArray) (i l : Nat) (by_ : ByteArray) : (replF w i l by_).data.toList = w.data.toList.take i ++ (by_.data.toList ++ w.data.toList.drop (i + l)) := by
  unfold replF
  rw [ByteArray.data_append, ByteArray.data_append, Array.toList_append, Array.toList_append, extract_lt, extract_lt, List.drop_zero, List.append_assoc]
  have h : w.data.toList.length = w.size := rfl
  rw [List.take_of_length_le (Nat.le_of_eq h)]
/-- the word behind a step -/
def applyF (R : List RulD) (w : ByteArray) (s : Nat × Nat) : ByteArray := replF w s.2 (nthR R s.1).1.size (nthR R s.1).2
theorem split_at {w l : ByteArray} {i : Nat} (h : preAt w i l = true) : w.data.toList = w.data.toList.take i ++ (l.data.toList ++ w.data.toList.drop (i + l.size)) := by
  obtain ⟨t, ht⟩ := List.isPrefixOf_iff_prefix.1 h
  have h2 : l.data.toList.length = l.size := rfl
  have h3 : w.data.toList.drop (i + l.size) = t := by
    rw [← List.drop_drop, ← ht, ← h2, List.drop_left]
  rw [h3, ht, List.take_append_drop]
/-- what a word is that a system takes -/
structure WdP (w : ByteArray) : Prop where
  len : w.size ≤ 16
  let4 : LW w.data.toList
theorem wdP_of {k : Int} {w : ByteArray} (h : wordOkB k w = true) : WdP w := by
  unfold wordOkB allB at h
  simp only [Bool.and_eq_true, List.all_eq_true, decide_eq_true_eq] at h
  refine ⟨h.2.1, fun y hy => ?_⟩
  have h1 := inB_bounds h.1
  have h2 := letB_true (h.2.2 y hy)
  omega
theorem lw_of {k : Int} {w : ByteArray} (h : wordOkB k w = true) : LW w.data.toList := (wdP_of h).let4
/-- a step of an ordered system makes a word less -/
theorem step_less {k : Int} {R : List RulD} (hs : sysP k R) {w : ByteArray} {s : Nat × Nat} (hm : s ∈ stepsF R w) : rk (applyF R w s).data.toList < rk w.data.toList := by
  obtain ⟨h1, h2, h3⟩ := mem_stepsF.1 hm
  have hr := nthR_mem h2
  have hp := hs.1.2 _ hr
  have hl := hs.2 _ hr
  unfold applyF
  rw [replF_list]
  conv => rhs; rw [split_at h3]
  exact rk_swap (lw_of hp.1.1.1) (lw_of hp.1.1.2) hl
theorem step_size {k : Int} {R : List RulD} (hs : sysP k R) {w : ByteArray} {s : Nat × Nat} (hm : s ∈ stepsF R w) : (applyF R w s).size ≤ w.size ∧ s.2 + (nthR R s.1).1.size ≤ w.size := by
  obtain ⟨h1, h2, h3⟩ := mem_stepsF.1 hm
  have hr := nthR_mem h2
  have hp := hs.1.2 _ hr
  have hl := hs.2 _ hr
  have hf := preAt_fits h3 (by have := hp.2; omega)
  have hle : (nthR R s.1).2.size ≤ (nthR R s.1).1.size := by
    unfold lessS ltW at hl
    have e1 : (blW (nthR R s.1).1).length = (nthR R s.1).1.size := rfl
    have e2 : (blW (nthR R s.1).2).length = (nthR R s.1).2.size := rfl
    rcases of_decide_eq_true hl with h | ⟨h, _⟩ <;> omega
  refine ⟨?_, hf⟩
  unfold applyF
  rw [replF_size hf]
  omega
/-- letters of the first k -/
def okLt (k : Int) (v : List UInt8) : Prop := ∀ y ∈ v, letB k y = true
theorem wordOk_iff {k : Int} {w : ByteArray} : wordOkB k w = true ↔ (1 ≤ k ∧ k ≤ 4) ∧ w.size ≤ 16 ∧ okLt k w.data.toList := by
  unfold wordOkB allB okLt
  rw [Bool.and_eq_true, Bool.and_eq_true, List.all_eq_true, decide_eq_true_eq]
  have h : inB k 1 4 = true ↔ 1 ≤ k ∧ k ≤ 4 := by simp [inB]
  rw [h]
theorem step_word {k : Int} {R : List RulD} (hs : sysP k R) {w : ByteArray} (hw : wordOkB k w = true) {s : Nat × Nat} (hm : s ∈ stepsF R w) : wordOkB k (applyF R w s) = true := by
  obtain ⟨h1, h2, h3⟩ := mem_stepsF.1 hm
  have hp := hs.1.2 _ (nthR_mem h2)
  obtain ⟨a1, a2, a3⟩ := wordOk_iff.1 hw
  obtain ⟨b1, b2, b3⟩ := wordOk_iff.1 hp.1.1.2
  refine wordOk_iff.2 ⟨a1, Nat.le_trans (step_size hs hm).1 a2, fun y hy => ?_⟩
  unfold applyF at hy
  rw [replF_list] at hy
  rcases List.mem_append.1 hy with hy | hy
  · exact a3 y ((List.take_sublist _ _).subset hy)
  rcases List.mem_append.1 hy with hy | hy
  · exact b3 y hy
  · exact a3 y ((List.drop_sublist _ _).subset hy)
/-- x is what the first steps lead to from w -/
inductive NormIs (R : List RulD) : ByteArray → ByteArray → Prop
  | done {w : ByteArray} : (stepsF R w).head? = none → NormIs R w w
  | step {w x : ByteArray} {s : Nat × Nat} : (stepsF R w).head? = some s → NormIs R (applyF R w s) x → NormIs R w x
theorem NormIs.uniq {R : List RulD} {w x y : ByteArray} (a : NormIs R w x) (b : NormIs R w y) : x = y := by
  induction a with
  | done h =>
    cases b with
    | done => rfl
    | step h' _ => rw [h] at h'; cases h'
  | step h _ ih =>
    cases b with
    | done h' => rw [h] at h'; cases h'
    | step h' b' =>
      rw [h] at h'
      cases h'
      exact ih b'
theorem head_mem {l : List (Nat × Nat)} {s : Nat × Nat} (h : l.head? = some s) : s ∈ l := by
  cases l with
  | nil => cases h
  | cons a l => cases h; exact List.mem_cons_self
theorem NormIs.ex {k : Int} {R : List RulD} (hs : sysP k R) : ∀ (n : Nat) (w : ByteArray), rk w.data.toList < n → wordOkB k w = true → ∃ x, NormIs R w x ∧ wordOkB k x = true
  | 0, w, h, _ => by omega
  | n + 1, w, h, hw => by
    cases hh : (stepsF R w).head? with
    | none => exact ⟨w, .done hh, hw⟩
    | some s =>
      have hm := head_mem hh
      have h1 := step_less hs hm
      obtain ⟨x, hx, hx2⟩ := NormIs.ex hs n (applyF R w s) (by omega) (step_word hs hw hm)
      exact ⟨x, .step hh hx, hx2⟩
theorem NormIs.word {k : Int} {R : List RulD} (hs : sysP k R) {w x : ByteArray} (h : NormIs R w x) (hw : wordOkB k w = true) : wordOkB k x = true := by
  obtain ⟨y, h1, h2⟩ := NormIs.ex hs _ w (Nat.lt_succ_self _) hw
  rw [h.uniq h1]; exact h2
end Go.Proofs.YtdhaebbfiaddnaaGreatDoor
