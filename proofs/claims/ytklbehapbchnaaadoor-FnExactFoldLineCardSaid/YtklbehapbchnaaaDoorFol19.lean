/-
  The numbers of the vertices that are reached, of the program.
-/
import Derived.Test.YtklbehapbchnaaaDoorFol17
import Derived.Test.YtklbehapbchnaaaDoorFol12
import Derived.Test.YtklbehapbchnaaaDoorFol18
import Derived.Deep.QuietTactic
import Derived.BigQuiet
namespace Go.Proofs.YtklbehapbchnaaaDoor
open Go.RowKit Go.Maps Go.WideShapes Go.WideMaps
set_option linter.unusedVariables false
theorem nxE_lt {g x : Nat} {a : Arc3} (h : x < g) : nxE g x a = a.2.1 := if_pos h
theorem nxE_ge {g x : Nat} {a : Arc3} (h : ¬ x < g) : nxE g x a = a.1 := if_neg h
theorem arcV_one' (x : Arc3) : ∀ v ∈ arcV x, v.oneCell' = true := arcV_one x
/-- the order behind the first j arcs -/
def ordJ (g : Nat) (L : List Arc3) (V x : Nat) (ord0 : List Nat) (j : Nat) : List Nat := pushO ord0 (nxA g (L.take j) V x)
theorem ordJ_zero (g : Nat) (L : List Arc3) (V x : Nat) (ord0 : List Nat) : ordJ g L V x ord0 0 = ord0 := by
  unfold ordJ; rw [List.take_zero, nxA_nil]; rfl
theorem ordJ_succ {g : Nat} {L : List Arc3} (h : Det L) {V x : Nat} {ord0 : List Nat} {j : Nat} (hj : j < L.length) : ordJ g L V x ord0 (j + 1) = stepN g V x (ordJ g L V x ord0 j) L[j] := stepN_take h hj
theorem ordJ_all (g : Nat) (L : List Arc3) (V x : Nat) (ord0 : List Nat) : ordJ g L V x ord0 L.length = pushO ord0 (nxA g L V x) := by
  unfold ordJ; rw [List.take_length]
theorem ordJ_len (g : Nat) (L : List Arc3) (V x : Nat) (ord0 : List Nat) (j : Nat) : (ordJ g L V x ord0 j).length ≤ ord0.length + 1 := by
  obtain ⟨t, ht, hl⟩ := pushO_pre ord0 (nxA g (L.take j) V x)
  unfold ordJ
  rw [ht, List.length_append]; omega
/-- the map is a vertex ahead -/
structure NuT (w wr : World) (b : Nat) (v6 : Value) (g7 c7 : Nat) (ord : List Nat) (u : Nat) (tr : List Arc3) (D : DataW Unit) : Prop where
  own : OwnN wr b (ord.length + 1) D
  num : NumD (ord ++ [u]) D
  bge : w.heap.size ≤ b
  row : Bld 3 1 w wr (.slice (some ⟨g7, 0, none⟩) ord.length c7) ord.length (ordV ord)
  tree : Bld 66 3 w wr v6 tr.length (arcC tr)
theorem NuS.step1 {w wr w5 : World} {b g7 c7 u : Nat} {v6 : Value} {ord : List Nat} {tr : List Arc3} {D : DataW Unit} (h : NuS w wr b v6 g7 c7 ord tr D) (hu : u ∉ ord) (ho : OwnN w5 b (ord.length + 1) (D.put (keyN u) (.lit (.int .i64 ((ord.length : Nat) : Int))))) (hg : wr.grownBy w5 (some b)) :
    NuT w w5 b v6 g7 c7 ord u tr (D.put (keyN u) (.lit (.int .i64 ((ord.length : Nat) : Int)))) :=
  ⟨ho, h.num.put hu, h.bge, bld_kept h.row hg (fun k hk e => row_ne_map h.row.1 h.own (hk.trans e.symm)) (fun k hk => by cases hk; exact h.bge), bld_kept h.tree hg (fun k hk e => row_ne_map h.tree.1 h.own (hk.trans e.symm)) (fun k hk => by cases hk; exact h.bge)⟩
theorem NuT.step2 {w wr w' : World} {b g7 c7 g8 c8 u : Nat} {v6 : Value} {ord : List Nat} {tr : List Arc3} {D : DataW Unit} {T : TypeId} (h : NuT w wr b v6 g7 c7 ord u tr D) (hb : Bld 3 1 w w' (.slice (some ⟨g8, 0, none⟩) (ord.length + 1) c8) (ord.length + 1) (ordV ord ++ [.int .i64 ((u : Nat) : Int)])) (hg : (wr.alloc (.cells #[.int .i64 ((u : Nat) : Int)] T)).grownBy w' (some g7)) : NuS w w' b v6 g8 c8 (ord ++ [u]) tr D := by
  have hal : Below wr.heap.size wr (wr.alloc (.cells #[.int .i64 ((u : Nat) : Int)] T)) := alloc_belT _ _
  have hl : (ord ++ [u]).length = ord.length + 1 := by simp
  refine ⟨?_, h.num, h.bge, ?_, ?_⟩
  · rw [hl]
    exact (h.own.kept (belowGrownN hal) (by simp)).kept hg (fun e => row_ne_map h.row.1 h.own (by rw [e]; rfl))
  · rw [hl, ordV_app]; exact hb
  · exact bld_kept (h.tree.later hal) hg (fun k hk e => rows_ne h.tree.1 h.row.1 tInt_ne_arc.symm k hk (by simpa [Value.ownBlock] using e)) (fun k hk => by cases hk; exact (h.row.1.lt g7 rfl).1)
theorem NuS.step3 {w wr w' : World} {b g7 c7 : Nat} {v6 v9 : Value} {ord : List Nat} {tr : List Arc3} {D : DataW Unit} {T : TypeId} (h : NuS w wr b v6 g7 c7 ord tr D) (a : Arc3) {cs : Array Value} (hb : Bld 66 3 w w' v9 (tr.length + 1) (arcC tr ++ arcV a)) (hg : (wr.alloc (.cells cs T)).grownBy w' v6.ownBlock) : NuS w w' b v9 g7 c7 ord (tr ++ [a]) D := by
  have hal : Below wr.heap.size wr (wr.alloc (.cells cs T)) := alloc_belT _ _
  refine ⟨?_, h.num, h.bge, ?_, ?_⟩
  · exact (h.own.kept (belowGrownN hal) (by simp)).kept hg (fun e => row_ne_map h.tree.1 h.own e.symm)
  · exact bld_kept (h.row.later hal) hg (fun k hk e => rows_ne h.row.1 h.tree.1 tInt_ne_arc k hk e) (fun k hk => (h.tree.1.lt k hk).1)
  · rw [arcC_app, List.length_append]; exact hb
def RetNu (g : Nat) (L : List Arc3) (w : World) (e : Ending) (w' : World) : Prop := ∃ b v ord k D, e = .returned (.tuple #[.map (some b), v]) ∧ OwnN w' b ord.length D ∧ NumD ord D ∧ w.heap.size ≤ b ∧ Bfs g L ord k 0 ∧ ¬ k < ord.length ∧ Below w.heap.size w w'
set_option maxRecDepth 100000 in
set_option maxHeartbeats 8000000 in
theorem numbering_any (g n0 : Nat) (L : List Arc3) (av : Option Addr) (cap n : Nat) (w : World) (hL : ArcsIn w av L) (hl : L.length ≤ 200) (hg1 : 1 ≤ g) (hg2 : g ≤ 2) (hn1 : 1 ≤ n) (hn : n ≤ 1000) (hBn : ∀ a ∈ L, a.1 < n ∧ a.2.1 < n) (hDt : Det L) :
    Calls Tryd.prog 49 #[.agg #[.int .i64 (g : Nat), .int .i64 (n0 : Nat), .slice av L.length cap]] w (RetNu g L w) := by
  have HB1 := Lib.hid (alloc_belT w (.cells #[.int .i64 ((g : Nat) : Int), .int .i64 ((n0 : Nat) : Int), .slice av L.length cap] 48))
  have HF1 := Lib.hid (alloc_at w (.cells #[.int .i64 ((g : Nat) : Int), .int .i64 ((n0 : Nat) : Int), .slice av L.length cap] 48))
  have HL1 : Hid (ArcsIn (w.alloc (.cells #[.int .i64 ((g : Nat) : Int), .int .i64 ((n0 : Nat) : Int), .slice av L.length cap] 48)) av L) := Lib.hid (RowsIn.later hL HB1.out)
  have HLN : Hid (∀ ord k x, Bfs g L ord k x → 1 ≤ ord.length ∧ ord.length ≤ n) := Lib.hid (fun ord k x h => ord_len h hn1 hBn)
  have HBN := Lib.hid hBn
  have HDT := Lib.hid hDt
  have hmm := @run_makeMap Tryd.prog
  have HB0 : Hid (Bfs g L [0] 0 0) := Lib.hid (Bfs.start g L)
  clear hL hBn hDt
  go_enter Tryd.func49, Tryd.ntmps49
  go_upto_region 1 with fail
  generalize hW1 : w.alloc (.cells #[.int .i64 ((g : Nat) : Int), .int .i64 ((n0 : Nat) : Int), .slice av L.length cap] 48) = w1 at *
  clear hW1
  have HFX : Hid (∀ W, Below w1.heap.size w1 W → W.cell? ⟨w.heap.size, 0, none⟩ = some (.int .i64 ((g : Nat) : Int)) ∧ W.cell? ⟨w.heap.size, 2, none⟩ = some (.slice av L.length cap)) := Lib.hid (fun W hW => by
    obtain ⟨h0, _, h2, _⟩ := fold_cells ((hW.block w.heap.size (Array.getElem?_eq_some_iff.1 HF1.out).1).trans HF1.out)
    exact ⟨h0, h2⟩)
  have hkey0 := keyOkN (x := 0) (by omega)
  have hpl0 := plainElem_int (H := Unit) Tryd.underlying3 (wfNat (x := 0) (by omega))
  go_wp2_with (first
    | (refine wpList_insert_num _ rfl _ _ _ 76 rfl 3 3 keyedN Tryd.underlying76 (plainElem (H := Unit) Tryd.prog 3) w1.heap.size 0 (.map []) rfl (World.ownsMap_made _ _ _ _) (by decide) _ _ _ rfl rfl hkey0 _ [] hpl0 ?_; intro w2 hown2 hgrow2)
    | fail)
  have HB2 : Hid (Below w1.heap.size w1 w2) := Lib.hid (((Below.refl w1.heap.size w1).alloc (Nat.le_refl _) (.map #[] 0)).grown hgrow2 (by simp) (fun j hj => by cases hj; exact Nat.le_refl _))
  have HR3 := Lib.hid ((bld_lit1 w2 (.int .i64 0)).since HB2.out)
  have HN3 : Hid (NuS w1 (w2.alloc (.cells #[.int .i64 0] 3)) w1.heap.size (.slice none 0 0) w2.heap.size 1 [0] [] ((DataW.map []).put (keyN 0) (.lit (.int .i64 0)))) := Lib.hid ⟨World.ownsMap.kept hown2 (belowGrownN (alloc_belT _ _)) (by simp), by
    have h := NumD.start.put (u := 0) (by simp)
    exact h, Nat.le_refl _, HR3.out, Bld.nil _ _ HR3.out.2⟩
  clear hown2 hgrow2 hkey0 hpl0 hmm HR3
  go_wp2_with fail
  have hbz : w1.heap.size = w1.heap.size := rfl
  obtain ⟨b, hb⟩ : ∃ b, w1.heap.size = b := ⟨_, rfl⟩
  have HBE1 := Lib.hid hb
  have HN3' := HN3
  clear HN3
  have HN3 := HN3'
  clear HN3' hbz
  rw [hb] at HN3 ⊢
  clear hb
  go_loopw [5, 6, 7] (fun v5 v6 v7 wr => ∃ (k : Nat) (ord : List Nat) (g7 c7 : Nat) (tr : List Arc3) (D : DataW Unit), k ≤ ord.length ∧ v7 = .int .i64 (k : Nat) ∧ v5 = .slice (some ⟨g7, 0, none⟩) ord.length c7 ∧ Hid (Bfs g L ord k 0) ∧ tr.length + 1 ≤ ord.length ∧ Hid (NuS w1 wr b v6 g7 c7 ord tr D)) (fun _ _ v7 _ => n + 1 - (intOf v7).toNat)
  case atStart => exact ⟨0, [0], _, 1, [], _, Nat.zero_le _, rfl, rfl, HB0, Nat.le_refl _, HN3⟩
  case round =>
    clear HB0 HN3
    obtain ⟨k, ord, g7, c7, tr, D, hk, rfl, rfl, HBF, htl, HNS⟩ := hrel
    obtain ⟨hl1, hl2⟩ := HLN.out _ _ _ HBF.out
    by_cases hkl : k < ord.length
    · obtain ⟨z0, z2⟩ := HFX.out _ HNS.out.below
      go_wp2_with fail
      generalize hW : wr = wr0 at *
      clear hW
      go_loopw [5, 6, 27] (fun v5 v6 v27 wr => ∃ (x : Nat) (ord : List Nat) (g7 c7 : Nat) (tr : List Arc3) (D : DataW Unit), x ≤ 2 * g ∧ k < ord.length ∧ v27 = .int .i64 (x : Nat) ∧ v5 = .slice (some ⟨g7, 0, none⟩) ord.length c7 ∧ Hid (Bfs g L ord k x) ∧ tr.length + 1 ≤ ord.length ∧ Hid (NuS w1 wr b v6 g7 c7 ord tr D)) (fun _ _ v27 _ => 2 * g - (intOf v27).toNat)
      case atStart => exact ⟨0, ord, g7, c7, tr, D, Nat.zero_le _, hkl, rfl, rfl, HBF, htl, HNS⟩
      case round =>
        clear HBF HNS hl1 hl2 hkl z0 z2 htl hk
        obtain ⟨x, ord0, g7, c7, tr, D, hx, hkl, rfl, rfl, HBF, htl, HNS⟩ := hrel
        obtain ⟨hl1, hl2⟩ := HLN.out _ _ _ HBF.out
        by_cases hxg2 : x < 2 * g
        · have hxi : (x : Int) < 2 * (g : Int) := by omega
          obtain ⟨z0, z2⟩ := HFX.out _ HNS.out.below
          obtain ⟨V, hV⟩ : ∃ V, ord0.getD k 0 = V := ⟨_, rfl⟩
          have HST0 := Lib.hid (HBF.out.step hkl hxg2)
          rw [hV] at HST0
          have HGV0 : Hid (ord0.getD k 0 = V) := Lib.hid hV
          have HJ0 : Hid (ord0 = ordJ g L V x ord0 0) := Lib.hid (ordJ_zero g L V x ord0).symm
          have HOL := Lib.hid (ordJ_len g L V x ord0)
          clear hV
          go_wp2_with fail
          generalize hW : wr = wr1 at *
          clear hW
          go_loopw [5, 6, 33] (fun v5 v6 v33 wr => ∃ (j : Nat) (ord : List Nat) (g7 c7 : Nat) (tr : List Arc3) (D : DataW Unit), j ≤ L.length ∧ v33 = .int .i64 (j : Nat) ∧ v5 = .slice (some ⟨g7, 0, none⟩) ord.length c7 ∧ Hid (ord = ordJ g L V x ord0 j) ∧ k < ord.length ∧ Hid (ord.getD k 0 = V) ∧ tr.length + 1 ≤ ord.length ∧ Hid (NuS w1 wr b v6 g7 c7 ord tr D)) (fun _ _ v33 _ => L.length - (intOf v33).toNat)
          case atStart => exact ⟨0, ord0, g7, c7, tr, D, Nat.zero_le _, rfl, rfl, HJ0, hkl, HGV0, htl, HNS⟩
          case round =>
            clear HNS HJ0 HGV0 htl hkl z0 z2
            obtain ⟨j, ord, g7, c7, tr, D, hj, rfl, rfl, HJ, hkl, HGV, htl, HNS⟩ := hrel
            have hol : ord.length ≤ ord0.length + 1 := by rw [HJ.out]; exact HOL.out j
            by_cases hjl : j < L.length
            · obtain ⟨b0, off, rfl, hb0, hc⟩ := arc_cells (RowsIn.later HL1.out HNS.out.below) hjl
              obtain ⟨c0, c1, c2⟩ := hc j hjl
              have hjj : (j : Int) < (L.length : Int) := by omega
              have hki : (k : Int) < (ord.length : Int) := by omega
              have HST := Lib.hid (ordJ_succ (g := g) HDT.out (V := V) (x := x) (ord0 := ord0) hjl)
              have HRG := Lib.hid (HBN.out L[j] (List.getElem_mem hjl))
              obtain ⟨⟨a1, a2, a3⟩, hfj⟩ : ∃ y, L[j] = y := ⟨_, rfl⟩
              rw [hfj] at c0 c1 c2 HST HRG
              rw [← HJ.out] at HST
              have HBX0 := Lib.hid (BoxA.new wr (a1, a2, a3))
              have hal := alloc_belT wr (.cells #[.int .i64 ((a1 : Nat) : Int), .int .i64 ((a2 : Nat) : Int), .int .i64 ((a3 : Nat) : Int)] 66)
              have HNB := Lib.hid (HNS.out.later hal)
              have HLT : Hid (b < wr.heap.size ∧ g7 < wr.heap.size ∧ ∀ q, u6.ownBlock = some q → q < wr.heap.size) := Lib.hid ⟨HNS.out.own.lt, (HNS.out.row.1.lt g7 rfl).2, fun q hq => (HNS.out.tree.1.lt q hq).2⟩
              have HKC0 := Lib.hid (ord_cell HNB.out.row hkl)
              rw [HGV.out] at HKC0
              have HBX := HBX0
              have hgz : ¬ (g : Int) = 0 := by omega
              have hgz2 : ¬ g = 0 := by omega
              have htm : ((x : Int).tmod (g : Int)) = ((x % g : Nat) : Int) := by rw [Int.ofNat_tmod]
              have hwl : IntKind.i64.wrap ((x % g : Nat) : Int) = ((x % g : Nat) : Int) := IntWalk.i64_in _ ⟨by omega, by have := Nat.mod_lt x (show 0 < g by omega); omega⟩
              obtain ⟨l, hl⟩ : ∃ l, x % g = l := ⟨_, rfl⟩
              rw [hl] at htm hwl
              have HLX := Lib.hid hl
              have ha1 : a1 < n := HRG.out.1
              have ha2 : a2 < n := HRG.out.2
              clear hc hfj hb0 hal HBX0 hl HRG
              obtain ⟨z0, z2⟩ := HFX.out _ HNS.out.below
              go_upto_region 13 with fail
              generalize hBa : wr.heap.size = Ba at *
              generalize wr.alloc (.cells #[.int .i64 ((a1 : Nat) : Int), .int .i64 ((a2 : Nat) : Int), .int .i64 ((a3 : Nat) : Int)] 66) = wb at *
              clear c0 c1 c2 z0 z2 hBa
              have HKC : Hid (∀ W, Below wb.heap.size wb W → W.cell? ⟨g7, k, none⟩ = some (.int .i64 ((V : Nat) : Int))) := Lib.hid (fun W hW => (hW.cell (p := ⟨g7, k, none⟩) (HNB.out.row.1.lt g7 rfl).2).trans HKC0.out)
              obtain ⟨y0, y1, y2⟩ := HBX.out.2
              simp only [] at y0 y1 y2
              obtain ⟨z0, z2⟩ := HFX.out _ HNB.out.below
              have hkc := HKC0.out
              by_cases hxg : x < g
              · by_cases hev : a1 = V
                · have hgx1 : decide (x < g) = true := decide_eq_true hxg
                  have hgx2 : decide (g ≤ x) = false := decide_eq_false (by omega)
                  have hgx3 : (x : Int) < (g : Int) := by omega
                  have hgx4 : ¬ (g : Int) ≤ (x : Int) := by omega
                  have k1 : (((a1 : Nat) : Int) == ((V : Nat) : Int)) = true := by rw [beq_iff_eq]; omega
                  have HEV := Lib.hid hev
                  clear hev
                  go_upto_region 16 with fail
                  go_quiet (fail)
                  have hbc : Below wb.heap.size wb (wb.drewN nq) := below_drewN (Below.refl _ _) nq
                  generalize wb.drewN nq = we at *
                  have HBE := Lib.hid hbc
                  clear hbc y0 y1 y2 z0 z2 hkc
                  have HN_we := Lib.hid (HNB.out.later HBE.out)
                  obtain ⟨y0, y1, y2⟩ := (HBX.out.later HBE.out).2
                  simp only [] at y0 y1 y2
                  obtain ⟨z0, z2⟩ := HFX.out _ (HN_we.out.below)
                  have hkc := HKC.out _ HBE.out
                  obtain ⟨bk, hbk⟩ : ∃ bk, Maps.has D (keyN a2) = bk := ⟨_, rfl⟩
                  have HBK := Lib.hid hbk
                  clear hbk
                  have hkeyL := keyOkN (show a2 ≤ 100000 by omega)
                  go_wp2_with (first
                    | (at_lookup; refine wpList_lookup_own_ok_int _ rfl _ _ 76 rfl 3 3 .i64 keyedN Tryd.underlying76 Tryd.underlying3 (zeroIntN _) b _ D rfl HN_we.out.own _ _ rfl hkeyL ?_; rw [HBK.out]; intro c1 hat1 hwc1; clear hat1 hwc1)
                    | fail)
                  clear hkeyL
                  by_cases h3 : a3 = l
                  · have k3 : (((a3 : Nat) : Int) != ((l : Nat) : Int)) = false := by rw [bne_eq_false_iff_eq]; omega
                    have H3 := Lib.hid h3
                    clear h3
                    cases bk
                    · have HNI : Hid (a2 ∉ ord) := Lib.hid (fun h => by have := HN_we.out.num.has.2 h; rw [HBK.out] at this; cases this)
                      have HJF : Hid (ord ++ [a2] = ordJ g L V x ord0 (j + 1)) := Lib.hid (by
                        rw [HST.out]; unfold stepN
                        rw [if_pos (by
                          refine ⟨?_, ?_⟩
                          · unfold nxP; rw [if_pos hxg]; rw [HLX.out]; simp only []; rw [H3.out, HEV.out]; simp
                          · rw [nxE_lt hxg]; exact HNI.out)]
                        rw [nxE_lt hxg])
                      go_quiet (fail)
                      have HBG := Lib.hid (below_drewN (Below.refl we.heap.size we) nq)
                      generalize we.drewN nq = wg at *
                      have HBH := Lib.hid (Below.now HBE.out HBG.out)
                      clear y0 y1 y2 z0 z2 hkc
                      have HN_wg := Lib.hid (HNB.out.later HBH.out)
                      obtain ⟨y0, y1, y2⟩ := (HBX.out.later HBH.out).2
                      simp only [] at y0 y1 y2
                      obtain ⟨z0, z2⟩ := HFX.out _ (HN_wg.out.below)
                      have hkc := HKC.out _ HBH.out
                      have HBA6 := Lib.hid (HBX.out.later HBH.out)
                      have HBLT := HLT
                      have hkey := keyOkN (show a2 ≤ 100000 by omega)
                      have hmx : ord.length < maxLen := by unfold maxLen; omega
                      have hpl := plainElem_int (H := Unit) Tryd.underlying3 (wfNat (show ord.length ≤ 100000 by omega))
                      go_upto_region 20 with (first
                        | (at_mapUpdate; (refine wpList_mapUpdate_own _ rfl _ _ _ 76 rfl 3 3 keyedN Tryd.underlying76 (plainElem (H := Unit) Tryd.prog 3) b _ D rfl HN_wg.out.own hmx _ _ _ rfl rfl hkey _ [] hpl ?_); intro w5 hown5 hgr5)
                        | fail)
                      have HS5 := Lib.hid (HN_wg.out.step1 HNI.out hown5 hgr5)
                      have HBA5 := Lib.hid (HBA6.out.grown hgr5 (fun e => by have := HBLT.out.1; have := Option.some.inj e; omega))
                      clear hown5 hgr5 hkey hmx hpl y0 y1 y2 z0 z2 hkc
                      have HV := Lib.hid (HS5.out.row.later (alloc_belT w5 (.cells #[.int .i64 ((a2 : Nat) : Int)] 3)))
                      have N1 : Hid ([Value.int .i64 ((a2 : Nat) : Int)].length = 1 * 1) := Lib.hid rfl
                      have N2 : Hid (∀ q ∈ [Value.int .i64 ((a2 : Nat) : Int)], q.oneCell' = true) := Lib.hid (fun q hq => by rw [List.mem_singleton.1 hq]; rfl)
                      have N3 : Hid (ord.length + 1 ≤ maxLen) := Lib.hid (by unfold maxLen; omega)
                      have N4 : Hid ((ord.length + 1) * 8 ≤ 140737488355328) := Lib.hid (by omega)
                      go_wp2_with (at_builtin; refine wpList_appM rfl (.tmp 97) (.tmp 99) rfl Tryd.underlying63 Tryd.infoInt rfl (by decide) rfl HV.out rfl (Src.lit _) N1.out N2.out N3.out N4.out ?_)
                      intro v7 w7 hb7 hg7 ho7
                      have HBA7 := Lib.hid ((HBA5.out.later (alloc_belT w5 (.cells #[.int .i64 ((a2 : Nat) : Int)] 3))).grown hg7 (fun e => by have e2 : some g7 = some Ba := e; have h1 := HBLT.out.2.1; have h2 := Option.some.inj e2; omega))
                      obtain ⟨g8, c8, rfl⟩ := owns_slot hb7.1 (by omega)
                      have HS7 := Lib.hid (HS5.out.step2 hb7 hg7)
                      clear hb7 hg7 ho7 HV N1 N2 N3 N4
                      obtain ⟨y0, y1, y2⟩ := HBA7.out.2
                      simp only [] at y0 y1 y2
                      have HW := Lib.hid (HS7.out.tree.later (alloc_belT w7 (.cells #[.int .i64 ((a1 : Nat) : Int), .int .i64 ((a2 : Nat) : Int), .int .i64 ((a3 : Nat) : Int)] 66)))
                      have M1 : Hid ([Value.int .i64 ((a1 : Nat) : Int), .int .i64 ((a2 : Nat) : Int), .int .i64 ((a3 : Nat) : Int)].length = 1 * 3) := Lib.hid rfl
                      have M2 : Hid (∀ q ∈ [Value.int .i64 ((a1 : Nat) : Int), .int .i64 ((a2 : Nat) : Int), .int .i64 ((a3 : Nat) : Int)], q.oneCell' = true) := Lib.hid (arcV_one' (a1, a2, a3))
                      have M3 : Hid (tr.length + 1 ≤ maxLen) := Lib.hid (by unfold maxLen; omega)
                      have M4 : Hid ((tr.length + 1) * 24 ≤ 140737488355328) := Lib.hid (by omega)
                      go_wp2_with (at_builtin; (refine wpList_appM rfl (.tmp 101) (.tmp 103) rfl Tryd.underlying46 Tryd.infoArc rfl (by decide) rfl HW.out rfl (Src.lit _) M1.out M2.out M3.out M4.out ?_))
                      intro v9 w9 hb9 hg9 ho9
                      have HS9 := Lib.hid (HS7.out.step3 (a1, a2, a3) hb9 hg9)
                      have htl9 : (tr ++ [(a1, a2, a3)]).length + 1 ≤ (ord ++ [a2]).length := by simp; omega
                      have hkl9 : k < (ord ++ [a2]).length := by simp; omega
                      have HGV9 : Hid ((ord ++ [a2]).getD k 0 = V) := Lib.hid (by rw [getD_app hkl]; exact HGV.out)
                      have hsl : ∃ g c, v9 = .slice (some ⟨g, 0, none⟩) (tr.length + 1) c := by
                        rcases hb9.1.2 with ⟨_, h1⟩ | ⟨g, cap', cur, hv, _⟩
                        · omega
                        · exact ⟨g, cap', hv⟩
                      obtain ⟨g9, c9, rfl⟩ := hsl
                      have HLN9 : Hid (ord.length + 1 = (ord ++ [a2]).length) := Lib.hid (by simp)
                      clear hb9 hg9 ho9 HW M1 M2 M3 M4 y0 y1 y2
                      go_wp2_with fail
                      go_roundw
                      case rel => exact ⟨j + 1, ord ++ [a2], g8, c8, tr ++ [(a1, a2, a3)], _, by omega, by go_num, by rw [HLN9.out], HJF, hkl9, HGV9, htl9, HS9⟩
                      case measure => simp [intOf]; omega
                    · have HKM : Hid (a2 ∈ ord) := Lib.hid (HN_we.out.num.has.1 HBK.out)
                      go_quiet (fail)
                      have HNF := Lib.hid (HN_we.out.later (below_drewN (Below.refl _ _) nq))
                      have HJF : Hid (ord = ordJ g L V x ord0 (j + 1)) := Lib.hid (by rw [HST.out]; unfold stepN; rw [if_neg (fun h => h.2 (by have h4 := HKM.out; rw [nxE_lt hxg]; exact h4))])
                      clear y0 y1 y2 z0 z2 hkc
                      go_wp2_with fail
                      go_roundw
                      case rel => exact ⟨j + 1, ord, g7, c7, tr, D, by omega, by go_num, rfl, HJF, hkl, HGV, htl, HNF⟩
                      case measure => simp [intOf]; omega
                  · have k3 : (((a3 : Nat) : Int) != ((l : Nat) : Int)) = true := by rw [bne_iff_ne]; omega
                    have H3 := Lib.hid h3
                    clear h3
                    have HNB2 : Hid (nxP g V x (a1, a2, a3) = false) := Lib.hid (by unfold nxP; rw [HLX.out, beq_eq_false_iff_ne.2 H3.out]; rfl)
                    go_quiet (fail)
                    have HNF := Lib.hid (HN_we.out.later (below_drewN (Below.refl _ _) nq))
                    have HJF : Hid (ord = ordJ g L V x ord0 (j + 1)) := Lib.hid (by rw [HST.out]; unfold stepN; rw [if_neg (fun h => by rw [HNB2.out] at h; cases h.1)])
                    clear y0 y1 y2 z0 z2 hkc
                    go_wp2_with fail
                    go_roundw
                    case rel => exact ⟨j + 1, ord, g7, c7, tr, D, by omega, by go_num, rfl, HJF, hkl, HGV, htl, HNF⟩
                    case measure => simp [intOf]; omega
                · have hgx1 : decide (x < g) = true := decide_eq_true hxg
                  have hgx2 : decide (g ≤ x) = false := decide_eq_false (by omega)
                  have hgx3 : (x : Int) < (g : Int) := by omega
                  have hgx4 : ¬ (g : Int) ≤ (x : Int) := by omega
                  have k1 : (((a1 : Nat) : Int) == ((V : Nat) : Int)) = false := by rw [beq_eq_false_iff_ne]; omega
                  have HEV := Lib.hid hev
                  clear hev
                  go_upto_region 16 with fail
                  go_quiet (fail)
                  have hbc : Below wb.heap.size wb (wb.drewN nq) := below_drewN (Below.refl _ _) nq
                  generalize wb.drewN nq = we at *
                  have HBE := Lib.hid hbc
                  clear hbc y0 y1 y2 z0 z2 hkc
                  have HN_we := Lib.hid (HNB.out.later HBE.out)
                  obtain ⟨y0, y1, y2⟩ := (HBX.out.later HBE.out).2
                  simp only [] at y0 y1 y2
                  obtain ⟨z0, z2⟩ := HFX.out _ (HN_we.out.below)
                  have hkc := HKC.out _ HBE.out
                  obtain ⟨bk, hbk⟩ : ∃ bk, Maps.has D (keyN a2) = bk := ⟨_, rfl⟩
                  have HBK := Lib.hid hbk
                  clear hbk
                  have hkeyL := keyOkN (show a2 ≤ 100000 by omega)
                  go_wp2_with (first
                    | (at_lookup; refine wpList_lookup_own_ok_int _ rfl _ _ 76 rfl 3 3 .i64 keyedN Tryd.underlying76 Tryd.underlying3 (zeroIntN _) b _ D rfl HN_we.out.own _ _ rfl hkeyL ?_; rw [HBK.out]; intro c1 hat1 hwc1; clear hat1 hwc1)
                    | fail)
                  clear hkeyL
                  by_cases h3 : a3 = l
                  · have k3 : (((a3 : Nat) : Int) != ((l : Nat) : Int)) = false := by rw [bne_eq_false_iff_eq]; omega
                    have H3 := Lib.hid h3
                    clear h3
                    have HNB2 : Hid (nxP g V x (a1, a2, a3) = false) := Lib.hid (by unfold nxP; rw [if_pos hxg]; simp only []; rw [beq_eq_false_iff_ne.2 HEV.out]; simp)
                    go_quiet (fail)
                    have HNF := Lib.hid (HN_we.out.later (below_drewN (Below.refl _ _) nq))
                    have HJF : Hid (ord = ordJ g L V x ord0 (j + 1)) := Lib.hid (by rw [HST.out]; unfold stepN; rw [if_neg (fun h => by rw [HNB2.out] at h; cases h.1)])
                    clear y0 y1 y2 z0 z2 hkc
                    go_wp2_with fail
                    go_roundw
                    case rel => exact ⟨j + 1, ord, g7, c7, tr, D, by omega, by go_num, rfl, HJF, hkl, HGV, htl, HNF⟩
                    case measure => simp [intOf]; omega
                  · have k3 : (((a3 : Nat) : Int) != ((l : Nat) : Int)) = true := by rw [bne_iff_ne]; omega
                    have H3 := Lib.hid h3
                    clear h3
                    have HNB2 : Hid (nxP g V x (a1, a2, a3) = false) := Lib.hid (by unfold nxP; rw [HLX.out, beq_eq_false_iff_ne.2 H3.out]; rfl)
                    go_quiet (fail)
                    have HNF := Lib.hid (HN_we.out.later (below_drewN (Below.refl _ _) nq))
                    have HJF : Hid (ord = ordJ g L V x ord0 (j + 1)) := Lib.hid (by rw [HST.out]; unfold stepN; rw [if_neg (fun h => by rw [HNB2.out] at h; cases h.1)])
                    clear y0 y1 y2 z0 z2 hkc
                    go_wp2_with fail
                    go_roundw
                    case rel => exact ⟨j + 1, ord, g7, c7, tr, D, by omega, by go_num, rfl, HJF, hkl, HGV, htl, HNF⟩
                    case measure => simp [intOf]; omega
              · by_cases hev : a2 = V
                · have hgx1 : decide (x < g) = false := decide_eq_false hxg
                  have hgx2 : decide (g ≤ x) = true := decide_eq_true (by omega)
                  have hgx3 : ¬ (x : Int) < (g : Int) := by omega
                  have hgx4 : (g : Int) ≤ (x : Int) := by omega
                  have k1 : (((a2 : Nat) : Int) == ((V : Nat) : Int)) = true := by rw [beq_iff_eq]; omega
                  have HEV := Lib.hid hev
                  clear hev
                  go_upto_region 16 with fail
                  go_quiet (fail)
                  have hbc : Below wb.heap.size wb (wb.drewN nq) := below_drewN (Below.refl _ _) nq
                  generalize wb.drewN nq = we at *
                  have HBE := Lib.hid hbc
                  clear hbc y0 y1 y2 z0 z2 hkc
                  have HN_we := Lib.hid (HNB.out.later HBE.out)
                  obtain ⟨y0, y1, y2⟩ := (HBX.out.later HBE.out).2
                  simp only [] at y0 y1 y2
                  obtain ⟨z0, z2⟩ := HFX.out _ (HN_we.out.below)
                  have hkc := HKC.out _ HBE.out
                  obtain ⟨bk, hbk⟩ : ∃ bk, Maps.has D (keyN a1) = bk := ⟨_, rfl⟩
                  have HBK := Lib.hid hbk
                  clear hbk
                  have hkeyL := keyOkN (show a1 ≤ 100000 by omega)
                  go_wp2_with (first
                    | (at_lookup; refine wpList_lookup_own_ok_int _ rfl _ _ 76 rfl 3 3 .i64 keyedN Tryd.underlying76 Tryd.underlying3 (zeroIntN _) b _ D rfl HN_we.out.own _ _ rfl hkeyL ?_; rw [HBK.out]; intro c1 hat1 hwc1; clear hat1 hwc1)
                    | fail)
                  clear hkeyL
                  by_cases h3 : a3 = l
                  · have k3 : (((a3 : Nat) : Int) != ((l : Nat) : Int)) = false := by rw [bne_eq_false_iff_eq]; omega
                    have H3 := Lib.hid h3
                    clear h3
                    cases bk
                    · have HNI : Hid (a1 ∉ ord) := Lib.hid (fun h => by have := HN_we.out.num.has.2 h; rw [HBK.out] at this; cases this)
                      have HJF : Hid (ord ++ [a1] = ordJ g L V x ord0 (j + 1)) := Lib.hid (by
                        rw [HST.out]; unfold stepN
                        rw [if_pos (by
                          refine ⟨?_, ?_⟩
                          · unfold nxP; rw [if_neg hxg]; rw [HLX.out]; simp only []; rw [H3.out, HEV.out]; simp
                          · rw [nxE_ge hxg]; exact HNI.out)]
                        rw [nxE_ge hxg])
                      go_quiet (fail)
                      have HBG := Lib.hid (below_drewN (Below.refl we.heap.size we) nq)
                      generalize we.drewN nq = wg at *
                      have HBH := Lib.hid (Below.now HBE.out HBG.out)
                      clear y0 y1 y2 z0 z2 hkc
                      have HN_wg := Lib.hid (HNB.out.later HBH.out)
                      obtain ⟨y0, y1, y2⟩ := (HBX.out.later HBH.out).2
                      simp only [] at y0 y1 y2
                      obtain ⟨z0, z2⟩ := HFX.out _ (HN_wg.out.below)
                      have hkc := HKC.out _ HBH.out
                      have HBA6 := Lib.hid (HBX.out.later HBH.out)
                      have HBLT := HLT
                      have hkey := keyOkN (show a1 ≤ 100000 by omega)
                      have hmx : ord.length < maxLen := by unfold maxLen; omega
                      have hpl := plainElem_int (H := Unit) Tryd.underlying3 (wfNat (show ord.length ≤ 100000 by omega))
                      go_upto_region 20 with (first
                        | (at_mapUpdate; (refine wpList_mapUpdate_own _ rfl _ _ _ 76 rfl 3 3 keyedN Tryd.underlying76 (plainElem (H := Unit) Tryd.prog 3) b _ D rfl HN_wg.out.own hmx _ _ _ rfl rfl hkey _ [] hpl ?_); intro w5 hown5 hgr5)
                        | fail)
                      have HS5 := Lib.hid (HN_wg.out.step1 HNI.out hown5 hgr5)
                      have HBA5 := Lib.hid (HBA6.out.grown hgr5 (fun e => by have := HBLT.out.1; have := Option.some.inj e; omega))
                      clear hown5 hgr5 hkey hmx hpl y0 y1 y2 z0 z2 hkc
                      have HV := Lib.hid (HS5.out.row.later (alloc_belT w5 (.cells #[.int .i64 ((a1 : Nat) : Int)] 3)))
                      have N1 : Hid ([Value.int .i64 ((a1 : Nat) : Int)].length = 1 * 1) := Lib.hid rfl
                      have N2 : Hid (∀ q ∈ [Value.int .i64 ((a1 : Nat) : Int)], q.oneCell' = true) := Lib.hid (fun q hq => by rw [List.mem_singleton.1 hq]; rfl)
                      have N3 : Hid (ord.length + 1 ≤ maxLen) := Lib.hid (by unfold maxLen; omega)
                      have N4 : Hid ((ord.length + 1) * 8 ≤ 140737488355328) := Lib.hid (by omega)
                      go_wp2_with (at_builtin; refine wpList_appM rfl (.tmp 97) (.tmp 99) rfl Tryd.underlying63 Tryd.infoInt rfl (by decide) rfl HV.out rfl (Src.lit _) N1.out N2.out N3.out N4.out ?_)
                      intro v7 w7 hb7 hg7 ho7
                      have HBA7 := Lib.hid ((HBA5.out.later (alloc_belT w5 (.cells #[.int .i64 ((a1 : Nat) : Int)] 3))).grown hg7 (fun e => by have e2 : some g7 = some Ba := e; have h1 := HBLT.out.2.1; have h2 := Option.some.inj e2; omega))
                      obtain ⟨g8, c8, rfl⟩ := owns_slot hb7.1 (by omega)
                      have HS7 := Lib.hid (HS5.out.step2 hb7 hg7)
                      clear hb7 hg7 ho7 HV N1 N2 N3 N4
                      obtain ⟨y0, y1, y2⟩ := HBA7.out.2
                      simp only [] at y0 y1 y2
                      have HW := Lib.hid (HS7.out.tree.later (alloc_belT w7 (.cells #[.int .i64 ((a1 : Nat) : Int), .int .i64 ((a2 : Nat) : Int), .int .i64 ((a3 : Nat) : Int)] 66)))
                      have M1 : Hid ([Value.int .i64 ((a1 : Nat) : Int), .int .i64 ((a2 : Nat) : Int), .int .i64 ((a3 : Nat) : Int)].length = 1 * 3) := Lib.hid rfl
                      have M2 : Hid (∀ q ∈ [Value.int .i64 ((a1 : Nat) : Int), .int .i64 ((a2 : Nat) : Int), .int .i64 ((a3 : Nat) : Int)], q.oneCell' = true) := Lib.hid (arcV_one' (a1, a2, a3))
                      have M3 : Hid (tr.length + 1 ≤ maxLen) := Lib.hid (by unfold maxLen; omega)
                      have M4 : Hid ((tr.length + 1) * 24 ≤ 140737488355328) := Lib.hid (by omega)
                      go_wp2_with (at_builtin; (refine wpList_appM rfl (.tmp 101) (.tmp 103) rfl Tryd.underlying46 Tryd.infoArc rfl (by decide) rfl HW.out rfl (Src.lit _) M1.out M2.out M3.out M4.out ?_))
                      intro v9 w9 hb9 hg9 ho9
                      have HS9 := Lib.hid (HS7.out.step3 (a1, a2, a3) hb9 hg9)
                      have htl9 : (tr ++ [(a1, a2, a3)]).length + 1 ≤ (ord ++ [a1]).length := by simp; omega
                      have hkl9 : k < (ord ++ [a1]).length := by simp; omega
                      have HGV9 : Hid ((ord ++ [a1]).getD k 0 = V) := Lib.hid (by rw [getD_app hkl]; exact HGV.out)
                      have hsl : ∃ g c, v9 = .slice (some ⟨g, 0, none⟩) (tr.length + 1) c := by
                        rcases hb9.1.2 with ⟨_, h1⟩ | ⟨g, cap', cur, hv, _⟩
                        · omega
                        · exact ⟨g, cap', hv⟩
                      obtain ⟨g9, c9, rfl⟩ := hsl
                      have HLN9 : Hid (ord.length + 1 = (ord ++ [a1]).length) := Lib.hid (by simp)
                      clear hb9 hg9 ho9 HW M1 M2 M3 M4 y0 y1 y2
                      go_wp2_with fail
                      go_roundw
                      case rel => exact ⟨j + 1, ord ++ [a1], g8, c8, tr ++ [(a1, a2, a3)], _, by omega, by go_num, by rw [HLN9.out], HJF, hkl9, HGV9, htl9, HS9⟩
                      case measure => simp [intOf]; omega
                    · have HKM : Hid (a1 ∈ ord) := Lib.hid (HN_we.out.num.has.1 HBK.out)
                      go_quiet (fail)
                      have HNF := Lib.hid (HN_we.out.later (below_drewN (Below.refl _ _) nq))
                      have HJF : Hid (ord = ordJ g L V x ord0 (j + 1)) := Lib.hid (by rw [HST.out]; unfold stepN; rw [if_neg (fun h => h.2 (by have h4 := HKM.out; rw [nxE_ge hxg]; exact h4))])
                      clear y0 y1 y2 z0 z2 hkc
                      go_wp2_with fail
                      go_roundw
                      case rel => exact ⟨j + 1, ord, g7, c7, tr, D, by omega, by go_num, rfl, HJF, hkl, HGV, htl, HNF⟩
                      case measure => simp [intOf]; omega
                  · have k3 : (((a3 : Nat) : Int) != ((l : Nat) : Int)) = true := by rw [bne_iff_ne]; omega
                    have H3 := Lib.hid h3
                    clear h3
                    have HNB2 : Hid (nxP g V x (a1, a2, a3) = false) := Lib.hid (by unfold nxP; rw [HLX.out, beq_eq_false_iff_ne.2 H3.out]; rfl)
                    go_quiet (fail)
                    have HNF := Lib.hid (HN_we.out.later (below_drewN (Below.refl _ _) nq))
                    have HJF : Hid (ord = ordJ g L V x ord0 (j + 1)) := Lib.hid (by rw [HST.out]; unfold stepN; rw [if_neg (fun h => by rw [HNB2.out] at h; cases h.1)])
                    clear y0 y1 y2 z0 z2 hkc
                    go_wp2_with fail
                    go_roundw
                    case rel => exact ⟨j + 1, ord, g7, c7, tr, D, by omega, by go_num, rfl, HJF, hkl, HGV, htl, HNF⟩
                    case measure => simp [intOf]; omega
                · have hgx1 : decide (x < g) = false := decide_eq_false hxg
                  have hgx2 : decide (g ≤ x) = true := decide_eq_true (by omega)
                  have hgx3 : ¬ (x : Int) < (g : Int) := by omega
                  have hgx4 : (g : Int) ≤ (x : Int) := by omega
                  have k1 : (((a2 : Nat) : Int) == ((V : Nat) : Int)) = false := by rw [beq_eq_false_iff_ne]; omega
                  have HEV := Lib.hid hev
                  clear hev
                  go_upto_region 16 with fail
                  go_quiet (fail)
                  have hbc : Below wb.heap.size wb (wb.drewN nq) := below_drewN (Below.refl _ _) nq
                  generalize wb.drewN nq = we at *
                  have HBE := Lib.hid hbc
                  clear hbc y0 y1 y2 z0 z2 hkc
                  have HN_we := Lib.hid (HNB.out.later HBE.out)
                  obtain ⟨y0, y1, y2⟩ := (HBX.out.later HBE.out).2
                  simp only [] at y0 y1 y2
                  obtain ⟨z0, z2⟩ := HFX.out _ (HN_we.out.below)
                  have hkc := HKC.out _ HBE.out
                  obtain ⟨bk, hbk⟩ : ∃ bk, Maps.has D (keyN a1) = bk := ⟨_, rfl⟩
                  have HBK := Lib.hid hbk
                  clear hbk
                  have hkeyL := keyOkN (show a1 ≤ 100000 by omega)
                  go_wp2_with (first
                    | (at_lookup; refine wpList_lookup_own_ok_int _ rfl _ _ 76 rfl 3 3 .i64 keyedN Tryd.underlying76 Tryd.underlying3 (zeroIntN _) b _ D rfl HN_we.out.own _ _ rfl hkeyL ?_; rw [HBK.out]; intro c1 hat1 hwc1; clear hat1 hwc1)
                    | fail)
                  clear hkeyL
                  by_cases h3 : a3 = l
                  · have k3 : (((a3 : Nat) : Int) != ((l : Nat) : Int)) = false := by rw [bne_eq_false_iff_eq]; omega
                    have H3 := Lib.hid h3
                    clear h3
                    have HNB2 : Hid (nxP g V x (a1, a2, a3) = false) := Lib.hid (by unfold nxP; rw [if_neg hxg]; simp only []; rw [beq_eq_false_iff_ne.2 HEV.out]; simp)
                    go_quiet (fail)
                    have HNF := Lib.hid (HN_we.out.later (below_drewN (Below.refl _ _) nq))
                    have HJF : Hid (ord = ordJ g L V x ord0 (j + 1)) := Lib.hid (by rw [HST.out]; unfold stepN; rw [if_neg (fun h => by rw [HNB2.out] at h; cases h.1)])
                    clear y0 y1 y2 z0 z2 hkc
                    go_wp2_with fail
                    go_roundw
                    case rel => exact ⟨j + 1, ord, g7, c7, tr, D, by omega, by go_num, rfl, HJF, hkl, HGV, htl, HNF⟩
                    case measure => simp [intOf]; omega
                  · have k3 : (((a3 : Nat) : Int) != ((l : Nat) : Int)) = true := by rw [bne_iff_ne]; omega
                    have H3 := Lib.hid h3
                    clear h3
                    have HNB2 : Hid (nxP g V x (a1, a2, a3) = false) := Lib.hid (by unfold nxP; rw [HLX.out, beq_eq_false_iff_ne.2 H3.out]; rfl)
                    go_quiet (fail)
                    have HNF := Lib.hid (HN_we.out.later (below_drewN (Below.refl _ _) nq))
                    have HJF : Hid (ord = ordJ g L V x ord0 (j + 1)) := Lib.hid (by rw [HST.out]; unfold stepN; rw [if_neg (fun h => by rw [HNB2.out] at h; cases h.1)])
                    clear y0 y1 y2 z0 z2 hkc
                    go_wp2_with fail
                    go_roundw
                    case rel => exact ⟨j + 1, ord, g7, c7, tr, D, by omega, by go_num, rfl, HJF, hkl, HGV, htl, HNF⟩
                    case measure => simp [intOf]; omega
            · have HBF2 : Hid (Bfs g L ord k (x + 1)) := Lib.hid (by
                have h := HST0.out
                rw [← ordJ_all, show L.length = j by omega, ← HJ.out] at h
                exact h)
              go_wp2_with fail
              go_roundw
              case rel => exact ⟨x + 1, ord, g7, c7, tr, D, by omega, hkl, by go_num, rfl, HBF2, htl, HNS⟩
              case measure => simp [intOf]; omega
        · have HBF2 : Hid (Bfs g L ord0 (k + 1) 0) := Lib.hid (HBF.out.row hkl hxg2)
          have hxi : ¬ (x : Int) < 2 * (g : Int) := by omega
          go_wp2_with fail
          go_roundw
          case rel => exact ⟨k + 1, ord0, g7, c7, tr, D, hkl, by go_num, rfl, HBF2, htl, HNS⟩
          case measure => simp [intOf]; omega
    · obtain ⟨aT, cT, rfl⟩ := owns_form HNS.out.tree.1
      have HF : Hid (RetNu g L w (.returned (.tuple #[.map (some b), .slice aT tr.length cT])) wr) := Lib.hid ⟨b, _, ord, k, D, rfl, HNS.out.own, HNS.out.num, Nat.le_trans HB1.out.size (by rw [HBE1.out]; exact Nat.le_refl _), HBF.out, hkl, Below.now HB1.out HNS.out.below⟩
      go_wp2_with fail
      refine bodyPost_ret (v := .tuple #[.map (some b), .slice aT tr.length cT]) ?_ rfl HF.out
      simp [results, Tryd.results49, go_sem]
end Go.Proofs.YtklbehapbchnaaaDoor
