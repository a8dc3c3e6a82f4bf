/-
  The program's classes of an automaton's states.
-/
import Derived.Test.YtoddpmdjjgnpgaaGreatDoorGra07
import Derived.Test.YtoddpmdjjgnpgaaGreatDoorGra13
import Derived.Laws.OwnMore
import Derived.Test.YtoddpmdjjgnpgaaGreatDoorGra18
import Derived.Test.YtoddpmdjjgnpgaaGreatDoorGra05
namespace Go.Proofs.YtoddpmdjjgnpgaaGreatDoor
open Go.RowKit
set_option linter.unusedVariables false
/-- counts as cells -/
def ctV (l : List Nat) : List Value := l.map fun n => Value.int .i64 (n : Nat)
theorem ctV_at {l : List Nat} {v : Nat} (h : v < l.length) : (ctV l)[v]? = some (.int .i64 ((l.getD v 0 : Nat) : Int)) := by
  simp [ctV, List.getD_eq_getElem?_getD, h]
theorem ctV_set (l : List Nat) (p x : Nat) : (ctV l).set p (.int .i64 (x : Nat)) = ctV (l.set p x) := by simp [ctV, List.map_set]
theorem ctV_zero (m : Nat) : (madeCells #[Value.int .i64 0] m).toList = ctV (List.replicate m 0) := by
  rw [toList_madeCells_one]; simp [ctV]
theorem ctV_ints (l : List Nat) : ctV l = intVals (l.map Int.ofNat) := by simp [ctV, intVals]
/-- a row of counts in memory -/
def CtRow (wr : World) (B g m : Nat) (l : List Nat) : Prop := l.length = m ∧ B ≤ g ∧ wr.ownsRow B 3 1 (.slice (some ⟨g, 0, none⟩) m m) m (ctV l)
theorem CtRow.start (w : World) {m : Nat} (hm : m ≤ maxLen) : CtRow (w.alloc (.cells (madeCells #[.int .i64 0] m) 3)) w.heap.size w.heap.size m (List.replicate m 0) := by
  refine ⟨by simp, Nat.le_refl _, ?_⟩
  have := World.ownsRow_lit w (madeCells #[.int .i64 0] m) m (e := 3) (size := 1) (Nat.le_refl _) hm (by rw [size_madeCells]; simp)
  rw [ctV_zero] at this
  exact this
theorem CtRow.cell {wr : World} {B g m : Nat} {l : List Nat} (h : CtRow wr B g m l) {v : Nat} (hv : v < m) : wr.cell? ⟨g, v, none⟩ = some (.int .i64 ((l.getD v 0 : Nat) : Int)) := by
  rw [h.2.2.cellAt v (by omega), ctV_at (by rw [h.1]; exact hv)]
theorem CtRow.frozen {wr : World} {B g m : Nat} {l : List Nat} (h : CtRow wr B g m l) (i : Nat) : wr.frozen? ⟨g, i, none⟩ = false := h.2.2.frozenAt i
theorem CtRow.later {wr w2 : World} {B g m : Nat} {l : List Nat} (h : CtRow wr B g m l) (hb : Below wr.heap.size wr w2) : CtRow w2 B g m l := ⟨h.1, h.2.1, owns_later h.2.2 hb⟩
theorem CtRow.store {wr : World} {B g m : Nat} {l : List Nat} (h : CtRow wr B g m l) (p x : Nat) : CtRow (wr.setCell ⟨g, p, none⟩ (.int .i64 (x : Nat))) B g m (l.set p x) := by
  refine ⟨by rw [List.length_set]; exact h.1, h.2.1, ?_⟩
  have := (h.2.2.stored p (.int .i64 (x : Nat))).1
  rw [ctV_set] at this
  exact this
theorem CtRow.mono {wr : World} {B B' g m : Nat} {l : List Nat} (h : CtRow wr B g m l) (hb : B' ≤ B) : CtRow wr B' g m l := ⟨h.1, by have := h.2.1; omega, owns_mono h.2.2 hb⟩
end Go.Proofs.YtoddpmdjjgnpgaaGreatDoor
namespace Go.Proofs.YtoddpmdjjgnpgaaGreatDoor
open Go.RowKit Go.Maps Go.WideMaps
set_option linter.unusedVariables false
theorem boolAt0 {W : World} {g : Nat} {l : List Bool} (h : BoolsIn W (some ⟨g, 0, none⟩) l) {j : Nat} (hj : j < l.length) : W.cell? ⟨g, j, none⟩ = some (.bool (l.getD j false)) := by
  obtain ⟨b, off, e, _, hc⟩ := h.cell hj
  simp only [Option.some.injEq, Addr.mk.injEq, and_true] at e
  obtain ⟨rfl, rfl⟩ := e
  have := hc j hj
  rwa [Nat.zero_add] at this
theorem intAt0 {W : World} {g : Nat} {l : List Int} (h : IntsIn W (some ⟨g, 0, none⟩) l) {j : Nat} (hj : j < l.length) : W.cell? ⟨g, j, none⟩ = some (.int .i64 (l.getD j 0)) := by
  obtain ⟨b, off, e, _, hc⟩ := h.cell hj
  simp only [Option.some.injEq, Addr.mk.injEq, and_true] at e
  obtain ⟨rfl, rfl⟩ := e
  have := hc j hj
  rwa [Nat.zero_add] at this
theorem zero_row (w : World) {m : Nat} (hm : m ≤ maxLen) : (w.alloc (.cells (madeCells #[.int .i64 0] m) 3)).ownsRow w.heap.size 3 1 (.slice (some ⟨w.heap.size, 0, none⟩) m m) m (intVals (List.replicate m 0)) := by
  have := (CtRow.start w hm).2.2
  rw [ctV_ints] at this
  simpa using this
theorem int_at {w : World} {base g n cap : Nat} {T : TypeId} {l : List Int} (h : w.ownsRow base T 1 (.slice (some ⟨g, 0, none⟩) n cap) n (intVals l)) {i : Nat} (hi : i < n) : w.cell? ⟨g, i, none⟩ = some (.int .i64 (l.getD i 0)) ∧ w.frozen? ⟨g, i, none⟩ = false := by
  refine ⟨?_, World.ownsRow.frozenAt h i⟩
  have hl : l.length = n := by have := h.1; simpa [intVals] using this
  rw [World.ownsRow.cellAt h i (by omega)]
  simp [intVals, List.getD_eq_getElem?_getD, hl, hi]
def RetCls (k : Nat) (N : List Int) (F : List Bool) (w : World) (e : Ending) (w' : World) : Prop := ∃ (g : Nat) (cl : List Int), e = .returned (.slice (some ⟨g, 0, none⟩) F.length F.length) ∧ cl.length = F.length ∧ ClsA k N F F.length (fun s => cl.getD s 0) ∧ IntsIn w' (some ⟨g, 0, none⟩) cl ∧ Below w.heap.size w w'
set_option maxRecDepth 20000 in
set_option maxHeartbeats 4000000 in
theorem implClasses_any (k : Nat) (N : List Int) (F : List Bool) (aN aF : Option Addr) (cN cF : Nat) (w : World) (hN : IntsIn w aN N) (hF : BoolsIn w aF F) (h : AutP k N F) (ht : Tab10 w) :
    Calls Tryz.prog 99 #[.agg #[.int .i64 (k : Nat), .slice aN N.length cN, .slice aF F.length cF]] w (RetCls k N F w) := by
  have HW1 := Lib.hid (alloc_belowS w (.cells #[.int .i64 (k : Nat), .slice aN N.length cN, .slice aF F.length cF] 30))
  have HX1 := Lib.hid (alloc_at w (.cells #[.int .i64 (k : Nat), .slice aN N.length cN, .slice aF F.length cF] 30))
  have HAP := Lib.hid h
  have HN1 := Lib.hid (hN.later HW1.out)
  have HF1 := Lib.hid (hF.later HW1.out)
  have HT1 := Lib.hid (ht.later HW1.out)
  have hsm := h.small
  have hk4 := h.1.1.2
  have hn1 := h.1.2.1
  have hn80 := h.1.2.2
  have HNX := Lib.hid (fun W st x hW hst => autNext_any k N F.length aN aF cN cF st x W hW hk4 hst (by omega))
  have HCB := Lib.hid (fun W hW => cloneB_any F aF cF W hW hn1 (by omega))
  have HMK := Lib.hid (fun k h => run_make_row' (P := Tryz.prog) 27 3 (.int .i64 0) 8 Tryz.underlying27 Tryz.infoInt rfl .i64 .i64 k h (by omega))
  clear hN hF h ht
  obtain ⟨x0, x1, x2⟩ := aut_cells HX1.out
  go_enter Tryz.func99, Tryz.ntmps99
  go_upto_region 1 with fail
  generalize w.alloc (.cells #[.int .i64 (k : Nat), .slice aN N.length cN, .slice aF F.length cF] 30) = w1 at *
  go_wp2_with fail
  refine (HCB.out _ HF1.out).mono ?_
  rintro e w2 ⟨gL, cL, rfl, hoL, hb2⟩
  have HOL := Lib.hid hoL
  have HB2 := Lib.hid hb2
  have hgL := (hoL.lt gL rfl).1
  clear hoL hb2 x0 x1 x2 HCB
  go_wp2_with fail
  go_loopw [22] (fun i wr => ∃ (j : Nat) (lv : List Bool), j ≤ F.length ∧ i = .int .i64 (j : Nat) ∧ Hid (LvR k N F j lv) ∧ Hid (wr.ownsRow w1.heap.size 4 1 (.slice (some ⟨gL, 0, none⟩) F.length cL) F.length (boolsV lv)) ∧ Hid (Below w1.heap.size w1 wr)) (fun i _ => F.length - (intOf i).toNat)
  case atStart => exact ⟨0, F, Nat.zero_le _, rfl, Lib.hid ⟨LvOk.start HAP.out, .inr (Nat.zero_le _)⟩, HOL, HB2⟩
  case round =>
    clear HOL HB2
    obtain ⟨j, lv0, hj, rfl, HLV, HOW, HBL⟩ := hrel
    by_cases hlt : j < F.length
    · have hji : (j : Int) < (F.length : Int) := by omega
      generalize hW : wr = wr0 at *
      clear hW
      go_wp2_with fail
      go_loopw [26] (fun i wr => ∃ (s : Nat) (lv : List Bool), s ≤ F.length ∧ i = .int .i64 (s : Nat) ∧ Hid (LvMid k N F lv0 lv s 0) ∧ Hid (wr.ownsRow w1.heap.size 4 1 (.slice (some ⟨gL, 0, none⟩) F.length cL) F.length (boolsV lv)) ∧ Hid (Below w1.heap.size w1 wr)) (fun i _ => F.length - (intOf i).toNat)
      case atStart => exact ⟨0, lv0, Nat.zero_le _, rfl, Lib.hid (LvMid.start HLV.out.1), HOW, HBL⟩
      case round =>
        clear HOW HBL
        obtain ⟨s, lv1, hs, rfl, HMD, HOW, HBL⟩ := hrel
        by_cases hls : s < F.length
        · have hsi : (s : Int) < (F.length : Int) := by omega
          have x0 := (aut_cells (blk_later HX1.out HBL.out)).1
          generalize hW : wr = wr1 at *
          clear hW
          go_wp2_with fail
          clear x0
          go_loopw [31] (fun i wr => ∃ (x : Nat) (lv : List Bool), x ≤ k ∧ i = .int .i64 (x : Nat) ∧ Hid (LvMid k N F lv0 lv s x) ∧ Hid (wr.ownsRow w1.heap.size 4 1 (.slice (some ⟨gL, 0, none⟩) F.length cL) F.length (boolsV lv)) ∧ Hid (Below w1.heap.size w1 wr)) (fun i _ => k - (intOf i).toNat)
          case atStart => exact ⟨0, lv1, Nat.zero_le _, rfl, HMD, HOW, HBL⟩
          case round =>
            clear HOW HBL HMD
            obtain ⟨x, lv, hx, rfl, HMD, HOW, HBL⟩ := hrel
            by_cases hlx : x < k
            · have hxi : (x : Int) < (k : Int) := by omega
              obtain ⟨x0, x1, x2⟩ := aut_cells (blk_later HX1.out HBL.out)
              have HNQ := Lib.hid (HNX.out wr s x (HN1.out.later HBL.out) (HAP.out.slot hls hlx))
              have hnx := HAP.out.next hls hlx
              have HNO := Lib.hid HMD.out.no
              have HYES := Lib.hid (HMD.out.yes hls hlx)
              generalize nxI k N s x = y at *
              go_wp2_with fail
              refine HNQ.out.mono ?_
              rintro e w3 ⟨rfl, hb3⟩
              have HO3 := Lib.hid (owns_later HOW.out hb3)
              have HB3 := Lib.hid (Below.now HBL.out hb3)
              clear hb3 x0 x1 x2 HNQ HOW HBL
              by_cases h0 : 0 ≤ y
              · obtain ⟨q, rfl⟩ : ∃ q : Nat, y = (q : Int) := ⟨y.toNat, by omega⟩
                have hq : q < F.length := by omega
                have hqi : (q : Int) < (F.length : Int) := by omega
                have c1 := (bool_at HO3.out hq).1
                obtain ⟨c2, c3⟩ := bool_at HO3.out hls
                rw [Int.toNat_natCast] at HNO HYES
                cases hb : lv.getD q false
                · have HP := Lib.hid (HNO.out (by rw [hb]; simp))
                  rw [hb] at c1
                  clear hb HNO HYES c2 c3 h0
                  go_wp2_with fail
                  go_roundw
                  case rel => exact ⟨x + 1, lv, by omega, by go_num, HP, HO3, HB3⟩
                  case measure => simp [intOf]; omega
                · have HP := Lib.hid (HYES.out h0 hb)
                  rw [hb] at c1
                  have HO4 := Lib.hid (bool_set HO3.out s true)
                  have HB4 := Lib.hid (HB3.out.setCell (p := ⟨gL, s, none⟩) hgL (.bool true))
                  clear hb HNO HYES h0
                  generalize lv.getD s false = vs at *
                  go_wp2_with fail
                  go_roundw
                  case rel => exact ⟨x + 1, _, by omega, by go_num, HP, HO4, HB4⟩
                  case measure => simp [intOf]; omega
              · have HP := Lib.hid (HNO.out (fun hh => h0 hh.1))
                clear HNO HYES
                go_wp2_with fail
                go_roundw
                case rel => exact ⟨x + 1, lv, by omega, by go_num, HP, HO3, HB3⟩
                case measure => simp [intOf]; omega
            · have hxi : ¬ (x : Int) < (k : Int) := by omega
              obtain rfl : x = k := by omega
              have HP := Lib.hid HMD.out.row
              go_wp2_with fail
              go_roundw
              case rel => exact ⟨s + 1, lv, by omega, by go_num, HP, HOW, HBL⟩
              case measure => simp [intOf]; omega
        · have hsi : ¬ (s : Int) < (F.length : Int) := by omega
          obtain rfl : s = F.length := by omega
          have HP := Lib.hid (HMD.out.fin HLV.out)
          go_wp2_with fail
          go_roundw
          case rel => exact ⟨j + 1, lv1, by omega, by go_num, HP, HOW, HBL⟩
          case measure => simp [intOf]; omega
    · have hji : ¬ (j : Int) < (F.length : Int) := by omega
      obtain rfl : j = F.length := by omega
      have HLI : Hid (∀ s, s < F.length → (lv0.getD s false = true ↔ LiveA k N F s)) := Lib.hid (fun s hs => HLV.out.all HAP.out hs)
      have HX5 := Lib.hid (blk_later HX1.out HBL.out)
      have HN5 := Lib.hid (HN1.out.later HBL.out)
      have HF5 := Lib.hid (HF1.out.later HBL.out)
      have HT5 := Lib.hid (HT1.out.later HBL.out)
      have HL5 := Lib.hid (owns_bools HOW.out)
      have HLL : Hid (lv0.length = F.length) := Lib.hid HLV.out.1.len
      have HB5 := Lib.hid (Below.now HW1.out HBL.out)
      clear HLV HOW HBL HX1 HN1 HF1 HT1 HW1 hji hj
      have hmk := HMK.out F.length (by omega)
      go_upto_region 17 with fail
      generalize hW : wr = w5 at *
      clear hW hmk
      have HB6 := Lib.hid (alloc_belowS w5 (.cells (madeCells #[.int .i64 0] F.length) 3))
      have HC6 := Lib.hid (owns_ints (zero_row w5 (m := F.length) (by unfold maxLen; omega)))
      generalize w5.alloc (.cells (madeCells #[.int .i64 0] F.length) 3) = w6 at *
      generalize w5.heap.size = g6 at HC6 ⊢
      go_wp2_with fail
      go_loopw [7, 8] (fun v m wr => ∃ (g : Nat) (cl : List Int) (mm : Int), v = .slice (some ⟨g, 0, none⟩) F.length F.length ∧ m = .int .i64 mm ∧ Hid (StA k N F F.length cl mm) ∧ Hid (IntsIn wr (some ⟨g, 0, none⟩) cl) ∧ Hid (Below w5.heap.size w5 wr)) (fun _ m _ => (F.length + 1) - (intOf m + 1).toNat)
      case atStart => exact ⟨_, _, -1, rfl, rfl, Lib.hid StA.start, HC6, HB6⟩
      case round =>
        clear HB6 HC6
        obtain ⟨g, cl, mm, rfl, rfl, HST, HCI, HB⟩ := hrel
        have hmk := HMK.out F.length (by omega)
        have hmm := @run_makeMap Tryz.prog
        have hmr := HST.out.num
        go_upto_region 20 with fail
        generalize hW : wr = w7 at *
        clear hW hmk hmm
        have HB8 : Hid (Below w7.heap.size w7 ((w7.alloc (.map #[] 0)).alloc (.cells (madeCells #[.int .i64 0] F.length) 3))) := Lib.hid (((Below.refl _ _).alloc (Nat.le_refl _) _).alloc (by simp) _)
        have HO8 : Hid (OwnM ((w7.alloc (.map #[] 0)).alloc (.cells (madeCells #[.int .i64 0] F.length) 3)) w7.heap.size 0 (.map [])) := Lib.hid (World.ownsMap.alloc (World.ownsMap_made _ _ _ _) _)
        have HR8 := Lib.hid (zero_row (w7.alloc (.map #[] 0)) (m := F.length) (by unfold maxLen; omega))
        have hsz : (w7.alloc (.map #[] 0)).heap.size = w7.heap.size + 1 := by simp
        rw [hsz] at HR8
        generalize (w7.alloc (.map #[] 0)).alloc (.cells (madeCells #[.int .i64 0] F.length) 3) = w8 at *
        clear hsz
        go_wp2_with fail
        go_loopw [61] (fun i wr => ∃ (s : Nat) (nx : List Int) (Ks : List ByteArray) (D : DataW Unit), s ≤ F.length ∧ i = .int .i64 (s : Nat) ∧ Hid (RndTo k N F (fun s => cl.getD s 0) s nx Ks) ∧ Hid (NumM D Ks) ∧ Hid (nx.length = F.length) ∧ Hid (OwnM wr w7.heap.size (Maps.size D) D) ∧ Hid (wr.ownsRow (w7.heap.size + 1) 3 1 (.slice (some ⟨w7.heap.size + 1, 0, none⟩) F.length F.length) F.length (intVals nx)) ∧ Hid (Below w7.heap.size w7 wr)) (fun i _ => F.length - (intOf i).toNat)
        case atStart => exact ⟨0, _, [], .map [], Nat.zero_le _, rfl, Lib.hid (RndTo.start _ _), Lib.hid NumM.nil, Lib.hid (by simp), HO8, HR8, HB8⟩
        case round =>
          clear HO8 HR8 HB8
          obtain ⟨s, nx, Ks, D, hs, rfl, HRT, HNM, HNL, HOM, HRW, HBR⟩ := hrel
          have HB57 := Lib.hid (Below.now HB.out HBR.out)
          by_cases hls : s < F.length
          · have hsi : (s : Int) < (F.length : Int) := by omega
            have c0 := boolAt0 (HL5.out.later HB57.out) (j := s) (by rw [HLL.out]; exact hls)
            obtain ⟨r1, r2⟩ := int_at HRW.out hls
            have HLS := Lib.hid (HLI.out s hls)
            generalize nx.getD s 0 = vs at *
            cases hb : lv0.getD s false
            · have HNLV : Hid (¬ LiveA k N F s) := Lib.hid (fun hh => by have := HLS.out.2 hh; rw [hb] at this; cases this)
              have HP := Lib.hid (HRT.out.gone (by rw [HNL.out]; exact hls) HNLV.out)
              have HRW2 := Lib.hid (int_set HRW.out s (-1))
              have HOM2 : Hid (OwnM (wr.setCell ⟨w7.heap.size + 1, s, none⟩ (.int .i64 (-1))) w7.heap.size (Maps.size D) D) := Lib.hid (HOM.out.kept (World.ownsRow.stored HRW.out s (.int .i64 (-1))).2 (by simp))
              have HBR2 := Lib.hid (HBR.out.setCell (p := ⟨w7.heap.size + 1, s, none⟩) (by show w7.heap.size ≤ w7.heap.size + 1; omega) (.int .i64 (-1)))
              rw [hb] at c0
              clear hb HLS
              go_wp2_with fail
              go_roundw
              case rel => exact ⟨s + 1, _, Ks, D, by omega, by go_num, HP, HNM, Lib.hid (by rw [List.length_set]; exact HNL.out), HOM2, HRW2, HBR2⟩
              case measure => simp [intOf]; omega
            · have HLV : Hid (LiveA k N F s) := Lib.hid (HLS.out.1 hb)
              have c4 := intAt0 (HCI.out.later HBR.out) (j := s) (by rw [HST.out.len]; exact hls)
              obtain ⟨hc0, hc1⟩ := HST.out.rng s hls HLV.out
              have HFI := Lib.hid (implFormatInt_any (cl.getD s 0) wr (by omega) (by omega) (HT5.out.later HB57.out))
              rw [hb] at c0
              have HHK : Hid (headK F (fun s => cl.getD s 0) s = if F.getD s false = true then numB (cl.getD s 0) ++ ⟨#[33]⟩ else numB (cl.getD s 0)) := Lib.hid rfl
              have hnz := itoa_len (n := cl.getD s 0) (by omega) (by omega)
              clear hb HLS hc0 hc1
              generalize cl.getD s 0 = cs at HHK HFI c4 hnz
              go_wp2_with fail
              refine HFI.out.mono ?_
              rintro e w9 ⟨rfl, hb9⟩
              have HB9 := Lib.hid hb9
              have HB79 := Lib.hid (Below.now HBR.out hb9)
              have HB59 := Lib.hid (Below.now HB57.out hb9)
              obtain ⟨x0, x1, x2⟩ := aut_cells (blk_later HX5.out HB59.out)
              obtain ⟨bf, of, haf, hbf, hcf⟩ := (HF5.out.later HB59.out).cell hls
              have c5 := hcf s hls
              clear hb9 hcf hbf c0 c4 r1 r2 HFI
              subst haf
              generalize F.getD s false = fs at *
              go_upto_if 81 with fail
              go_cut [12] (fun v wx => v = .string (headK F (fun s => cl.getD s 0) s) ∧ wx = w9)
              case first =>
                cases fs
                · go_wp2_with fail
                  go_meet
                  exact ⟨by rw [HHK.out]; rfl, rfl⟩
                · have hsum : ¬ 9223372036854775807 < (numB cs).size + 1 := by omega
                  go_wp2_with fail
                  go_meet
                  exact ⟨by rw [HHK.out]; rfl, rfl⟩
              case rest =>
                obtain ⟨rfl, rfl⟩ := hcut
                clear HHK c5 hnz x1 x2
                generalize hW : wr = ws at *
                clear hW
                generalize hW : wc = w9 at *
                clear hW
                have HTS : headK F (fun s => cl.getD s 0) s = textK k N F (fun s => cl.getD s 0) s 0 := rfl
                rw [HTS]
                have HSZ : Hid (∀ x, (textK k N F (fun s => cl.getD s 0) s x).size ≤ 22 + 22 * x) := Lib.hid (text_size (fun t => by have := HST.out.all t; exact itoa_len (by omega) (by omega)) s)
                clear HTS
                go_wp2_with fail
                clear x0
                go_loopw [12, 86] (fun v i wr => ∃ x : Nat, x ≤ k ∧ i = .int .i64 (x : Nat) ∧ v = .string (textK k N F (fun s => cl.getD s 0) s x) ∧ Hid (Below w9.heap.size w9 wr)) (fun _ i _ => k - (intOf i).toNat)
                case atStart => exact ⟨0, Nat.zero_le _, rfl, rfl, Lib.hid (Below.refl _ _)⟩
                case round =>
                  obtain ⟨x, hx, rfl, rfl, HB6⟩ := hrel
                  by_cases hlx : x < k
                  · have hxi : (x : Int) < (k : Int) := by omega
                    have HB56 := Lib.hid (Below.now HB59.out HB6.out)
                    obtain ⟨x0, x1, x2⟩ := aut_cells (blk_later HX5.out HB56.out)
                    have HNQ := Lib.hid (HNX.out wr s x (HN5.out.later HB56.out) (HAP.out.slot hls hlx))
                    have hnx := HAP.out.next hls hlx
                    have HTX : Hid (textK k N F (fun s => cl.getD s 0) s (x + 1) = textK k N F (fun s => cl.getD s 0) s x ++ (⟨#[44]⟩ ++ pieceK k N F (fun s => cl.getD s 0) s x)) := Lib.hid rfl
                    have HPY : Hid ((0 ≤ nxI k N s x ∧ LiveA k N F (nxI k N s x).toNat) → pieceK k N F (fun s => cl.getD s 0) s x = numB (cl.getD (nxI k N s x).toNat 0)) := Lib.hid (fun hh => by unfold pieceK; exact if_pos hh)
                    have HPN : Hid (¬ (0 ≤ nxI k N s x ∧ LiveA k N F (nxI k N s x).toNat) → pieceK k N F (fun s => cl.getD s 0) s x = ⟨#[45]⟩) := Lib.hid (fun hh => by unfold pieceK; exact if_neg hh)
                    have hts := HSZ.out x
                    generalize textK k N F (fun s => cl.getD s 0) s x = tx at *
                    generalize pieceK k N F (fun s => cl.getD s 0) s x = px at *
                    generalize nxI k N s x = y at *
                    have hsum2 : ¬ 9223372036854775807 < tx.size + 2 := by omega
                    have HE2 : Hid (px = ⟨#[45]⟩ → textK k N F (fun s => cl.getD s 0) s (x + 1) = tx ++ ⟨#[44, 45]⟩) := Lib.hid (fun hp => by rw [HTX.out, hp]; rfl)
                    go_wp2_with fail
                    refine HNQ.out.mono ?_
                    rintro e w10 ⟨rfl, hb10⟩
                    have HB10 := Lib.hid (Below.now HB6.out hb10)
                    clear hb10 x0 x1 x2 HNQ HB56
                    by_cases h0 : 0 ≤ y
                    · obtain ⟨q, rfl⟩ : ∃ q : Nat, y = (q : Int) := ⟨y.toNat, by omega⟩
                      have hq : q < F.length := by omega
                      have hqi : (q : Int) < (F.length : Int) := by omega
                      rw [Int.toNat_natCast] at HPY HPN
                      have c1 := boolAt0 (HL5.out.later (Below.now HB59.out HB10.out)) (j := q) (by rw [HLL.out]; exact hq)
                      have HLQ := Lib.hid (HLI.out q hq)
                      cases hb : lv0.getD q false
                      · have HE := Lib.hid (HE2.out (HPN.out (fun hh => by have := HLQ.out.2 hh.2; rw [hb] at this; cases this)))
                        rw [hb] at c1
                        clear hb HLQ HPY HPN HE2 h0 HTX
                        go_wp2_with fail
                        go_roundw
                        case rel => exact ⟨x + 1, by omega, by go_num, by rw [HE.out], HB10⟩
                        case measure => simp [intOf]; omega
                      · have HLVQ : Hid (LiveA k N F q) := Lib.hid (HLQ.out.1 hb)
                        have HE : Hid (textK k N F (fun s => cl.getD s 0) s (x + 1) = tx ++ (⟨#[44]⟩ ++ numB (cl.getD q 0))) := Lib.hid (by rw [HTX.out, HPY.out ⟨h0, HLVQ.out⟩])
                        have c4 := intAt0 (HCI.out.later (Below.now HB79.out HB10.out)) (j := q) (by rw [HST.out.len]; exact hq)
                        obtain ⟨hc0, hc1⟩ := HST.out.all q
                        have HFI := Lib.hid (implFormatInt_any (cl.getD q 0) w10 (by omega) (by omega) (HT5.out.later (Below.now HB59.out HB10.out)))
                        have hnz := itoa_len (n := cl.getD q 0) (by omega) (by omega)
                        rw [hb] at c1
                        clear hb HLQ HPY HPN HE2 h0 HTX hc0 hc1
                        generalize cl.getD q 0 = cq at HE c4 HFI hnz
                        have hs1 : ¬ 9223372036854775807 < 1 + (numB cq).size := by omega
                        have hs2 : ¬ 9223372036854775807 < tx.size + (1 + (numB cq).size) := by omega
                        go_wp2_with fail
                        refine HFI.out.mono ?_
                        rintro e w11 ⟨rfl, hb11⟩
                        have HB11 := Lib.hid (Below.now HB10.out hb11)
                        clear hb11 c1 c4 HFI
                        go_wp2_with fail
                        go_roundw
                        case rel => exact ⟨x + 1, by omega, by go_num, by rw [HE.out], HB11⟩
                        case measure => simp [intOf]; omega
                    · have HE := Lib.hid (HE2.out (HPN.out (fun hh => h0 hh.1)))
                      clear HPY HPN HE2 HTX
                      go_wp2_with fail
                      go_roundw
                      case rel => exact ⟨x + 1, by omega, by go_num, by rw [HE.out], HB10⟩
                      case measure => simp [intOf]; omega
                  · have hxi : ¬ (x : Int) < (k : Int) := by omega
                    obtain rfl : x = k := by omega
                    have HOM2 : Hid (OwnM wr w7.heap.size (Maps.size D) D) := Lib.hid (HOM.out.kept (belowGrown (Below.now HB9.out HB6.out)) (by simp))
                    have HRW2 := Lib.hid (owns_later HRW.out (Below.now HB9.out HB6.out))
                    have HBR2 := Lib.hid (Below.now HB79.out HB6.out)
                    have HSZD := Lib.hid HNM.out.size
                    have hkey := keyOkG (textK x N F (fun s => cl.getD s 0) s x) (by have := HSZ.out x; unfold maxLen; omega)
                    have hfew := HRT.out.few
                    obtain ⟨r1, r2⟩ := int_at HRW2.out hls
                    generalize nx.getD s 0 = vs at *
                    by_cases hK : textK x N F (fun s => cl.getD s 0) s x ∈ Ks
                    · have hh := HNM.out.yes hK
                      have HAT := Lib.hid (HNM.out.at hK)
                      have HP := Lib.hid (HRT.out.old (by rw [HNL.out]; exact hls) HLV.out hK)
                      clear hK HSZ
                      generalize textK x N F (fun s => cl.getD s 0) s x = key at *
                      generalize Ks.idxOf key = ix at *
                      have HRW3 := Lib.hid (int_set HRW2.out s ((ix : Nat) : Int))
                      have HOM3 : Hid (OwnM (wr.setCell ⟨w7.heap.size + 1, s, none⟩ (.int .i64 ((ix : Nat) : Int))) w7.heap.size (Maps.size D) D) := Lib.hid (HOM2.out.kept (World.ownsRow.stored HRW2.out s (.int .i64 ((ix : Nat) : Int))).2 (by simp))
                      have HBR3 := Lib.hid (HBR2.out.setCell (p := ⟨w7.heap.size + 1, s, none⟩) (by show w7.heap.size ≤ w7.heap.size + 1; omega) (.int .i64 ((ix : Nat) : Int)))
                      go_wp2_with (first
                        | (at_lookup; refine wpList_lookup_own_ok_int _ rfl _ _ 148 rfl 9 3 .i64 keySG Tryz.underlying148 Tryz.underlying3 (zeroIntG _) w7.heap.size _ D rfl HOM2.out _ _ rfl hkey ?_; rw [hh]; intro c1 hat1 hwc1; clear hat1 hwc1)
                        | (at_lookup; refine wpList_lookup_own_int _ rfl _ _ 148 rfl 9 3 .i64 keySG Tryz.underlying148 Tryz.underlying3 (zeroIntG _) w7.heap.size _ D rfl HOM2.out _ _ rfl hkey ?_; intro c0 hat0 hwc0; rw [HAT.out] at hat0; (have hc0 : c0 = _ := (by simp only [DataW.lit.injEq, Lit.int.injEq, true_and] at hat0; exact hat0.symm)); subst hc0; clear hat0 hwc0)
                        | go_in)
                      go_roundw
                      case rel => exact ⟨s + 1, _, Ks, D, by omega, by go_num, HP, HNM, Lib.hid (by rw [List.length_set]; exact HNL.out), HOM3, HRW3, HBR3⟩
                      case measure => simp [intOf]; omega
                    · have hh := HNM.out.no hK
                      have HNM2 := Lib.hid (HNM.out.new hK)
                      have HAT := Lib.hid (HNM2.out.at (v := textK x N F (fun s => cl.getD s 0) s x) (by simp))
                      rw [idx_new hK] at HAT
                      have HP := Lib.hid (HRT.out.new (by rw [HNL.out]; exact hls) HLV.out hK)
                      clear hK HSZ
                      generalize textK x N F (fun s => cl.getD s 0) s x = key at *
                      have hmx : Maps.size D < maxLen := by rw [HSZD.out]; unfold maxLen; omega
                      have HWF := Lib.hid (plainElem_int (H := Unit) Tryz.underlying3 (wf64 (show Ks.length ≤ 34359738368 by omega)))
                      have HLN : Hid ((Ks ++ [key]).length = Ks.length + 1) := Lib.hid (by simp)
                      go_upto_region 39 with (first
                        | (at_lookup; refine wpList_lookup_own_ok_int _ rfl _ _ 148 rfl 9 3 .i64 keySG Tryz.underlying148 Tryz.underlying3 (zeroIntG _) w7.heap.size _ D rfl HOM2.out _ _ rfl hkey ?_; rw [hh]; intro c1 hat1 hwc1; clear hat1 hwc1)
                        | (at_len; refine wpList_len_own _ rfl _ 148 rfl 9 3 Tryz.underlying148 (plainElem (H := Unit) Tryz.prog 3) w7.heap.size _ D rfl HOM2.out ?_; rw [HSZD.out])
                        | (at_mapUpdate; (refine wpList_mapUpdate_own _ rfl _ _ _ 148 rfl 9 3 keySG Tryz.underlying148 (plainElem (H := Unit) Tryz.prog 3) w7.heap.size _ D rfl HOM2.out hmx _ _ _ rfl rfl hkey _ [] HWF.out ?_); intro w12 hown12 hgr12)
                        | go_in)
                      have HOM3 := Lib.hid (ownM_tight hown12)
                      have HRW3 := Lib.hid (World.ownsRow.kept HRW2.out hgr12 (.inr (by simp [Value.ownBlock])))
                      have HBR3 : Hid (Below w7.heap.size w7 w12) := Lib.hid (Below.grown HBR2.out hgr12 HBR2.out.size (fun j hj => by cases hj; exact Nat.le_refl _))
                      clear hown12 hgr12 r1 r2 hh hmx
                      obtain ⟨r1, r2⟩ := int_at HRW3.out hls
                      generalize nx.getD s 0 = vs2 at *
                      generalize D.put (keyL key) (.lit (.int .i64 (Ks.length : Nat))) = D2 at *
                      have HRW4 := Lib.hid (int_set HRW3.out s ((Ks.length : Nat) : Int))
                      have HOM4 : Hid (OwnM (w12.setCell ⟨w7.heap.size + 1, s, none⟩ (.int .i64 ((Ks.length : Nat) : Int))) w7.heap.size (Maps.size D2) D2) := Lib.hid (HOM3.out.kept (World.ownsRow.stored HRW3.out s (.int .i64 ((Ks.length : Nat) : Int))).2 (by simp))
                      have HBR4 := Lib.hid (HBR3.out.setCell (p := ⟨w7.heap.size + 1, s, none⟩) (by show w7.heap.size ≤ w7.heap.size + 1; omega) (.int .i64 ((Ks.length : Nat) : Int)))
                      go_wp2_with (first
                        | (at_lookup; refine wpList_lookup_own_int _ rfl _ _ 148 rfl 9 3 .i64 keySG Tryz.underlying148 Tryz.underlying3 (zeroIntG _) w7.heap.size _ D2 rfl HOM3.out _ _ rfl hkey ?_; intro c0 hat0 hwc0; rw [HAT.out] at hat0; (have hc0 : c0 = _ := (by simp only [DataW.lit.injEq, Lit.int.injEq, true_and] at hat0; exact hat0.symm)); subst hc0; clear hat0 hwc0)
                        | go_in)
                      go_roundw
                      case rel => exact ⟨s + 1, _, Ks ++ [key], D2, by omega, by go_num, HP, HNM2, Lib.hid (by rw [List.length_set]; exact HNL.out), HOM4, HRW4, HBR4⟩
                      case measure => simp [intOf]; omega
          · have hsi : ¬ (s : Int) < (F.length : Int) := by omega
            obtain rfl : s = F.length := by omega
            have HNE := Lib.hid (HST.out.next hn80 (fun s x hs hx => (HAP.out.next hs hx).2) HNL.out HRT.out HNM.out.nodup)
            have HSZD := Lib.hid HNM.out.size
            have hle := HNE.out.2.1
            have hnm := HNE.out.1.num
            have HIN := Lib.hid (owns_ints HRW.out)
            have HBW := Lib.hid (Below.now HB5.out HB57.out)
            by_cases he : ((Ks.length : Nat) : Int) = mm
            · have FF : Hid (RetCls k N F w (.returned (.slice (some ⟨w7.heap.size + 1, 0, none⟩) F.length F.length)) wr) := Lib.hid ⟨_, nx, rfl, HNL.out, HNE.out.2.2 he, HIN.out, HBW.out⟩
              have hbe : (((Ks.length : Nat) : Int) == mm) = true := by rw [he]; simp
              clear he
              go_wp2_with (first
                | (at_len; refine wpList_len_own _ rfl _ 148 rfl 9 3 Tryz.underlying148 (plainElem (H := Unit) Tryz.prog 3) w7.heap.size _ D rfl HOM.out ?_; rw [HSZD.out])
                | go_in)
              go_ret
              exact FF.out
            · have hbe : (((Ks.length : Nat) : Int) == mm) = false := by rw [beq_eq_false_iff_ne]; exact he
              have HLT : Hid (mm < ((Ks.length : Nat) : Int)) := Lib.hid (by omega)
              clear he
              go_wp2_with (first
                | (at_len; refine wpList_len_own _ rfl _ 148 rfl 9 3 Tryz.underlying148 (plainElem (H := Unit) Tryz.prog 3) w7.heap.size _ D rfl HOM.out ?_; rw [HSZD.out])
                | go_in)
              go_roundw
              case rel => exact ⟨_, nx, _, rfl, rfl, Lib.hid HNE.out.1, HIN, HB57⟩
              case measure => have := HLT.out; simp [intOf]; omega
end Go.Proofs.YtoddpmdjjgnpgaaGreatDoor
