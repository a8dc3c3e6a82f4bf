/-
  firstStep, apply and normal of the program.
-/
import Derived.Test.YtggfhephdcnpcaaGreatDoorGrp37
import Derived.Test.YtggfhephdcnpcaaGreatDoorGrp31
import Derived.IntWalk
namespace Go.Proofs.YtggfhephdcnpcaaGreatDoor
open Go.RowKit
set_option linter.unusedVariables false
set_option maxHeartbeats 400000 in
theorem l08Find_any (v : ByteArray) (l : List ByteArray) (a : Option Addr) (cap : Nat) (w : World) (hl : StrsIn w a l) (hlen : l.length ≤ 2 ^ 47) :
    Calls Tryz.prog 99 #[.slice a l.length cap, .string v] w fun e w' => e = .returned (.int .i64 (idxB l v)) ∧ Below w.heap.size w w' := by
  have HL := Lib.hid hl
  clear hl
  go_enter Tryz.func99, Tryz.ntmps99
  go_wp2_with fail
  go_loopw [9] (fun i wr => ∃ j : Nat, j ≤ l.length ∧ i = .int .i64 j ∧ Hid (idxTo l v j = none) ∧ wr = w) (fun i _ => l.length - (intOf i).toNat)
  case atStart => exact ⟨0, Nat.zero_le _, rfl, Lib.hid (idxTo_zero _ _), rfl⟩
  case round =>
    obtain ⟨j, hj, rfl, H, rfl⟩ := hrel
    by_cases hlt : j < l.length
    · obtain ⟨b, off, rfl, hb, hc⟩ := HL.out.cell hlt
      have h1 : wr.cell? ⟨b, off + j, none⟩ = some (.string (nthS l j)) := hc j hlt
      have HS1 : Hid (((nthS l j).toList == v.toList) = false → idxTo l v (j + 1) = none) := Lib.hid (fun hp => idxTo_succ H.out hp)
      have HS2 : Hid (((nthS l j).toList == v.toList) = true → idxB l v = (j : Int)) := Lib.hid (fun hp => idxB_at H.out hlt hp)
      clear hc
      generalize nthS l j = u at *
      cases hp : (u.toList == v.toList)
      · have F := Lib.hid (HS1.out hp)
        go_wp2_with fail
        go_roundw
        case rel => exact ⟨j + 1, by omega, by go_num, F, trivial⟩
        case measure => simp [intOf]; omega
      · have F := Lib.hid (HS2.out hp)
        go_wp2_with fail
        go_ret
        exact ⟨ret_int F.out.symm, Below.refl _ _⟩
    · have F := Lib.hid (idxB_none H.out hlt hj)
      go_wp2_with fail
      go_ret
      exact ⟨ret_int F.out.symm, Below.refl _ _⟩
theorem RetMon.no {k : Int} {R : List RulD} {w w' : World} (h : ¬ GoM k R) (hb : Below w.heap.size w w') : RetMon k R w (.returned (.tuple #[.agg #[.int .i64 0, .slice none 0 0], .slice none 0 0, .bool false])) w' :=
  ⟨[], [], false, none, none, 0, 0, .inl ⟨h, rfl, rfl, rfl⟩, rfl, World.ownsRow_nil _ _ _ _, World.ownsRow_nil _ _ _ _, hb⟩
/-- the table that is being made, at block g -/
def MonSt (w wr : World) (g : Nat) (L : List ByteArray) (xs : List Int) : Prop := ∃ v, Rec2 38 3 1 w wr g (.int .i64 (L.length : Nat)) v xs.length (intVals xs)
theorem intVals_one (x : Int) (l : List Int) : intVals (l ++ [x]) = intVals l ++ [.int .i64 x] := by simp [intVals]
set_option maxRecDepth 100000 in
set_option maxHeartbeats 4000000 in
theorem specMonoidOf_any (k : Int) (R : List RulD) (a : Option Addr) (cap : Nat) (w : World) (hl : RulesIn w a R) (hlen : R.length ≤ 2 ^ 40) (hz : SzR R) :
    Calls Tryz.prog 50 #[.agg #[.int .i64 k, .slice a R.length cap]] w (RetMon k R w) := by
  have HIC := Lib.hid (fun W h => specIsComplete_any k R a cap W h hlen hz)
  have HCA := Lib.hid (fun W h => specCountAll_any k R a cap W h hlen hz)
  have HLR := Lib.hid (fun W h => specLongestReduced_any k R a cap W h hlen hz)
  have HAR := Lib.hid (fun W h => specAllReduced_fn k R a cap W h hlen hz)
  have HNF := Lib.hid (fun w0 W h hs hw => specNormalForm_ok k R a cap w0 W h hs hw)
  have HL := Lib.hid hl
  have e1 : (w.alloc (.cells #[.int .i64 k, .slice a R.length cap] 29)).heap.size = w.heap.size + 1 := by simp
  have HW1 : Hid (Below w.heap.size w ((w.alloc (.cells #[.int .i64 k, .slice a R.length cap] 29)).alloc (.cells #[.int .i64 0, .slice none 0 0] 38))) := Lib.hid (Below.now (alloc_belowS w _) (alloc_belowS _ _))
  have HBX := Lib.hid (fun W2 (h : Below ((w.alloc (.cells #[.int .i64 k, .slice a R.length cap] 29)).alloc (.cells #[.int .i64 0, .slice none 0 0] 38)).heap.size ((w.alloc (.cells #[.int .i64 k, .slice a R.length cap] 29)).alloc (.cells #[.int .i64 0, .slice none 0 0] 38)) W2) => And.intro (box_two (Below.now (alloc_belowS (w.alloc (.cells #[.int .i64 k, .slice a R.length cap] 29)) _) h)) (box_facts h))
  rw [e1] at HBX
  have HZ : Hid (w.heap.size + 1 < ((w.alloc (.cells #[.int .i64 k, .slice a R.length cap] 29)).alloc (.cells #[.int .i64 0, .slice none 0 0] 38)).heap.size) := Lib.hid (by simp)
  clear hl hz e1
  go_enter Tryz.func50, Tryz.ntmps50
  go_wp2_with fail
  generalize (w.alloc (.cells #[.int .i64 k, .slice a R.length cap] 29)).alloc (.cells #[.int .i64 0, .slice none 0 0] 38) = w1 at *
  refine (HIC.out _ (HL.out.later HW1.out)).mono ?_
  rintro e w2 ⟨bb, hbb, rfl, hb2⟩
  have HBB := Lib.hid hbb
  have HB2 := Lib.hid hb2
  obtain ⟨⟨s0, s1⟩, ⟨u0, u1⟩, z0, z1⟩ := HBX.out _ hb2
  clear hbb hb2
  cases bb
  · have F : Hid (RetMon k R w (.returned (.tuple #[.agg #[.int .i64 0, .slice none 0 0], .slice none 0 0, .bool false])) ((w2.setCell ⟨w.heap.size + 1, 0, none⟩ (.int .i64 0)).setCell ⟨w.heap.size + 1, 1, none⟩ (.slice none 0 0))) := Lib.hid (RetMon.no (fun h => by have := HBB.out.2 h.1; cases this) (((Below.now HW1.out HB2.out).setCell (by simp; try omega) _).setCell (by simp; try omega) _))
    go_wp2_with fail
    refine bodyPost_ret (v := .tuple #[.agg #[.int .i64 0, .slice none 0 0], .slice none 0 0, .bool false]) ?_ rfl F.out
    simp [results, Tryz.results50, go_sem, u0, u1]
  · have HCP := Lib.hid (HBB.out.1 rfl)
    go_wp2_with fail
    refine (HCA.out _ (HL.out.later (Below.now HW1.out HB2.out))).mono ?_
    rintro e w3 ⟨c, hc, rfl, hb3⟩
    have HC := Lib.hid hc
    have HB3 := Lib.hid (Below.now HB2.out hb3)
    have HR0 := Lib.hid (fun W => l01In_any c 1 40 W)
    clear hc hb3 s0 s1 u0 u1 z0 z1 HB2 HBB
    obtain ⟨⟨s0, s1⟩, ⟨u0, u1⟩, z0, z1⟩ := HBX.out _ HB3.out
    cases hin : inB c 1 40
    · have HIN := Lib.hid hin
      rw [hin] at HR0
      have F : Hid (RetMon k R w (.returned (.tuple #[.agg #[.int .i64 0, .slice none 0 0], .slice none 0 0, .bool false])) ((w3.setCell ⟨w.heap.size + 1, 0, none⟩ (.int .i64 0)).setCell ⟨w.heap.size + 1, 1, none⟩ (.slice none 0 0))) := Lib.hid (RetMon.no (fun h => by
        obtain ⟨_, ⟨c2, h1, h2, h3⟩, _⟩ := h
        obtain rfl := h1.uniq HC.out
        have h4 := HIN.out
        unfold inB at h4
        simp at h4
        omega) (((Below.now HW1.out HB3.out).setCell (by simp; try omega) _).setCell (by simp; try omega) _))
      clear hin
      go_wp2_with (go_at_call 94; refine (HR0.out _).mono ?_; rintro e w' ⟨rfl, rfl⟩)
      refine bodyPost_ret (v := .tuple #[.agg #[.int .i64 0, .slice none 0 0], .slice none 0 0, .bool false]) ?_ rfl F.out
      simp [results, Tryz.results50, go_sem, u0, u1]
    · have HIN := Lib.hid hin
      rw [hin] at HR0
      clear hin
      go_wp2_with (go_at_call 94; refine (HR0.out _).mono ?_; rintro e w' ⟨rfl, rfl⟩)
      refine (HLR.out _ (HL.out.later (Below.now HW1.out HB3.out))).mono ?_
      rintro e w4 ⟨h, hh, rfl, hb4⟩
      have HH := Lib.hid hh
      have HB4 := Lib.hid (Below.now HB3.out hb4)
      clear hh hb4 s0 s1 u0 u1 z0 z1 HR0
      obtain ⟨⟨s0, s1⟩, ⟨u0, u1⟩, z0, z1⟩ := HBX.out _ HB4.out
      by_cases h8 : 8 < h
      · have F : Hid (RetMon k R w (.returned (.tuple #[.agg #[.int .i64 0, .slice none 0 0], .slice none 0 0, .bool false])) ((w4.setCell ⟨w.heap.size + 1, 0, none⟩ (.int .i64 0)).setCell ⟨w.heap.size + 1, 1, none⟩ (.slice none 0 0))) := Lib.hid (RetMon.no (fun hg => by
          obtain ⟨_, _, h2, h3, h4⟩ := hg
          obtain rfl := h3.uniq HH.out
          omega) (((Below.now HW1.out HB4.out).setCell (by simp; try omega) _).setCell (by simp; try omega) _))
        go_wp2_with fail
        refine bodyPost_ret (v := .tuple #[.agg #[.int .i64 0, .slice none 0 0], .slice none 0 0, .bool false]) ?_ rfl F.out
        simp [results, Tryz.results50, go_sem, u0, u1]
      · have HGO : Hid (GoM k R) := Lib.hid ⟨HCP.out, ⟨c, HC.out, inB_bounds HIN.out⟩, h, HH.out, by omega⟩
        go_wp2_with fail
        refine (HAR.out _ (HL.out.later (Below.now HW1.out HB4.out))).mono ?_
        rintro e w5 ⟨L, f, aL, cL, hal, rfl, hol, hb5⟩
        obtain rfl : f = true := by
          rcases hal with ⟨h1, _⟩ | ⟨_, _, _, _, _, _, h1, _⟩
          · exact absurd ⟨c, HC.out, by have := inB_bounds HIN.out; omega, by have := inB_bounds HIN.out; omega⟩ h1
          · exact h1
        have HAL := Lib.hid hal
        have HMW := Lib.hid (HGO.out.words hal)
        have hlen40 := HMW.out.few
        have HB5 := Lib.hid (Below.now HB4.out hb5)
        have HOL : Hid (w5.ownsRow (w.heap.size + 2) 9 1 (.slice aL L.length cL) L.length (strVals L)) := Lib.hid (owns_mono hol (by have := HB4.out.size; have := HZ.out; omega))
        have HSL : Hid (StrsIn w5 aL L) := Lib.hid (owns_cells hol)
        have HST : Hid (MonSt w5 (w5.alloc (.cells #[.int .i64 (L.length : Nat), .slice none 0 0] 38)) w5.heap.size L (prodTo R L 0 0)) := Lib.hid ⟨_, Rec2.start _ _ 1 (Below.refl _ _) _⟩
        clear hal hol hb5 s0 s1 u0 u1 z0 z1 h8 HB3 HB4
        go_wp2_with fail
        generalize w5.alloc (.cells #[.int .i64 (L.length : Nat), .slice none 0 0] 38) = w6 at *
        generalize hg : w5.heap.size = g at *
        have HG := Lib.hid hg
        clear hg
        go_loopw [39] (fun vi wr => ∃ i : Nat, i ≤ L.length ∧ vi = .int .i64 i ∧ Hid (MonSt w5 wr g L (prodTo R L i 0))) (fun vi _ => L.length - (intOf vi).toNat)
        case atStart => exact ⟨0, Nat.zero_le _, rfl, HST⟩
        case round =>
          clear HST
          obtain ⟨i, hi, rfl, HST⟩ := hrel
          obtain ⟨vt, HR⟩ := HST.out
          have HRH := Lib.hid HR
          have hbw := HR.below
          by_cases hlt : i < L.length
          · obtain ⟨b, off, rfl, hb, hc⟩ := (HSL.out.later hbw).cell hlt
            have c1 := hc i hlt
            clear hc hbw HR
            have HWP : Hid (∀ j, j < L.length → wordOkB k (nthS L i ++ nthS L j) = true ∧ (nthS L i).size + (nthS L j).size ≤ 16) := Lib.hid (fun j hj => HMW.out.pair hlt hj)
            have HPS := Lib.hid (fun j => prodTo_step R L i j)
            generalize hu : nthS L i = u at *
            have HU := Lib.hid hu
            clear hu
            go_wp2_with fail
            generalize hW : wr = wr0 at *
            clear hW
            go_loopw [45] (fun vj wr => ∃ j : Nat, j ≤ L.length ∧ vj = .int .i64 j ∧ Hid (MonSt w5 wr g L (prodTo R L i j))) (fun vj _ => L.length - (intOf vj).toNat)
            case atStart => exact ⟨0, Nat.zero_le _, rfl, HST⟩
            case round =>
              clear HST HRH
              obtain ⟨j, hj, rfl, HST⟩ := hrel
              obtain ⟨v0, HR⟩ := HST.out
              have HRH := Lib.hid HR
              have hbw := HR.below
              by_cases hjl : j < L.length
              · obtain ⟨b2, off2, ha2, hb2, hc2⟩ := (HSL.out.later hbw).cell hjl
                cases ha2
                have c2 := hc2 j hjl
                obtain ⟨hwok, hsz⟩ := HWP.out j hjl
                have HWO := Lib.hid hwok
                obtain ⟨⟨s0, s1⟩, _, _, _⟩ := HBX.out wr (Below.now HB5.out hbw)
                have hx1 : ¬ 9223372036854775807 < u.size + (nthS L j).size := by omega
                have HNC := Lib.hid (HNF.out (u ++ nthS L j) wr (HL.out.later (Below.now HW1.out (Below.now HB5.out hbw))) HCP.out.1 hwok)
                have HP1 := Lib.hid (HPS.out j)
                clear hc2 hbw HR hwok
                generalize nthS L j = y at *
                go_wp2_with fail
                refine HNC.out.mono ?_
                rintro e w7 ⟨x, hx, rfl, hb7⟩
                obtain rfl := nfC_eq hx
                have HR7 := Lib.hid (HRH.out.later hb7)
                obtain ⟨_, t1, _, f1⟩ := HR7.out.facts
                have HS7 := Lib.hid (fun W (hW : Below w7.heap.size w7 W) => HSL.out.later (Below.now HR7.out.below hW))
                have hgl := HR7.out.lt
                have hxl := prodTo_few hlen40 (R := R) hi hj
                clear hx hb7 HRH s0 s1 c1 c2 HNC HWO
                generalize nfC R (u ++ y) = x at *
                have HFD := Lib.hid (fun W h => l08Find_any x L (some ⟨b, off, none⟩) cL W h (by omega))
                generalize idxB L x = z at *
                have HXS : Hid (∃ xs, xs = prodTo R L i j) := Lib.hid ⟨_, rfl⟩
                generalize prodTo R L i j = xs at *
                have M1 : Hid (∀ u ∈ [Value.int .i64 z], u.oneCell' = true) := Lib.hid (fun u hu => by rw [List.mem_singleton.1 hu]; rfl)
                have N3 : Hid (xs.length + 1 ≤ maxLen) := Lib.hid (by unfold maxLen; omega)
                have N4 : Hid ((xs.length + 1) * 8 ≤ 140737488355328) := Lib.hid (by omega)
                clear hxl HXS
                go_wp2_with fail
                have kr := Below.refl w7.heap.size w7
                go_region_law (first
                  | (go_simp; go_at_call 99; refine (HFD.out _ (HS7.out _ (by repeat (first | exact kr | refine Below.drew ?_ | refine below_drewN ?_ _)))).mono ?_; rintro e w8 ⟨rfl, hb8⟩; replace kr : Below w7.heap.size w7 w8 := Below.now (by repeat (first | exact kr | refine Below.drew ?_ | refine below_drewN ?_ _)) hb8; have HR8 := Lib.hid (HR7.out.later kr); have q0 := HR8.out.facts.2.1; have q2 : ∀ ob, (w8.alloc ob).cell? ⟨g, 1, none⟩ = some v0 := fun ob => (HR8.out.later (alloc_belowS w8 ob)).facts.2.1; clear hb8)
                  | (refine step_appH rfl (.tmp 58) (.tmp 62) (by rfl) Tryz.underlying33 Tryz.infoInt rfl (by decide) (by rfl) HR8.out.own HR8.out.lt (by rfl) (by rfl) M1.out N3.out N4.out ?_; intro g4 c4 w9 hn9 hg9; have P9 := Lib.hid (HR8.out.put (Below.refl _ _) hg9 hn9); have q9 := rec_cells (HR8.out.grown (Below.refl _ _) hg9); obtain ⟨_, q1, _, q3⟩ := q9; clear hn9 hg9))
                all_goals
                  have F : Hid (MonSt w5 (w9.setCell ⟨g, 1, none⟩ (.slice (some ⟨g4, 0, none⟩) (xs.length + 1) c4)) g L (prodTo R L i (j + 1))) := Lib.hid ⟨_, by rw [HP1.out, intVals_one, List.length_append]; exact P9.out⟩
                  clear q0 q1 q2 q3 t1 f1
                  go_wp2_with fail
                  go_roundw
                  case rel => exact ⟨j + 1, by omega, by go_num, F⟩
                  case measure => simp [intOf]; omega
              · obtain rfl : j = L.length := by omega
                have F : Hid (MonSt w5 wr g L (prodTo R L (i + 1) 0)) := Lib.hid (by rw [← prodTo_next]; exact HST.out)
                clear HR hbw
                go_wp2_with fail
                go_roundw
                case rel => exact ⟨i + 1, by omega, by go_num, F⟩
                case measure => simp [intOf]; omega
          · obtain rfl : i = L.length := by omega
            obtain ⟨aP, cP, hv⟩ := owns_form HR.own
            subst hv
            obtain ⟨t0, t1, _, _⟩ := HR.facts
            obtain ⟨_, ⟨u0, u1⟩, z0, z1⟩ := HBX.out wr (Below.now HB5.out hbw)
            have hg1 : w.heap.size + 2 ≤ g := by have := HB5.out.size; have := HZ.out; have := HG.out; omega
            have hPL : prodTo R L L.length 0 = prodF R L := prodTo_done R L
            rw [hPL] at HRH t1 HR
            have F : Hid (RetMon k R w (.returned (.tuple #[.agg #[.int .i64 (L.length : Nat), .slice aP (prodF R L).length cP], .slice aL L.length cL, .bool true])) ((wr.setCell ⟨w.heap.size + 1, 0, none⟩ (.int .i64 (L.length : Nat))).setCell ⟨w.heap.size + 1, 1, none⟩ (.slice aP (prodF R L).length cP))) :=
              Lib.hid ⟨L, prodF R L, true, aP, aL, cP, cL, .inr ⟨HGO.out, HAL.out, rfl, rfl⟩, rfl,
                owns_mono (ownsRow_setCell_below (ownsRow_setCell_below HRH.out.own (by show w.heap.size + 1 < g + 1; omega) _) (by show w.heap.size + 1 < g + 1; omega) _) (by omega),
                owns_mono (ownsRow_setCell_below (ownsRow_setCell_below (owns_later HOL.out HRH.out.below) (by show w.heap.size + 1 < w.heap.size + 2; omega) _) (by show w.heap.size + 1 < w.heap.size + 2; omega) _) (by omega),
                ((Below.now HW1.out (Below.now HB5.out hbw)).setCell (by simp; try omega) _).setCell (by simp; try omega) _⟩
            clear hPL hbw HR
            go_wp2_with fail
            refine bodyPost_ret (v := .tuple #[.agg #[.int .i64 (L.length : Nat), .slice aP (prodF R L).length cP], .slice aL L.length cL, .bool true]) ?_ rfl F.out
            simp [results, Tryz.results50, go_sem, u0, u1]
end Go.Proofs.YtggfhephdcnpcaaGreatDoor
namespace Go.Proofs.YtggfhephdcnpcaaGreatDoor
open Go.RowKit
set_option linter.unusedVariables false
set_option maxRecDepth 100000 in
set_option maxHeartbeats 2000000 in
theorem implSteps_any (k : Int) (R : List RulD) (a : Option Addr) (cap : Nat) (w0 : ByteArray) (w : World) (hl : RulesIn w a R) (hs : sysP k R) (hw : w0.size ≤ 16) :
    Calls Tryz.prog 191 #[.agg #[.int .i64 k, .slice a R.length cap], .string w0] w (RetSl 54 2 (stepsF R w0).length (cellsL stV (stepsF R w0)) w) := by
  have h12 : R.length ≤ 12 := hs.1.1.2
  have hz : SzR R := fun j hj => by have := (hs.1.2 _ (nthR_mem hj)).1.2; unfold maxLen; omega
  have h8 := left8 hs
  have HPOS : Hid (∀ r, r < R.length → 0 < (nthR R r).1.size) := Lib.hid (fun r hr => by have := (hs.1.2 _ (nthR_mem hr)).2; omega)
  have HL := Lib.hid hl
  have HA := Lib.hid (fun o => alloc_belowS w o)
  have HBX : Hid (∀ W2, Below (w.alloc (.cells #[.int .i64 k, .slice a R.length cap] 29)).heap.size (w.alloc (.cells #[.int .i64 k, .slice a R.length cap] 29)) W2 → W2.cell? ⟨w.heap.size, 0, none⟩ = some (.int .i64 k) ∧ W2.cell? ⟨w.heap.size, 1, none⟩ = some (.slice a R.length cap)) := Lib.hid (fun W2 h => box_two h)
  clear hl hs hz
  go_enter Tryz.func191, Tryz.ntmps191
  go_wp2_with fail
  have HW1 : Hid (Below w.heap.size w (w.alloc (.cells #[.int .i64 k, .slice a R.length cap] 29))) := Lib.hid (HA.out _)
  have HL1 := Lib.hid (HL.out.later HW1.out)
  have HBX1 := HBX
  generalize w.alloc (.cells #[.int .i64 k, .slice a R.length cap] 29) = w1 at *
  have HB0 : Hid (Bld 54 2 w1 w1 (.slice none 0 0) (stTo R w0 0 0).length (cellsL stV (stTo R w0 0 0))) := Lib.hid (Bld.nil 54 2 (Below.refl _ _))
  clear HBX
  go_loopw [5, 11] (fun vo vi wr => ∃ i : Nat, i ≤ w0.size ∧ vi = .int .i64 (i : Nat) ∧ Bld 54 2 w1 wr vo (stTo R w0 i 0).length (cellsL stV (stTo R w0 i 0))) (fun _ vi _ => w0.size - (intOf vi).toNat)
  case atStart => exact ⟨0, Nat.zero_le _, rfl, HB0.out⟩
  case round =>
    clear HB0
    obtain ⟨i, hi, rfl, hbd⟩ := hrel
    obtain ⟨ao, co, rfl⟩ := owns_form hbd.1
    have HB := Lib.hid hbd
    obtain ⟨s0, s1⟩ := HBX1.out wr hbd.2
    clear hbd
    by_cases hlt : i < w0.size
    · have HXT := Lib.hid (stTo_next R w0 i)
      go_wp2_with fail
      generalize hW : wr = wr0 at *
      clear hW s0 s1
      go_loopw [5, 17] (fun vo vr wr => ∃ r : Nat, r ≤ R.length ∧ vr = .int .i64 (r : Nat) ∧ Bld 54 2 w1 wr vo (stTo R w0 i r).length (cellsL stV (stTo R w0 i r))) (fun _ vr _ => R.length - (intOf vr).toNat)
      case atStart => exact ⟨0, Nat.zero_le _, rfl, HB.out⟩
      case round =>
        clear HB
        obtain ⟨r, hr, rfl, hbd⟩ := hrel
        obtain ⟨a2, c2, rfl⟩ := owns_form hbd.1
        have HB := Lib.hid hbd
        have hsl := stTo_len R w0 i r
        have hil : i * R.length ≤ 16 * 12 := Nat.mul_le_mul (by omega) h12
        by_cases hlr : r < R.length
        · obtain ⟨b, off, rfl, hb, k0, k1⟩ := rule_at HL1.out hbd.2 hlr
          have hl8 := h8 r
          have hpos := HPOS.out r hlr
          have HY := Lib.hid (fun h => stTo_yes (R := R) (w := w0) (i := i) (k := r) h)
          have HN := Lib.hid (fun h => stTo_no (R := R) (w := w0) (i := i) (k := r) h)
          have HHP := Lib.hid (fun W => Tryz.strings_HasPrefix (w0.extract i w0.size) (nthR R r).1 W)
          rw [preAt_hp] at HHP
          have x3 : (i : Int) ≤ (w0.size : Int) := by omega
          have x4 : i ≤ w0.size := by omega
          clear hbd
          generalize (nthR R r).1 = l at *
          generalize (nthR R r).2 = q at *
          go_wp2_with fail
          have HB5 := Lib.hid (HB.out.later (alloc_belowS wr (.cells #[.string l, .string q] 60)))
          have hcb := alloc_at wr (.cells #[.string l, .string q] 60)
          have hc0 := (sys_cells hcb).1
          have HCB := Lib.hid hcb
          clear k0 k1 hcb
          generalize hg : wr.heap.size = g at *
          generalize wr.alloc (.cells #[.string l, .string q] 60) = w5 at *
          cases hp : preAt w0 i l
          · have HNX := Lib.hid (HN.out hp)
            rw [hp] at HHP
            clear hp HY HN
            generalize hX : stTo R w0 i r = X at *
            clear hX
            go_quiet ((go_at_call 189; refine (HHP.out _).mono ?_; rintro e w' ⟨rfl, rfl⟩; exact ⟨rfl, ⟨_, rfl⟩⟩))
            have HB6 := Lib.hid (HB5.out.later (below_drewN (Below.refl _ _) nq))
            go_wp2_with fail
            go_roundw
            case rel => exact ⟨r + 1, by omega, by go_num, by rw [HNX.out]; exact HB6.out⟩
            case measure => simp [intOf]; omega
          · have HNX := Lib.hid (HY.out hp)
            rw [hp] at HHP
            clear hp HY HN
            generalize hX : stTo R w0 i r = X at *
            clear hX
            go_quiet ((go_at_call 189; refine (HHP.out _).mono ?_; rintro e w' ⟨rfl, rfl⟩; exact ⟨rfl, ⟨_, rfl⟩⟩))
            have HB6 := Lib.hid (HB5.out.later (below_drewN (Below.refl _ _) nq))
            go_wp2_with (at_builtin; refine wpList_app1 rfl _ _ rfl Tryz.underlying76 Tryz.infoStep2 rfl (by decide) rfl HB6.out rfl ?c1 ?c2 ?c3 ?c4 ?c5)
            case c2 => intro u hu; simp at hu; rcases hu with rfl | rfl <;> rfl
            case c3 => unfold maxLen; omega
            case c4 => omega
            case c1 => rfl
            intro v4 w4 hb4
            have HB4 : Hid (Bld 54 2 w1 w4 v4 (stTo R w0 i (r + 1)).length (cellsL stV (stTo R w0 i (r + 1)))) := Lib.hid (by
              rw [HNX.out, List.length_append, cells_stV]; exact hb4)
            obtain ⟨a4, c4, hv4⟩ := owns_form HB4.out.1
            subst hv4
            clear hb4
            go_wp2_with fail
            go_roundw
            case rel => exact ⟨r + 1, by omega, by go_num, HB4.out⟩
            case measure => simp [intOf]; omega
        · obtain rfl : r = R.length := by omega
          have HB2 : Hid (Bld 54 2 w1 wr (.slice a2 (stTo R w0 i R.length).length c2) (stTo R w0 (i + 1) 0).length (cellsL stV (stTo R w0 (i + 1) 0))) := Lib.hid (by rw [← HXT.out]; exact HB.out)
          clear hbd
          go_wp2_with fail
          go_roundw
          case rel => exact ⟨i + 1, by omega, by go_num, HB2.out⟩
          case measure => simp [intOf]; omega
    · obtain rfl : i = w0.size := by omega
      have F : Hid (RetSl 54 2 (stepsF R w0).length (cellsL stV (stepsF R w0)) w (.returned (.slice ao (stTo R w0 w0.size 0).length co)) wr) := Lib.hid (by
        rw [stTo_done] at HB ⊢
        exact ((HB.out.since HW1.out).ret))
      go_wp2_with fail
      go_ret
      exact F.out
end Go.Proofs.YtggfhephdcnpcaaGreatDoor
namespace Go.Proofs.YtggfhephdcnpcaaGreatDoor
open Go.RowKit
set_option linter.unusedVariables false
theorem stTo_none {R : List RulD} {w : ByteArray} {i k : Nat} (h0 : stTo R w i k = []) (h : preAt w i (nthR R k).1 = false) : stTo R w i (k + 1) = [] := by rw [stTo_no h, h0]
set_option maxRecDepth 100000 in
set_option maxHeartbeats 2000000 in
theorem implFirstStep_any (k : Int) (R : List RulD) (a : Option Addr) (cap : Nat) (w0 : ByteArray) (w : World) (hl : RulesIn w a R) (hs : sysP k R) (hw : w0.size ≤ 16) :
    Calls Tryz.prog 141 #[.agg #[.int .i64 k, .slice a R.length cap], .string w0] w (RetFS R w0 w) := by
  have h12 : R.length ≤ 12 := hs.1.1.2
  have h8 := left8 hs
  have HL := Lib.hid hl
  have HA2 := Lib.hid (fun o o2 => Below.now (alloc_belowS w o) (alloc_belowS (w.alloc o) o2))
  have e1 : (w.alloc (.cells #[.int .i64 k, .slice a R.length cap] 29)).heap.size = w.heap.size + 1 := by simp
  have HBX := Lib.hid (fun W2 (h : Below ((w.alloc (.cells #[.int .i64 k, .slice a R.length cap] 29)).alloc (.cells #[.int .i64 0, .int .i64 0] 54)).heap.size ((w.alloc (.cells #[.int .i64 k, .slice a R.length cap] 29)).alloc (.cells #[.int .i64 0, .int .i64 0] 54)) W2) => And.intro (box_two (Below.now (alloc_belowS (w.alloc (.cells #[.int .i64 k, .slice a R.length cap] 29)) _) h)) (box_facts h))
  rw [e1] at HBX
  have HW1 : Hid (Below w.heap.size w ((w.alloc (.cells #[.int .i64 k, .slice a R.length cap] 29)).alloc (.cells #[.int .i64 0, .int .i64 0] 54))) := Lib.hid (HA2.out _ _)
  have HL1 := Lib.hid (HL.out.later HW1.out)
  clear hl hs e1
  go_enter Tryz.func141, Tryz.ntmps141
  go_wp2_with fail
  generalize (w.alloc (.cells #[.int .i64 k, .slice a R.length cap] 29)).alloc (.cells #[.int .i64 0, .int .i64 0] 54) = w1 at *
  go_loopw [11] (fun vi wr => ∃ i : Nat, i ≤ w0.size ∧ vi = .int .i64 (i : Nat) ∧ Hid (stTo R w0 i 0 = []) ∧ Below w1.heap.size w1 wr) (fun vi _ => w0.size - (intOf vi).toNat)
  case atStart => exact ⟨0, Nat.zero_le _, rfl, Lib.hid rfl, Below.refl _ _⟩
  case round =>
    obtain ⟨i, hi, rfl, HNO, hbw⟩ := hrel
    have HB := Lib.hid hbw
    obtain ⟨⟨s0, s1⟩, ⟨b0, b1⟩, f0, f1⟩ := HBX.out wr hbw
    clear hbw
    by_cases hlt : i < w0.size
    · have HXT := Lib.hid (stTo_next R w0 i)
      go_wp2_with fail
      generalize hW : wr = wr0 at *
      clear hW s0 s1 b0 b1 f0 f1
      go_loopw [17] (fun vr wr => ∃ r : Nat, r ≤ R.length ∧ vr = .int .i64 (r : Nat) ∧ Hid (stTo R w0 i r = []) ∧ Below w1.heap.size w1 wr) (fun vr _ => R.length - (intOf vr).toNat)
      case atStart => exact ⟨0, Nat.zero_le _, rfl, HNO, HB.out⟩
      case round =>
        clear HB HNO
        obtain ⟨r, hr, rfl, HNO, hbw⟩ := hrel
        by_cases hlr : r < R.length
        · obtain ⟨b, off, rfl, hb, k0, k1⟩ := rule_at HL1.out hbw hlr
          have hl8 := h8 r
          have HY := Lib.hid (fun h => first_at (R := R) (w := w0) (i := i) (k := r) hlt hlr HNO.out h)
          have HN := Lib.hid (fun h => stTo_none (R := R) (w := w0) (i := i) (k := r) HNO.out h)
          have HHP := Lib.hid (fun W => Tryz.strings_HasPrefix (w0.extract i w0.size) (nthR R r).1 W)
          rw [preAt_hp] at HHP
          have x3 : (i : Int) ≤ (w0.size : Int) := by omega
          have x4 : i ≤ w0.size := by omega
          have HB := Lib.hid hbw
          clear hbw
          generalize (nthR R r).1 = l at *
          generalize (nthR R r).2 = q at *
          go_wp2_with fail
          have HB5 := Lib.hid (Below.now HB.out (alloc_belowS wr (.cells #[.string l, .string q] 60)))
          have hcb := alloc_at wr (.cells #[.string l, .string q] 60)
          have hc0 := (sys_cells hcb).1
          clear k0 k1 hcb
          generalize hg : wr.heap.size = g at *
          generalize wr.alloc (.cells #[.string l, .string q] 60) = w5 at *
          cases hp : preAt w0 i l
          · have HNX := Lib.hid (HN.out hp)
            rw [hp] at HHP
            clear hp HY HN
            go_quiet ((go_at_call 189; refine (HHP.out _).mono ?_; rintro e w' ⟨rfl, rfl⟩; exact ⟨rfl, ⟨_, rfl⟩⟩))
            have HB6 := Lib.hid (Below.now HB5.out (below_drewN (Below.refl _ _) nq))
            go_wp2_with fail
            go_roundw
            case rel => exact ⟨r + 1, by omega, by go_num, HNX, HB6.out⟩
            case measure => simp [intOf]; omega
          · have HYX := Lib.hid (HY.out hp)
            rw [hp] at HHP
            clear hp HY HN
            go_quiet ((go_at_call 189; refine (HHP.out _).mono ?_; rintro e w' ⟨rfl, rfl⟩; exact ⟨rfl, ⟨_, rfl⟩⟩))
            have HB6 := Lib.hid (Below.now HB5.out (below_drewN (Below.refl _ _) nq))
            obtain ⟨_, ⟨b0, b1⟩, f0, f1⟩ := HBX.out _ HB6.out
            have HW6 := Lib.hid (Below.now HW1.out HB6.out)
            clear hc0
            go_wp2_with fail
            refine bodyPost_ret (v := .tuple #[.agg #[.int .i64 (r : Nat), .int .i64 (i : Nat)], .bool true]) ?_ rfl ?_
            · simp [results, Tryz.results141, go_sem, b0, b1]
            · exact ⟨(HW6.out.setCell (show w.heap.size ≤ w.heap.size + 1 by omega) _).setCell (show w.heap.size ≤ w.heap.size + 1 by omega) _, .inl ⟨(r, i), HYX.out, rfl⟩⟩
        · obtain rfl : r = R.length := by omega
          have HN2 : Hid (stTo R w0 (i + 1) 0 = []) := Lib.hid (by rw [← HXT.out]; exact HNO.out)
          go_wp2_with fail
          go_roundw
          case rel => exact ⟨i + 1, by omega, by go_num, HN2, hbw⟩
          case measure => simp [intOf]; omega
    · obtain rfl : i = w0.size := by omega
      have HHD : Hid ((stepsF R w0).head? = none) := Lib.hid (by rw [← stTo_done, HNO.out]; rfl)
      have HW6 := Lib.hid (Below.now HW1.out HB.out)
      go_wp2_with fail
      refine bodyPost_ret (v := .tuple #[.agg #[.int .i64 0, .int .i64 0], .bool false]) ?_ rfl ?_
      · simp [results, Tryz.results141, go_sem, b0, b1]
      · exact ⟨(HW6.out.setCell (show w.heap.size ≤ w.heap.size + 1 by omega) _).setCell (show w.heap.size ≤ w.heap.size + 1 by omega) _, .inr ⟨HHD.out, rfl⟩⟩
end Go.Proofs.YtggfhephdcnpcaaGreatDoor
