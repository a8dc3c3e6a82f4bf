/-
  l08Find and MonoidOf of the reference.
-/
import Derived.Test.YtggfhephdcnpcaaGreatGrp28
import Derived.Test.YtggfhephdcnpcaaGreatGrp19
import Derived.Test.YtggfhephdcnpcaaGreatGrp11
import Derived.IntWalk
namespace Go.Proofs.YtggfhephdcnpcaaGreat
open Go.RowKit
set_option linter.unusedVariables false
set_option maxHeartbeats 400000 in
theorem l08Find_any (v : ByteArray) (l : List ByteArray) (a : Option Addr) (cap : Nat) (w : World) (hl : StrsIn w a l) (hlen : l.length ≤ 2 ^ 47) :
    Calls Tryz.prog 109 #[.slice a l.length cap, .string v] w fun e w' => e = .returned (.int .i64 (idxB l v)) ∧ Below w.heap.size w w' := by
  have HL := Lib.hid hl
  clear hl
  go_enter Tryz.func109, Tryz.ntmps109
  go_wp2_with fail
  go_loopw [9] (fun i wr => ∃ j : Nat, j ≤ l.length ∧ i = .int .i64 j ∧ Hid (idxTo l v j = none) ∧ wr = w) (fun i _ => l.length - (intOf i).toNat)
  case atStart => exact ⟨0, Nat.zero_le _, rfl, Lib.hid (idxTo_zero _ _), rfl⟩
  case round =>
    obtain ⟨j, hj, rfl, H, rfl⟩ := hrel
    by_cases hlt : j < l.length
    · obtain ⟨b, off, rfl, hb, hc⟩ := HL.out.cell hlt
      have h1 : wr.cell? ⟨b, off + j, none⟩ = some (.string (nthS l j)) := hc j hlt
      have HS1 : Hid (((nthS l j).toList == v.toList) = false → idxTo l v (j + 1) = none) := Lib.hid (fun hp => idxTo_succ H.out hp)
      have HS2 : Hid (((nthS l j).toList == v.toList) = true → idxB l v = (j : Int)) := Lib.hid (fun hp => idxB_at H.out hlt hp)
      clear hc
      generalize nthS l j = u at *
      cases hp : (u.toList == v.toList)
      · have F := Lib.hid (HS1.out hp)
        go_wp2_with fail
        go_roundw
        case rel => exact ⟨j + 1, by omega, by go_num, F, trivial⟩
        case measure => simp [intOf]; omega
      · have F := Lib.hid (HS2.out hp)
        go_wp2_with fail
        go_ret
        exact ⟨ret_int F.out.symm, Below.refl _ _⟩
    · have F := Lib.hid (idxB_none H.out hlt hj)
      go_wp2_with fail
      go_ret
      exact ⟨ret_int F.out.symm, Below.refl _ _⟩
theorem RetMon.no {k : Int} {R : List RulD} {w w' : World} (h : ¬ GoM k R) (hb : Below w.heap.size w w') : RetMon k R w (.returned (.tuple #[.agg #[.int .i64 0, .slice none 0 0], .slice none 0 0, .bool false])) w' :=
  ⟨[], [], false, none, none, 0, 0, .inl ⟨h, rfl, rfl, rfl⟩, rfl, World.ownsRow_nil _ _ _ _, World.ownsRow_nil _ _ _ _, hb⟩
/-- the table that is being made, at block g -/
def MonSt (w wr : World) (g : Nat) (L : List ByteArray) (xs : List Int) : Prop := ∃ v, Rec2 25 3 1 w wr g (.int .i64 (L.length : Nat)) v xs.length (intVals xs)
theorem intVals_one (x : Int) (l : List Int) : intVals (l ++ [x]) = intVals l ++ [.int .i64 x] := by simp [intVals]
set_option maxRecDepth 100000 in
set_option maxHeartbeats 4000000 in
theorem specMonoidOf_any (k : Int) (R : List RulD) (a : Option Addr) (cap : Nat) (w : World) (hl : RulesIn w a R) (hlen : R.length ≤ 2 ^ 40) (hz : SzR R) :
    Calls Tryz.prog 77 #[.agg #[.int .i64 k, .slice a R.length cap]] w (RetMon k R w) := by
  have HIC := Lib.hid (fun W h => specIsComplete_any k R a cap W h hlen hz)
  have HCA := Lib.hid (fun W h => specCountAll_any k R a cap W h hlen hz)
  have HLR := Lib.hid (fun W h => specLongestReduced_any k R a cap W h hlen hz)
  have HAR := Lib.hid (fun W h => specAllReduced_fn k R a cap W h hlen hz)
  have HNF := Lib.hid (fun w0 W h hs hw => specNormalForm_ok k R a cap w0 W h hs hw)
  have HL := Lib.hid hl
  have e1 : (w.alloc (.cells #[.int .i64 k, .slice a R.length cap] 67)).heap.size = w.heap.size + 1 := by simp
  have HW1 : Hid (Below w.heap.size w ((w.alloc (.cells #[.int .i64 k, .slice a R.length cap] 67)).alloc (.cells #[.int .i64 0, .slice none 0 0] 25))) := Lib.hid (Below.now (alloc_belowS w _) (alloc_belowS _ _))
  have HBX := Lib.hid (fun W2 (h : Below ((w.alloc (.cells #[.int .i64 k, .slice a R.length cap] 67)).alloc (.cells #[.int .i64 0, .slice none 0 0] 25)).heap.size ((w.alloc (.cells #[.int .i64 k, .slice a R.length cap] 67)).alloc (.cells #[.int .i64 0, .slice none 0 0] 25)) W2) => And.intro (box_two (Below.now (alloc_belowS (w.alloc (.cells #[.int .i64 k, .slice a R.length cap] 67)) _) h)) (box_facts h))
  rw [e1] at HBX
  have HZ : Hid (w.heap.size + 1 < ((w.alloc (.cells #[.int .i64 k, .slice a R.length cap] 67)).alloc (.cells #[.int .i64 0, .slice none 0 0] 25)).heap.size) := Lib.hid (by simp)
  clear hl hz e1
  go_enter Tryz.func77, Tryz.ntmps77
  go_wp2_with fail
  generalize (w.alloc (.cells #[.int .i64 k, .slice a R.length cap] 67)).alloc (.cells #[.int .i64 0, .slice none 0 0] 25) = w1 at *
  refine (HIC.out _ (HL.out.later HW1.out)).mono ?_
  rintro e w2 ⟨bb, hbb, rfl, hb2⟩
  have HBB := Lib.hid hbb
  have HB2 := Lib.hid hb2
  obtain ⟨⟨s0, s1⟩, ⟨u0, u1⟩, z0, z1⟩ := HBX.out _ hb2
  clear hbb hb2
  cases bb
  · have F : Hid (RetMon k R w (.returned (.tuple #[.agg #[.int .i64 0, .slice none 0 0], .slice none 0 0, .bool false])) ((w2.setCell ⟨w.heap.size + 1, 0, none⟩ (.int .i64 0)).setCell ⟨w.heap.size + 1, 1, none⟩ (.slice none 0 0))) := Lib.hid (RetMon.no (fun h => by have := HBB.out.2 h.1; cases this) (((Below.now HW1.out HB2.out).setCell (by simp; try omega) _).setCell (by simp; try omega) _))
    go_wp2_with fail
    refine bodyPost_ret (v := .tuple #[.agg #[.int .i64 0, .slice none 0 0], .slice none 0 0, .bool false]) ?_ rfl F.out
    simp [results, Tryz.results77, go_sem, u0, u1]
  · have HCP := Lib.hid (HBB.out.1 rfl)
    go_wp2_with fail
    refine (HCA.out _ (HL.out.later (Below.now HW1.out HB2.out))).mono ?_
    rintro e w3 ⟨c, hc, rfl, hb3⟩
    have HC := Lib.hid hc
    have HB3 := Lib.hid (Below.now HB2.out hb3)
    have HR0 := Lib.hid (fun W => l01In_any c 1 40 W)
    clear hc hb3 s0 s1 u0 u1 z0 z1 HB2 HBB
    obtain ⟨⟨s0, s1⟩, ⟨u0, u1⟩, z0, z1⟩ := HBX.out _ HB3.out
    cases hin : inB c 1 40
    · have HIN := Lib.hid hin
      rw [hin] at HR0
      have F : Hid (RetMon k R w (.returned (.tuple #[.agg #[.int .i64 0, .slice none 0 0], .slice none 0 0, .bool false])) ((w3.setCell ⟨w.heap.size + 1, 0, none⟩ (.int .i64 0)).setCell ⟨w.heap.size + 1, 1, none⟩ (.slice none 0 0))) := Lib.hid (RetMon.no (fun h => by
        obtain ⟨_, ⟨c2, h1, h2, h3⟩, _⟩ := h
        obtain rfl := h1.uniq HC.out
        have h4 := HIN.out
        unfold inB at h4
        simp at h4
        omega) (((Below.now HW1.out HB3.out).setCell (by simp; try omega) _).setCell (by simp; try omega) _))
      clear hin
      go_wp2_with (go_at_call 104; refine (HR0.out _).mono ?_; rintro e w' ⟨rfl, rfl⟩)
      refine bodyPost_ret (v := .tuple #[.agg #[.int .i64 0, .slice none 0 0], .slice none 0 0, .bool false]) ?_ rfl F.out
      simp [results, Tryz.results77, go_sem, u0, u1]
    · have HIN := Lib.hid hin
      rw [hin] at HR0
      clear hin
      go_wp2_with (go_at_call 104; refine (HR0.out _).mono ?_; rintro e w' ⟨rfl, rfl⟩)
      refine (HLR.out _ (HL.out.later (Below.now HW1.out HB3.out))).mono ?_
      rintro e w4 ⟨h, hh, rfl, hb4⟩
      have HH := Lib.hid hh
      have HB4 := Lib.hid (Below.now HB3.out hb4)
      clear hh hb4 s0 s1 u0 u1 z0 z1 HR0
      obtain ⟨⟨s0, s1⟩, ⟨u0, u1⟩, z0, z1⟩ := HBX.out _ HB4.out
      by_cases h8 : 8 < h
      · have F : Hid (RetMon k R w (.returned (.tuple #[.agg #[.int .i64 0, .slice none 0 0], .slice none 0 0, .bool false])) ((w4.setCell ⟨w.heap.size + 1, 0, none⟩ (.int .i64 0)).setCell ⟨w.heap.size + 1, 1, none⟩ (.slice none 0 0))) := Lib.hid (RetMon.no (fun hg => by
          obtain ⟨_, _, h2, h3, h4⟩ := hg
          obtain rfl := h3.uniq HH.out
          omega) (((Below.now HW1.out HB4.out).setCell (by simp; try omega) _).setCell (by simp; try omega) _))
        go_wp2_with fail
        refine bodyPost_ret (v := .tuple #[.agg #[.int .i64 0, .slice none 0 0], .slice none 0 0, .bool false]) ?_ rfl F.out
        simp [results, Tryz.results77, go_sem, u0, u1]
      · have HGO : Hid (GoM k R) := Lib.hid ⟨HCP.out, ⟨c, HC.out, inB_bounds HIN.out⟩, h, HH.out, by omega⟩
        go_wp2_with fail
        refine (HAR.out _ (HL.out.later (Below.now HW1.out HB4.out))).mono ?_
        rintro e w5 ⟨L, f, aL, cL, hal, rfl, hol, hb5⟩
        obtain rfl : f = true := by
          rcases hal with ⟨h1, _⟩ | ⟨_, _, _, _, _, _, h1, _⟩
          · exact absurd ⟨c, HC.out, by have := inB_bounds HIN.out; omega, by have := inB_bounds HIN.out; omega⟩ h1
          · exact h1
        have HAL := Lib.hid hal
        have HMW := Lib.hid (HGO.out.words hal)
        have hlen40 := HMW.out.few
        have HB5 := Lib.hid (Below.now HB4.out hb5)
        have HOL : Hid (w5.ownsRow (w.heap.size + 2) 9 1 (.slice aL L.length cL) L.length (strVals L)) := Lib.hid (owns_mono hol (by have := HB4.out.size; have := HZ.out; omega))
        have HSL : Hid (StrsIn w5 aL L) := Lib.hid (owns_cells hol)
        have HST : Hid (MonSt w5 (w5.alloc (.cells #[.int .i64 (L.length : Nat), .slice none 0 0] 25)) w5.heap.size L (prodTo R L 0 0)) := Lib.hid ⟨_, Rec2.start _ _ 1 (Below.refl _ _) _⟩
        clear hal hol hb5 s0 s1 u0 u1 z0 z1 h8 HB3 HB4
        go_wp2_with fail
        generalize w5.alloc (.cells #[.int .i64 (L.length : Nat), .slice none 0 0] 25) = w6 at *
        generalize hg : w5.heap.size = g at *
        have HG := Lib.hid hg
        clear hg
        go_loopw [39] (fun vi wr => ∃ i : Nat, i ≤ L.length ∧ vi = .int .i64 i ∧ Hid (MonSt w5 wr g L (prodTo R L i 0))) (fun vi _ => L.length - (intOf vi).toNat)
        case atStart => exact ⟨0, Nat.zero_le _, rfl, HST⟩
        case round =>
          clear HST
          obtain ⟨i, hi, rfl, HST⟩ := hrel
          obtain ⟨vt, HR⟩ := HST.out
          have HRH := Lib.hid HR
          have hbw := HR.below
          by_cases hlt : i < L.length
          · obtain ⟨b, off, rfl, hb, hc⟩ := (HSL.out.later hbw).cell hlt
            have c1 := hc i hlt
            clear hc hbw HR
            have HWP : Hid (∀ j, j < L.length → wordOkB k (nthS L i ++ nthS L j) = true ∧ (nthS L i).size + (nthS L j).size ≤ 16) := Lib.hid (fun j hj => HMW.out.pair hlt hj)
            have HPS := Lib.hid (fun j => prodTo_step R L i j)
            generalize hu : nthS L i = u at *
            have HU := Lib.hid hu
            clear hu
            go_wp2_with fail
            generalize hW : wr = wr0 at *
            clear hW
            go_loopw [45] (fun vj wr => ∃ j : Nat, j ≤ L.length ∧ vj = .int .i64 j ∧ Hid (MonSt w5 wr g L (prodTo R L i j))) (fun vj _ => L.length - (intOf vj).toNat)
            case atStart => exact ⟨0, Nat.zero_le _, rfl, HST⟩
            case round =>
              clear HST HRH
              obtain ⟨j, hj, rfl, HST⟩ := hrel
              obtain ⟨v0, HR⟩ := HST.out
              have HRH := Lib.hid HR
              have hbw := HR.below
              by_cases hjl : j < L.length
              · obtain ⟨b2, off2, ha2, hb2, hc2⟩ := (HSL.out.later hbw).cell hjl
                cases ha2
                have c2 := hc2 j hjl
                obtain ⟨hwok, hsz⟩ := HWP.out j hjl
                have HWO := Lib.hid hwok
                obtain ⟨⟨s0, s1⟩, _, _, _⟩ := HBX.out wr (Below.now HB5.out hbw)
                have hx1 : ¬ 9223372036854775807 < u.size + (nthS L j).size := by omega
                have HNC := Lib.hid (HNF.out (u ++ nthS L j) wr (HL.out.later (Below.now HW1.out (Below.now HB5.out hbw))) HCP.out.1 hwok)
                have HP1 := Lib.hid (HPS.out j)
                clear hc2 hbw HR hwok
                generalize nthS L j = y at *
                go_wp2_with fail
                refine HNC.out.mono ?_
                rintro e w7 ⟨x, hx, rfl, hb7⟩
                obtain rfl := nfC_eq hx
                have HR7 := Lib.hid (HRH.out.later hb7)
                obtain ⟨_, t1, _, f1⟩ := HR7.out.facts
                have HS7 := Lib.hid (fun W (hW : Below w7.heap.size w7 W) => HSL.out.later (Below.now HR7.out.below hW))
                have hgl := HR7.out.lt
                have hxl := prodTo_few hlen40 (R := R) hi hj
                clear hx hb7 HRH s0 s1 c1 c2 HNC HWO
                generalize nfC R (u ++ y) = x at *
                have HFD := Lib.hid (fun W h => l08Find_any x L (some ⟨b, off, none⟩) cL W h (by omega))
                generalize idxB L x = z at *
                have HXS : Hid (∃ xs, xs = prodTo R L i j) := Lib.hid ⟨_, rfl⟩
                generalize prodTo R L i j = xs at *
                have M1 : Hid (∀ u ∈ [Value.int .i64 z], u.oneCell' = true) := Lib.hid (fun u hu => by rw [List.mem_singleton.1 hu]; rfl)
                have N3 : Hid (xs.length + 1 ≤ maxLen) := Lib.hid (by unfold maxLen; omega)
                have N4 : Hid ((xs.length + 1) * 8 ≤ 140737488355328) := Lib.hid (by omega)
                clear hxl HXS
                go_wp2_with fail
                have kr := Below.refl w7.heap.size w7
                go_region_law (first
                  | (go_simp; go_at_call 109; refine (HFD.out _ (HS7.out _ (by repeat (first | exact kr | refine Below.drew ?_ | refine below_drewN ?_ _)))).mono ?_; rintro e w8 ⟨rfl, hb8⟩; replace kr : Below w7.heap.size w7 w8 := Below.now (by repeat (first | exact kr | refine Below.drew ?_ | refine below_drewN ?_ _)) hb8; have HR8 := Lib.hid (HR7.out.later kr); have q0 := HR8.out.facts.2.1; have q2 : ∀ ob, (w8.alloc ob).cell? ⟨g, 1, none⟩ = some v0 := fun ob => (HR8.out.later (alloc_belowS w8 ob)).facts.2.1; clear hb8)
                  | (refine step_appH rfl (.tmp 58) (.tmp 62) (by rfl) Tryz.underlying23 Tryz.infoInt rfl (by decide) (by rfl) HR8.out.own HR8.out.lt (by rfl) (by rfl) M1.out N3.out N4.out ?_; intro g4 c4 w9 hn9 hg9; have P9 := Lib.hid (HR8.out.put (Below.refl _ _) hg9 hn9); have q9 := rec_cells (HR8.out.grown (Below.refl _ _) hg9); obtain ⟨_, q1, _, q3⟩ := q9; clear hn9 hg9))
                all_goals
                  have F : Hid (MonSt w5 (w9.setCell ⟨g, 1, none⟩ (.slice (some ⟨g4, 0, none⟩) (xs.length + 1) c4)) g L (prodTo R L i (j + 1))) := Lib.hid ⟨_, by rw [HP1.out, intVals_one, List.length_append]; exact P9.out⟩
                  clear q0 q1 q2 q3 t1 f1
                  go_wp2_with fail
                  go_roundw
                  case rel => exact ⟨j + 1, by omega, by go_num, F⟩
                  case measure => simp [intOf]; omega
              · obtain rfl : j = L.length := by omega
                have F : Hid (MonSt w5 wr g L (prodTo R L (i + 1) 0)) := Lib.hid (by rw [← prodTo_next]; exact HST.out)
                clear HR hbw
                go_wp2_with fail
                go_roundw
                case rel => exact ⟨i + 1, by omega, by go_num, F⟩
                case measure => simp [intOf]; omega
          · obtain rfl : i = L.length := by omega
            obtain ⟨aP, cP, hv⟩ := owns_form HR.own
            subst hv
            obtain ⟨t0, t1, _, _⟩ := HR.facts
            obtain ⟨_, ⟨u0, u1⟩, z0, z1⟩ := HBX.out wr (Below.now HB5.out hbw)
            have hg1 : w.heap.size + 2 ≤ g := by have := HB5.out.size; have := HZ.out; have := HG.out; omega
            have hPL : prodTo R L L.length 0 = prodF R L := prodTo_done R L
            rw [hPL] at HRH t1 HR
            have F : Hid (RetMon k R w (.returned (.tuple #[.agg #[.int .i64 (L.length : Nat), .slice aP (prodF R L).length cP], .slice aL L.length cL, .bool true])) ((wr.setCell ⟨w.heap.size + 1, 0, none⟩ (.int .i64 (L.length : Nat))).setCell ⟨w.heap.size + 1, 1, none⟩ (.slice aP (prodF R L).length cP))) :=
              Lib.hid ⟨L, prodF R L, true, aP, aL, cP, cL, .inr ⟨HGO.out, HAL.out, rfl, rfl⟩, rfl,
                owns_mono (ownsRow_setCell_below (ownsRow_setCell_below HRH.out.own (by show w.heap.size + 1 < g + 1; omega) _) (by show w.heap.size + 1 < g + 1; omega) _) (by omega),
                owns_mono (ownsRow_setCell_below (ownsRow_setCell_below (owns_later HOL.out HRH.out.below) (by show w.heap.size + 1 < w.heap.size + 2; omega) _) (by show w.heap.size + 1 < w.heap.size + 2; omega) _) (by omega),
                ((Below.now HW1.out (Below.now HB5.out hbw)).setCell (by simp; try omega) _).setCell (by simp; try omega) _⟩
            clear hPL hbw HR
            go_wp2_with fail
            refine bodyPost_ret (v := .tuple #[.agg #[.int .i64 (L.length : Nat), .slice aP (prodF R L).length cP], .slice aL L.length cL, .bool true]) ?_ rfl F.out
            simp [results, Tryz.results77, go_sem, u0, u1]
end Go.Proofs.YtggfhephdcnpcaaGreat
