/-
  Counts of accepted words, as plain data.
-/
import Derived.Test.YtoddpmdjjgnpgaaGreatDoorGra15
import Derived.Test.YtoddpmdjjgnpgaaGreatDoorGra09
namespace Go.Proofs.YtoddpmdjjgnpgaaGreatDoor
open Go.RowKit
set_option linter.unusedVariables false
def cmpV (n : Nat) (v : Int) : Int := if v < 0 then (n : Int) else v
def cmpM (n : Nat) (N : List Int) : List Int := N.map (cmpV n)
def cmpN (k n : Nat) (N : List Int) : List Int := cmpM n N ++ List.replicate k (n : Int)
def cmpF (F : List Bool) : List Bool := F.map (fun b => !b) ++ [true]
theorem cmp_ok {k : Nat} {N : List Int} {F : List Bool} (h : AutP k N F) (h80 : F.length < 80) : AutP k (cmpN k F.length N) (cmpF F) := by
  have hl : (cmpF F).length = F.length + 1 := by simp [cmpF]
  refine ⟨⟨h.1.1, by omega, by omega⟩, ?_, fun v hv => ?_⟩
  · rw [hl]; simp only [cmpN, cmpM, List.length_append, List.length_map, List.length_replicate, h.2.1, Nat.succ_mul]
  · rw [hl]
    rcases List.mem_append.1 hv with hv | hv
    · obtain ⟨u, hu, rfl⟩ := List.mem_map.1 hv
      have := h.2.2 u hu
      unfold cmpV
      split <;> omega
    · have := (List.mem_replicate.1 hv).2; omega
theorem cmp_nx {k : Nat} {N : List Int} {F : List Bool} (h : AutP k N F) {s x : Nat} (hs : s < F.length) (hx : x < k) : nxI k (cmpN k F.length N) s x = cmpV F.length (nxI k N s x) := by
  have h1 := h.slot hs hx
  unfold nxI cmpN cmpM
  rw [List.getD_eq_getElem?_getD, List.getD_eq_getElem?_getD, List.getElem?_append_left (by rw [List.length_map]; exact h1), List.getElem?_map, List.getElem?_eq_getElem h1]
  rfl
theorem cmp_nx2 {k : Nat} {N : List Int} {F : List Bool} (h : AutP k N F) {x : Nat} (hx : x < k) : nxI k (cmpN k F.length N) F.length x = (F.length : Int) := by
  unfold nxI cmpN cmpM
  rw [List.getD_eq_getElem?_getD, List.getElem?_append_right (by rw [List.length_map, h.2.1]; omega), List.length_map, h.2.1, Nat.add_sub_cancel_left, List.getElem?_replicate, if_pos hx]
  rfl
/-- the state behind all others accepts every word -/
theorem cmp_top {k : Nat} {N : List Int} {F : List Bool} (h : AutP k N F) : ∀ w : List Nat, (∀ y ∈ w, y < k) → accA k (cmpN k F.length N) (cmpF F) F.length w
  | [], _ => by
    rw [accA]; unfold cmpF
    rw [List.getD_eq_getElem?_getD, List.getElem?_append_right (by rw [List.length_map]; omega), List.length_map, Nat.sub_self]
    rfl
  | x :: w, hw => by
    rw [accA, cmp_nx2 h (hw x List.mem_cons_self)]
    exact ⟨hw x List.mem_cons_self, by omega, by rw [show ((F.length : Nat) : Int).toNat = F.length by omega]; exact cmp_top h w fun y hy => hw y (List.mem_cons_of_mem _ hy)⟩
/-- the complement accepts what is not accepted -/
theorem cmp_acc {k : Nat} {N : List Int} {F : List Bool} (h : AutP k N F) : ∀ (w : List Nat) (s : Nat), s < F.length → (∀ y ∈ w, y < k) → (accA k (cmpN k F.length N) (cmpF F) s w ↔ ¬ accA k N F s w)
  | [], s, hs, _ => by
    rw [accA, accA]; unfold cmpF
    rw [List.getD_eq_getElem?_getD, List.getD_eq_getElem?_getD, List.getElem?_append_left (by rw [List.length_map]; exact hs), List.getElem?_map, List.getElem?_eq_getElem hs]
    simp
  | x :: w, s, hs, hw => by
    have hx := hw x List.mem_cons_self
    have hw' : ∀ y ∈ w, y < k := fun y hy => hw y (List.mem_cons_of_mem _ hy)
    have hn := h.next hs hx
    rw [accA, accA, cmp_nx h hs hx]
    unfold cmpV
    split
    · rename_i hneg
      rw [show ((F.length : Nat) : Int).toNat = F.length by omega]
      exact ⟨fun _ hh => by omega, fun _ => ⟨hx, by omega, cmp_top h w hw'⟩⟩
    · rename_i hneg
      have ih := cmp_acc h w (nxI k N s x).toNat (by omega) hw'
      rw [ih]
      exact ⟨fun hh h2 => hh.2.2 h2.2.2, fun hh => ⟨hx, by omega, fun h2 => hh ⟨hx, by omega, h2⟩⟩⟩
/-- what ComplementOf hands back -/
def RetAu (k : Nat) (N : List Int) (F : List Bool) (w : World) (e : Ending) (w' : World) : Prop := ∃ (aN : Option Addr) (cN : Nat) (aF : Option Addr) (cF : Nat),
  e = .returned (.tuple #[.agg #[.int .i64 (k : Nat), .slice aN N.length cN, .slice aF F.length cF], .bool true]) ∧ OwnA w' w.heap.size aN N cN aF F cF ∧ Below w.heap.size w w'
set_option maxRecDepth 20000 in
set_option maxHeartbeats 4000000 in
theorem implComplement_any (k : Nat) (N : List Int) (F : List Bool) (aN aF : Option Addr) (cN cF : Nat) (w : World) (hN : IntsIn w aN N) (hF : BoolsIn w aF F) (h : AutP k N F) (h80 : F.length < 80) :
    Calls Tryz.prog 14 #[.agg #[.int .i64 (k : Nat), .slice aN N.length cN, .slice aF F.length cF]] w (RetAu k (cmpN k F.length N) (cmpF F) w) := by
  obtain ⟨w1, hw1⟩ : ∃ w1, (w.alloc (.cells #[.int .i64 (k : Nat), .slice aN N.length cN, .slice aF F.length cF] 30)).alloc (.cells #[.int .i64 0, .slice none 0 0, .slice none 0 0] 30) = w1 := ⟨_, rfl⟩
  have HB1 : Hid (Below w.heap.size w w1) := Lib.hid (by rw [← hw1]; exact ((Below.refl _ _).alloc (Nat.le_refl _) _).alloc (by simp) _)
  have HX1 : Hid (w1.heap[w.heap.size]? = some (.cells #[.int .i64 (k : Nat), .slice aN N.length cN, .slice aF F.length cF] 30 (0, 0))) := Lib.hid (by
    rw [← hw1, (alloc_belowS _ _).block _ (by simp)]; exact alloc_at _ _)
  have HZ1 : Hid (w1.heap[w.heap.size + 1]? = some (.cells #[.int .i64 0, .slice none 0 0, .slice none 0 0] 30 (0, 0))) := Lib.hid (by
    rw [← hw1]; have h := alloc_at (w.alloc (.cells #[.int .i64 (k : Nat), .slice aN N.length cN, .slice aF F.length cF] 30)) (.cells #[.int .i64 0, .slice none 0 0, .slice none 0 0] 30); simpa using h)
  have HOK := Lib.hid (fun W hW => implAutOk_yes k N F aN aF cN cF W hW h)
  have HN1 := Lib.hid (hN.later HB1.out)
  have HF1 := Lib.hid (hF.later HB1.out)
  have hsm := h.small
  have hk4 := h.1.1.2
  have HNL : Hid (∀ j, j < N.length → -1 ≤ nthZ N j ∧ nthZ N j ≤ 80) := Lib.hid (fun j hj => by
    have := h.2.2 (nthZ N j) (by rw [nthZ_lt hj]; exact List.getElem_mem hj); omega)
  have hn80 : ((F.length : Int) == 80) = false := by rw [beq_eq_false_iff_ne]; omega
  have HM1 : Hid ((cmpM F.length N).length = N.length) := Lib.hid (by simp [cmpM])
  have HMT : Hid (∀ j, j < N.length → (cmpM F.length N).take (j + 1) = (cmpM F.length N).take j ++ [cmpV F.length (nthZ N j)]) := Lib.hid (fun j hj => by
    rw [List.take_succ_eq_append_getElem (by rw [HM1.out]; exact hj)]
    congr 1
    simp [cmpM, nthZ_lt hj])
  have HFT : Hid (∀ j, j < F.length → (F.map fun b => !b).take (j + 1) = (F.map fun b => !b).take j ++ [!(F.getD j false)]) := Lib.hid (fun j hj => by
    rw [List.take_succ_eq_append_getElem (by simpa using hj)]
    congr 1
    simp [List.getD_eq_getElem?_getD, hj])
  clear hN hF h
  obtain ⟨x0, x1, x2⟩ := aut_cells HX1.out
  go_enter Tryz.func14, Tryz.ntmps14
  go_upto_region 1 with fail
  generalize (w.alloc (.cells #[.int .i64 (k : Nat), .slice aN N.length cN, .slice aF F.length cF] 30)).alloc (.cells #[.int .i64 0, .slice none 0 0, .slice none 0 0] 30) = wg at *
  subst hw1
  go_wp2_with fail
  refine (HOK.out _ HN1.out).mono ?_
  rintro e w3 ⟨rfl, hb3⟩
  have HB3 := Lib.hid (Below.now HB1.out hb3)
  have HX3 := Lib.hid (blk_later HX1.out hb3)
  have HZ3 := Lib.hid (blk_later HZ1.out hb3)
  have HN3 := Lib.hid (HN1.out.later hb3)
  have HF3 := Lib.hid (HF1.out.later hb3)
  have HA0 : Hid (AutB w3 (w3.alloc (.cells #[.int .i64 (k : Nat), .slice none 0 0, .slice none 0 0] 30)) w3.heap.size (k : Nat) (.slice none 0 0) (.slice none 0 0) [] []) := Lib.hid (AutB.start (Below.refl _ _) _)
  have hb4 := alloc_belowS w3 (.cells #[.int .i64 (k : Nat), .slice none 0 0, .slice none 0 0] 30)
  have HGZ : Hid (w.heap.size + 1 < w3.heap.size) := Lib.hid (Array.getElem?_eq_some_iff.1 HZ3.out).1
  have HKN : Hid ((N.length : Int) ≤ 320 ∧ N.length ≤ 320) := Lib.hid ⟨by omega, hsm⟩
  clear hb3 x0 x1 x2 HN1 HF1 HX1 HZ1 HB1 HOK
  obtain ⟨x0, x1, x2⟩ := aut_cells HX3.out
  have y1 := (aut_cells (blk_later HX3.out hb4)).2.1
  clear hb4
  go_upto_region 5 with fail
  clear x0 x1 x2 y1
  generalize w3.alloc (.cells #[.int .i64 (k : Nat), .slice none 0 0, .slice none 0 0] 30) = w4 at *
  have x1 := (aut_cells (blk_later HX3.out HA0.out.bel)).2.1
  go_wp2_with fail
  clear x1
  go_loopw [27] (fun i wr => ∃ (j : Nat) (v : Value), j ≤ N.length ∧ i = .int .i64 (j : Nat) ∧ Hid (AutB w3 wr w3.heap.size (k : Nat) v (.slice none 0 0) ((cmpM F.length N).take j) [])) (fun i _ => N.length - (intOf i).toNat)
  case atStart => exact ⟨0, .slice none 0 0, Nat.zero_le _, rfl, HA0⟩
  case round =>
    clear HA0
    obtain ⟨j, v, hj, rfl, HA⟩ := hrel
    obtain ⟨a3, c3, rfl⟩ := owns_form HA.out.nx
    have HLT : Hid (((cmpM F.length N).take j).length = j) := Lib.hid (by rw [List.length_take, HM1.out]; omega)
    have HNX : Hid (wr.ownsRow (w3.heap.size + 1) 3 1 (.slice a3 ((cmpM F.length N).take j).length c3) ((cmpM F.length N).take j).length (intVals ((cmpM F.length N).take j))) := Lib.hid HA.out.nx
    rw [HLT.out] at HNX HA
    by_cases hlt : j < N.length
    · obtain ⟨b, off, rfl, hb, hc⟩ := (HN3.out.later HA.out.bel).cell hlt
      have c1 := hc j hlt
      have hji : (j : Int) < (N.length : Int) := by omega
      have hnl := HNL.out j hlt
      have HT1 := Lib.hid (HMT.out j hlt)
      have HCV : Hid (cmpV F.length (nthZ N j) = if nthZ N j < 0 then (F.length : Int) else nthZ N j) := Lib.hid rfl
      clear hc
      generalize nthZ N j = y at *
      by_cases hy : y < 0
      · have HCU : Hid (cmpV F.length y = (F.length : Int)) := Lib.hid (by rw [HCV.out, if_pos hy])
        go_upto_region 10 with fail
        have HN1 : Hid ([Value.int .i64 (F.length : Int)].length = 1) := Lib.hid rfl
        have HN2 : Hid (∀ v ∈ [Value.int .i64 (F.length : Int)], v.oneCell' = true) := Lib.hid (fun v hv => by simp at hv; rcases hv with rfl; rfl)
        obtain ⟨z0, z1, z2⟩ := HA.out.cells
        have zf := HA.out.frz 1
        go_wp2_with (at_builtin; refine wpList_appH (n := j) (wr := wr) (news := [Value.int .i64 (F.length : Int)]) rfl (.tmp 35) (.tmp 37) rfl Tryz.underlying27 Tryz.infoInt rfl (by decide) rfl HNX.out HA.out.lt rfl HN1.out HN2.out (by unfold maxLen; omega) (by omega) ?_; intro g4 c4 w5 ho4 hg4 hr4; obtain ⟨q0, q1, q2, qf0, qf1, qf2⟩ := aut_facts ((HA.out.later (alloc_belowS wr _)).grownN hg4))
        have HP := Lib.hid ((HA.out.later (alloc_belowS wr _)).putN (x := (F.length : Int)) hg4 (by rw [HLT.out]; exact ho4))
        rw [← HCU.out, ← HT1.out] at HP
        clear ho4 hg4 hr4 z0 z1 z2 zf
        go_wp2_with fail
        go_roundw
        case rel => exact ⟨j + 1, _, by omega, by go_num, HP⟩
        case measure => simp [intOf]; omega
      · have HCU : Hid (cmpV F.length y = y) := Lib.hid (by rw [HCV.out, if_neg hy])
        rw [HCU.out] at HT1
        go_upto_region 10 with fail
        have HN1 : Hid ([Value.int .i64 y].length = 1) := Lib.hid rfl
        have HN2 : Hid (∀ v ∈ [Value.int .i64 y], v.oneCell' = true) := Lib.hid (fun v hv => by simp at hv; rcases hv with rfl; rfl)
        obtain ⟨z0, z1, z2⟩ := HA.out.cells
        have zf := HA.out.frz 1
        go_wp2_with (at_builtin; refine wpList_appH (n := j) (wr := wr) (news := [Value.int .i64 y]) rfl (.tmp 35) (.tmp 37) rfl Tryz.underlying27 Tryz.infoInt rfl (by decide) rfl HNX.out HA.out.lt rfl HN1.out HN2.out (by unfold maxLen; omega) (by omega) ?_; intro g4 c4 w5 ho4 hg4 hr4; obtain ⟨q0, q1, q2, qf0, qf1, qf2⟩ := aut_facts ((HA.out.later (alloc_belowS wr _)).grownN hg4))
        have HP := Lib.hid ((HA.out.later (alloc_belowS wr _)).putN (x := y) hg4 (by rw [HLT.out]; exact ho4))
        rw [← HT1.out] at HP
        clear ho4 hg4 hr4 z0 z1 z2 zf
        go_wp2_with fail
        go_roundw
        case rel => exact ⟨j + 1, _, by omega, by go_num, HP⟩
        case measure => simp [intOf]; omega
    · have hji : ¬ (j : Int) < (N.length : Int) := by omega
      have HAL : Hid (AutB w3 wr w3.heap.size (k : Nat) (.slice a3 N.length c3) (.slice none 0 0) (cmpM F.length N) []) := Lib.hid (by
        have h := HA.out
        rw [show j = N.length by omega, ← HM1.out, List.take_length, HM1.out] at h
        exact h)
      obtain rfl : j = N.length := by omega
      have x0 := (aut_cells (blk_later HX3.out HAL.out.bel)).1
      clear HA HNX HLT hji
      have HA2 : Hid (AutB w3 wr w3.heap.size (k : Nat) (.slice a3 N.length c3) (.slice none 0 0) (cmpM F.length N ++ List.replicate 0 (F.length : Int)) []) := Lib.hid (by rw [List.replicate_zero, List.append_nil]; exact HAL.out)
      have HR2 : Hid (∀ j, (cmpM F.length N ++ List.replicate j (F.length : Int)).length = N.length + j) := Lib.hid (fun j => by rw [List.length_append, HM1.out, List.length_replicate])
      have HRS : Hid (∀ j, cmpM F.length N ++ List.replicate (j + 1) (F.length : Int) = (cmpM F.length N ++ List.replicate j (F.length : Int)) ++ [(F.length : Int)]) := Lib.hid (fun j => by rw [List.replicate_succ', List.append_assoc])
      clear HAL
      obtain ⟨vN, hvN⟩ : ∃ vN, vN = Value.slice a3 N.length c3 := ⟨_, rfl⟩
      rw [← hvN] at HA2
      clear hvN
      go_wp2_with fail
      clear x0
      go_loopw [43] (fun i wr => ∃ (j : Nat) (v : Value), j ≤ k ∧ i = .int .i64 (j : Nat) ∧ Hid (AutB w3 wr w3.heap.size (k : Nat) v (.slice none 0 0) (cmpM F.length N ++ List.replicate j (F.length : Int)) [])) (fun i _ => k - (intOf i).toNat)
      case atStart => exact ⟨0, _, Nat.zero_le _, rfl, HA2⟩
      case round =>
        clear HA2
        obtain ⟨j, v, hj, rfl, HA⟩ := hrel
        obtain ⟨a5, c5, rfl⟩ := owns_form HA.out.nx
        have HNX : Hid (wr.ownsRow (w3.heap.size + 1) 3 1 (.slice a5 (cmpM F.length N ++ List.replicate j (F.length : Int)).length c5) (cmpM F.length N ++ List.replicate j (F.length : Int)).length (intVals (cmpM F.length N ++ List.replicate j (F.length : Int)))) := Lib.hid HA.out.nx
        rw [HR2.out j] at HNX HA
        by_cases hlt : j < k
        · have hji : (j : Int) < (k : Int) := by omega
          go_upto_region 14 with fail
          have HN1 : Hid ([Value.int .i64 (F.length : Int)].length = 1) := Lib.hid rfl
          have HN2 : Hid (∀ v ∈ [Value.int .i64 (F.length : Int)], v.oneCell' = true) := Lib.hid (fun v hv => by simp at hv; rcases hv with rfl; rfl)
          obtain ⟨z0, z1, z2⟩ := HA.out.cells
          have zf := HA.out.frz 1
          go_wp2_with (at_builtin; refine wpList_appH (n := (N.length + j)) (wr := wr) (news := [Value.int .i64 (F.length : Int)]) rfl (.tmp 46) (.tmp 48) rfl Tryz.underlying27 Tryz.infoInt rfl (by decide) rfl HNX.out HA.out.lt rfl HN1.out HN2.out (by unfold maxLen; omega) (by omega) ?_; intro g4 c4 w5 ho4 hg4 hr4; obtain ⟨q0, q1, q2, qf0, qf1, qf2⟩ := aut_facts ((HA.out.later (alloc_belowS wr _)).grownN hg4))
          have HP := Lib.hid ((HA.out.later (alloc_belowS wr _)).putN (x := (F.length : Int)) hg4 (by rw [HR2.out j]; exact ho4))
          rw [← HRS.out j] at HP
          clear ho4 hg4 hr4 z0 z1 z2 zf
          go_wp2_with fail
          go_roundw
          case rel => exact ⟨j + 1, _, by omega, by go_num, HP⟩
          case measure => simp [intOf]; omega
        · have hji : ¬ (j : Int) < (k : Int) := by omega
          have HFM : Hid ((F.map fun b => !b).length = F.length) := Lib.hid (by simp)
          have HA3 : Hid (AutB w3 wr w3.heap.size (k : Nat) (.slice a5 (cmpN k F.length N).length c5) (.slice none 0 0) (cmpN k F.length N) ((F.map fun b => !b).take 0)) := Lib.hid (by
            have h := HA.out
            rw [← HR2.out j, show j = k by omega] at h
            exact h)
          have x2 := (aut_cells (blk_later HX3.out HA3.out.bel)).2.2
          clear HA HNX hji
          go_upto_region 16 with fail
          go_wp2_with fail
          clear x2
          go_loopw [55] (fun i wr => ∃ (j : Nat) (u : Value), j ≤ F.length ∧ i = .int .i64 (j : Nat) ∧ Hid (AutB w3 wr w3.heap.size (k : Nat) (.slice a5 (cmpN k F.length N).length c5) u (cmpN k F.length N) ((F.map fun b => !b).take j))) (fun i _ => F.length - (intOf i).toNat)
          case atStart => exact ⟨0, _, Nat.zero_le _, rfl, HA3⟩
          case round =>
            clear HA3
            obtain ⟨j2, u, hj2, rfl, HA⟩ := hrel
            obtain ⟨a6, c6, rfl⟩ := owns_form HA.out.fn
            have HLT : Hid (((F.map fun b => !b).take j2).length = j2) := Lib.hid (by rw [List.length_take, HFM.out]; omega)
            have HNX : Hid (wr.ownsRow (w3.heap.size + 1) 4 1 (.slice a6 ((F.map fun b => !b).take j2).length c6) ((F.map fun b => !b).take j2).length (boolsV ((F.map fun b => !b).take j2))) := Lib.hid HA.out.fn
            rw [HLT.out] at HNX HA
            by_cases hlt2 : j2 < F.length
            · obtain ⟨b, off, rfl, hb, hc⟩ := (HF3.out.later HA.out.bel).cell hlt2
              have c1 := hc j2 hlt2
              have hji : (j2 : Int) < (F.length : Int) := by omega
              have HT1 := Lib.hid (HFT.out j2 hlt2)
              clear hc
              generalize F.getD j2 false = y at *
              go_upto_region 19 with fail
              have HN1 : Hid ([Value.bool (!y)].length = 1) := Lib.hid rfl
              have HN2 : Hid (∀ v ∈ [Value.bool (!y)], v.oneCell' = true) := Lib.hid (fun v hv => by simp at hv; rcases hv with rfl; rfl)
              obtain ⟨z0, z1, z2⟩ := HA.out.cells
              have zf := HA.out.frz 2
              go_wp2_with (at_builtin; refine wpList_appH (n := j2) (wr := wr) (news := [Value.bool (!y)]) rfl (.tmp 60) (.tmp 63) rfl Tryz.underlying28 Tryz.infoBool rfl (by decide) rfl HNX.out HA.out.lt rfl HN1.out HN2.out (by unfold maxLen; omega) (by omega) ?_; intro g4 c4 w5 ho4 hg4 hr4; obtain ⟨q0, q1, q2, qf0, qf1, qf2⟩ := aut_facts ((HA.out.later (alloc_belowS wr _)).grownF hg4))
              have HP := Lib.hid ((HA.out.later (alloc_belowS wr _)).putF (x := !y) hg4 (by rw [HLT.out]; exact ho4))
              rw [← HT1.out] at HP
              clear ho4 hg4 hr4 z0 z1 z2 zf c1
              go_wp2_with fail
              go_roundw
              case rel => exact ⟨j2 + 1, _, by omega, by go_num, HP⟩
              case measure => simp [intOf]; omega
            · have hji : ¬ (j2 : Int) < (F.length : Int) := by omega
              have HAL : Hid (AutB w3 wr w3.heap.size (k : Nat) (.slice a5 (cmpN k F.length N).length c5) (.slice a6 F.length c6) (cmpN k F.length N) (F.map fun b => !b)) := Lib.hid (by
                have h := HA.out
                rw [show j2 = F.length by omega, ← HFM.out, List.take_length, HFM.out] at h
                exact h)
              obtain rfl : j2 = F.length := by omega
              clear HA HNX HLT hji
              have HNX : Hid (wr.ownsRow (w3.heap.size + 1) 4 1 (.slice a6 F.length c6) F.length (boolsV (F.map fun b => !b))) := Lib.hid (by have h := HAL.out.fn; rwa [HFM.out] at h)
              go_upto_region 21 with fail
              have HN1 : Hid ([Value.bool true].length = 1) := Lib.hid rfl
              have HN2 : Hid (∀ v ∈ [Value.bool true], v.oneCell' = true) := Lib.hid (fun v hv => by simp at hv; rcases hv with rfl; rfl)
              obtain ⟨z0, z1, z2⟩ := HAL.out.cells
              have zf := HAL.out.frz 2
              go_upto_region 22 with (at_builtin; refine wpList_appH (n := F.length) (wr := wr) (news := [Value.bool true]) rfl (.tmp 68) (.tmp 69) rfl Tryz.underlying28 Tryz.infoBool rfl (by decide) rfl HNX.out HAL.out.lt rfl HN1.out HN2.out (by unfold maxLen; omega) (by omega) ?_; intro g4 c4 w5 ho4 hg4 hr4; obtain ⟨q0, q1, q2, qf0, qf1, qf2⟩ := aut_facts ((HAL.out.later (alloc_belowS wr _)).grownF hg4))
              have HP : Hid (AutB w3 (w5.setCell ⟨w3.heap.size, 2, none⟩ (.slice (some ⟨g4, 0, none⟩) (F.length + 1) c4)) w3.heap.size (k : Nat) (.slice a5 (cmpN k F.length N).length c5) (.slice (some ⟨g4, 0, none⟩) (cmpF F).length c4) (cmpN k F.length N) (cmpF F)) := Lib.hid (by
                have h := (HAL.out.later (alloc_belowS wr _)).putF (x := true) hg4 (by rw [HFM.out]; exact ho4)
                rw [show (cmpF F).length = F.length + 1 by simp [cmpF]]
                exact h)
              have HCL : Hid ((cmpF F).length = F.length + 1) := Lib.hid (by simp [cmpF])
              clear ho4 hg4 hr4 z0 z1 z2 zf
              rw [← HCL.out]
              rw [← HCL.out] at HP
              generalize w5.setCell ⟨w3.heap.size, 2, none⟩ (.slice (some ⟨g4, 0, none⟩) (cmpF F).length c4) = w9 at *
              obtain ⟨q0, q1, q2⟩ := HP.out.cells
              have hz9 := blk_later HZ3.out HP.out.bel
              have FF := Lib.hid (HP.out.fin (z := w.heap.size + 1) HB3.out (by have := HGZ.out; omega) (by omega) (.int .i64 (k : Nat)) (.slice a5 (cmpN k F.length N).length c5) (.slice (some ⟨g4, 0, none⟩) (cmpF F).length c4))
              have FR : Hid (RetAu k (cmpN k F.length N) (cmpF F) w (.returned (.tuple #[.agg #[.int .i64 (k : Nat), .slice a5 (cmpN k F.length N).length c5, .slice (some ⟨g4, 0, none⟩) (cmpF F).length c4], .bool true])) (((w9.setCell ⟨w.heap.size + 1, 0, none⟩ (.int .i64 (k : Nat))).setCell ⟨w.heap.size + 1, 1, none⟩ (.slice a5 (cmpN k F.length N).length c5)).setCell ⟨w.heap.size + 1, 2, none⟩ (.slice (some ⟨g4, 0, none⟩) (cmpF F).length c4))) := Lib.hid ⟨_, _, _, _, rfl, FF.out.1, FF.out.2⟩
              obtain ⟨m0, m1, m2, mf0, mf1, mf2⟩ := aut_facts hz9
              obtain ⟨u0, u1, u2⟩ := aut_cells (aut_three hz9 (.int .i64 (k : Nat)) (.slice a5 (cmpN k F.length N).length c5) (.slice (some ⟨g4, 0, none⟩) (cmpF F).length c4))
              clear hz9
              go_wp2_with fail
              refine bodyPost_ret (v := .tuple #[.agg #[.int .i64 (k : Nat), .slice a5 (cmpN k F.length N).length c5, .slice (some ⟨g4, 0, none⟩) (cmpF F).length c4], .bool true]) ?_ rfl FR.out
              simp [results, Tryz.results14, go_sem, u0, u1, u2]
end Go.Proofs.YtoddpmdjjgnpgaaGreatDoor
namespace Go.Proofs.YtoddpmdjjgnpgaaGreatDoor
set_option linter.unusedVariables false
def sumN : Nat → (Nat → Nat) → Nat
  | 0, _ => 0
  | n + 1, f => sumN n f + f n
theorem sumN_congr {n : Nat} {f g : Nat → Nat} (h : ∀ s, s < n → f s = g s) : sumN n f = sumN n g := by
  induction n with
  | zero => rfl
  | succ n ih => rw [sumN, sumN, ih fun s hs => h s (by omega), h n (by omega)]
theorem sumN_le {n : Nat} {f g : Nat → Nat} (h : ∀ s, s < n → f s ≤ g s) : sumN n f ≤ sumN n g := by
  induction n with
  | zero => exact Nat.le_refl _
  | succ n ih =>
    rw [sumN, sumN]
    exact Nat.add_le_add (ih fun s hs => h s (by omega)) (h n (by omega))
theorem sumN_mono {n m : Nat} {f : Nat → Nat} (h : n ≤ m) : sumN n f ≤ sumN m f := by
  induction m with
  | zero => rw [show n = 0 by omega]; exact Nat.le_refl _
  | succ m ih =>
    by_cases e : n = m + 1
    · rw [e]; exact Nat.le_refl _
    · rw [sumN]; have := ih (by omega); omega
theorem sumN_add {n : Nat} (f g : Nat → Nat) : sumN n (fun s => f s + g s) = sumN n f + sumN n g := by
  induction n with
  | zero => rfl
  | succ n ih => rw [sumN, sumN, sumN, ih]; omega
theorem sumN_mul {n c : Nat} (f : Nat → Nat) : sumN n (fun s => c * f s) = c * sumN n f := by
  induction n with
  | zero => rfl
  | succ n ih => rw [sumN, sumN, ih, Nat.mul_add]
theorem sumN_const (n c : Nat) : sumN n (fun _ => c) = n * c := by
  induction n with
  | zero => rw [sumN, Nat.zero_mul]
  | succ n ih => rw [sumN, ih, Nat.succ_mul]
theorem sumN_one {n q c : Nat} : sumN n (fun s => if s = q then c else 0) = if q < n then c else 0 := by
  induction n with
  | zero => rfl
  | succ n ih =>
    rw [sumN, ih]
    by_cases h1 : q < n
    · rw [if_pos h1, if_neg (by omega), if_pos (by omega), Nat.add_zero]
    · by_cases h2 : n = q
      · rw [if_neg h1, if_pos h2, if_pos (by omega), Nat.zero_add]
      · rw [if_neg h1, if_neg h2, if_neg (by omega)]
/-- a row of counts, weighed -/
def wtA (n : Nat) (l : List Nat) (g : Nat → Nat) : Nat := sumN n fun s => l.getD s 0 * g s
theorem setN_getD {l : List Nat} {q v t : Nat} (h : q < l.length) : (l.set q v).getD t 0 = if t = q then v else l.getD t 0 := by
  rw [List.getD_eq_getElem?_getD, List.getElem?_set]
  by_cases e : q = t
  · subst e; rw [if_pos rfl, if_pos h, if_pos rfl]; rfl
  · rw [if_neg e, if_neg (fun e2 => e e2.symm), ← List.getD_eq_getElem?_getD]
theorem wt_set {n q c : Nat} {l : List Nat} (hq : q < n) (hl : l.length = n) (g : Nat → Nat) : wtA n (l.set q (l.getD q 0 + c)) g = wtA n l g + c * g q := by
  unfold wtA
  have e : sumN n (fun s => (l.set q (l.getD q 0 + c)).getD s 0 * g s) = sumN n (fun s => l.getD s 0 * g s + if s = q then c * g q else 0) := sumN_congr fun s hs => by
    rw [setN_getD (by omega)]
    by_cases h : s = q
    · subst h; rw [if_pos rfl, if_pos rfl, Nat.add_mul]
    · rw [if_neg h, if_neg h, Nat.add_zero]
  rw [e, sumN_add, sumN_one, if_pos hq]
theorem wt_at {n q : Nat} {l : List Nat} (hq : q < n) : l.getD q 0 ≤ wtA n l (fun _ => 1) := by
  unfold wtA
  have h1 : sumN n (fun s => if s = q then l.getD q 0 else 0) ≤ sumN n (fun s => l.getD s 0 * 1) := sumN_le fun s hs => by
    by_cases h : s = q
    · subst h; rw [if_pos rfl, Nat.mul_one]; exact Nat.le_refl _
    · rw [if_neg h]; exact Nat.zero_le _
  rwa [sumN_one, if_pos hq] at h1
def upT (k : Nat) (N : List Int) (f : Nat → Nat) (s x : Nat) : Nat := sumN x fun y => if 0 ≤ nxI k N s y then f (nxI k N s y).toNat else 0
def upA (k : Nat) (N : List Int) (f : Nat → Nat) (s : Nat) : Nat := upT k N f s k
def upn (k : Nat) (N : List Int) : Nat → (Nat → Nat) → Nat → Nat
  | 0, f => f
  | m + 1, f => upn k N m (upA k N f)
theorem upn_succ (k : Nat) (N : List Int) : ∀ (m : Nat) (f : Nat → Nat), upn k N (m + 1) f = upA k N (upn k N m f)
  | 0, f => rfl
  | m + 1, f => by
    show upn k N (m + 1) (upA k N f) = _
    rw [upn_succ k N m (upA k N f)]
    rfl
theorem upT_one {k : Nat} {N : List Int} (s x : Nat) : upT k N (fun _ => 1) s x ≤ x := by
  unfold upT
  have h : sumN x (fun y => if 0 ≤ nxI k N s y then 1 else 0) ≤ sumN x (fun _ => 1) := sumN_le fun y hy => by split <;> omega
  rwa [sumN_const, Nat.mul_one] at h
/-- the words of n letters that are accepted -/
def finN (F : List Bool) (s : Nat) : Nat := if F.getD s false = true then 1 else 0
def cntW (k : Nat) (N : List Int) (F : List Bool) (m s : Nat) : Nat := upn k N m (finN F) s
theorem cntW_succ (k : Nat) (N : List Int) (F : List Bool) (m s : Nat) : cntW k N F (m + 1) s = sumN k fun y => if 0 ≤ nxI k N s y then cntW k N F m (nxI k N s y).toNat else 0 := by
  unfold cntW; rw [upn_succ]; rfl
/-- the counts after j rounds -/
structure CtP (k : Nat) (N : List Int) (n : Nat) (j : Nat) (l : List Nat) : Prop where
  len : l.length = n
  wt : ∀ f, wtA n l f = upn k N j f 0
theorem CtP.start {k : Nat} {N : List Int} {n : Nat} (hn : 1 ≤ n) : CtP k N n 0 ((List.replicate n 0).set 0 1) := by
  refine ⟨by simp, fun f => ?_⟩
  have h := wt_set (n := n) (q := 0) (c := 1) (l := List.replicate n 0) hn (by simp) f
  have e : (List.replicate n 0).getD 0 0 = 0 := by rw [List.getD_eq_getElem?_getD, List.getElem?_replicate, if_pos (by omega)]; rfl
  rw [e, Nat.zero_add] at h
  rw [h]
  have h0 : wtA n (List.replicate n 0) f = 0 := by
    unfold wtA
    rw [sumN_congr (g := fun _ => 0) fun s hs => by simp [List.getD_eq_getElem?_getD, hs], sumN_const, Nat.mul_zero]
  rw [h0, Nat.zero_add, Nat.one_mul]
  rfl
structure CtM (k : Nat) (N : List Int) (n : Nat) (now : List Nat) (st x : Nat) (l : List Nat) : Prop where
  len : l.length = n
  wt : ∀ f, wtA n l f = (sumN st fun s => now.getD s 0 * upA k N f s) + now.getD st 0 * upT k N f st x
section
variable {k : Nat} {N : List Int} {n : Nat} {now l : List Nat} {st x j : Nat}
theorem CtM.start : CtM k N n now 0 0 (List.replicate n 0) := by
  refine ⟨by simp, fun f => ?_⟩
  unfold wtA
  rw [sumN_congr (g := fun _ => 0) fun s hs => by simp [List.getD_eq_getElem?_getD, hs], sumN_const, Nat.mul_zero, sumN]
  rfl
theorem CtM.no (h : CtM k N n now st x l) (hx : ¬ 0 ≤ nxI k N st x) : CtM k N n now st (x + 1) l :=
  ⟨h.len, fun f => by rw [h.wt]; unfold upT; rw [sumN, if_neg hx, Nat.add_zero]⟩
theorem CtM.yes (h : CtM k N n now st x l) {q : Nat} (hx : nxI k N st x = (q : Int)) (hq : q < n) : CtM k N n now st (x + 1) (l.set q (l.getD q 0 + now.getD st 0)) :=
  ⟨by rw [List.length_set]; exact h.len, fun f => by
    rw [wt_set hq h.len, h.wt]
    unfold upT
    rw [sumN, if_pos (by omega), hx, Int.toNat_natCast, Nat.mul_add]
    omega⟩
theorem CtM.row (h : CtM k N n now st k l) : CtM k N n now (st + 1) 0 l :=
  ⟨h.len, fun f => by rw [h.wt, sumN]; show _ = _ + _ + _ * 0; rw [Nat.mul_zero, Nat.add_zero]; rfl⟩
theorem CtM.fin (h : CtM k N n now n 0 l) (hn : CtP k N n j now) : CtP k N n (j + 1) l :=
  ⟨h.len, fun f => by
    rw [h.wt]
    have := hn.wt (upA k N f)
    unfold wtA at this
    rw [this]
    show _ + _ * 0 = _
    rw [Nat.mul_zero, Nat.add_zero]; rfl⟩
theorem upA_le (hk : k ≤ 4) {f : Nat → Nat} {c : Nat} (hf : ∀ s, f s ≤ c) (s : Nat) : upA k N f s ≤ 4 * c := by
  unfold upA upT
  have h : sumN k (fun y => if 0 ≤ nxI k N s y then f (nxI k N s y).toNat else 0) ≤ sumN k (fun _ => c) := sumN_le fun y hy => by
    split
    · exact hf _
    · exact Nat.zero_le _
  rw [sumN_const] at h
  exact Nat.le_trans h (Nat.mul_le_mul_right _ hk)
theorem upn_le (hk : k ≤ 4) : ∀ (j : Nat) {f : Nat → Nat} {c : Nat}, (∀ s, f s ≤ c) → ∀ s, upn k N j f s ≤ 4 ^ j * c
  | 0, f, c, hf, s => by rw [Nat.pow_zero, Nat.one_mul]; exact hf s
  | j + 1, f, c, hf, s => by
    show upn k N j (upA k N f) s ≤ _
    have h := upn_le hk j (upA_le (N := N) hk hf) s
    rw [Nat.pow_succ, Nat.mul_assoc]; exact h
theorem CtP.le (h : CtP k N n j now) (hk : k ≤ 4) (hj : j ≤ 16) : wtA n now (fun _ => 1) ≤ 4294967296 := by
  rw [h.wt]
  have h1 := upn_le (N := N) hk j (f := fun _ => 1) (c := 1) (fun _ => Nat.le_refl _) 0
  have h2 : 4 ^ j ≤ 4 ^ 16 := Nat.pow_le_pow_right (by omega) hj
  have h3 : (4 : Nat) ^ 16 = 4294967296 := by decide
  omega
theorem CtM.le (h : CtM k N n now st x l) (hn : wtA n now (fun _ => 1) ≤ 4294967296) (hs : st < n) (hk : k ≤ 4) (hx : x ≤ k) : wtA n l (fun _ => 1) ≤ 17179869184 := by
  rw [h.wt]
  have h1 : sumN (st + 1) (fun s => now.getD s 0 * 4) ≤ sumN n (fun s => now.getD s 0 * 4) := sumN_mono hs
  have h2 : sumN st (fun s => now.getD s 0 * upA k N (fun _ => 1) s) ≤ sumN st (fun s => now.getD s 0 * 4) := sumN_le fun s _ => Nat.mul_le_mul_left _ (by have := upT_one (k := k) (N := N) s k; unfold upA; omega)
  have h3 : now.getD st 0 * upT k N (fun _ => 1) st x ≤ now.getD st 0 * 4 := Nat.mul_le_mul_left _ (by have := upT_one (k := k) (N := N) st x; omega)
  have h4 : sumN n (fun s => now.getD s 0 * 4) = 4 * wtA n now (fun _ => 1) := by
    unfold wtA
    rw [← sumN_mul]
    exact sumN_congr fun s _ => by rw [Nat.mul_one, Nat.mul_comm]
  rw [sumN] at h1
  omega
end
/-- the sum at the end -/
def finT (F : List Bool) (l : List Nat) (s : Nat) : Nat := sumN s fun t => l.getD t 0 * finN F t
theorem finT_all {k : Nat} {N : List Int} {F : List Bool} {l : List Nat} {j : Nat} (h : CtP k N F.length j l) : finT F l F.length = cntW k N F j 0 := h.wt (finN F)
theorem finT_le {F : List Bool} {l : List Nat} {s n : Nat} (hs : s ≤ n) : finT F l s ≤ wtA n l (fun _ => 1) := by
  unfold finT wtA
  refine Nat.le_trans (sumN_mono hs) (sumN_le fun t _ => Nat.mul_le_mul_left _ ?_)
  show finN F t ≤ 1
  unfold finN; split <;> omega
theorem cnt_top {k : Nat} {N : List Int} {F : List Bool} (h : AutP k N F) : ∀ m, cntW k (cmpN k F.length N) (cmpF F) m F.length = k ^ m
  | 0 => by
    show finN (cmpF F) F.length = _
    unfold finN cmpF
    rw [List.getD_eq_getElem?_getD, List.getElem?_append_right (by rw [List.length_map]; omega), List.length_map, Nat.sub_self]
    rfl
  | m + 1 => by
    rw [cntW_succ, sumN_congr (g := fun _ => k ^ m) fun y hy => by rw [cmp_nx2 h hy, if_pos (by omega), Int.toNat_natCast, cnt_top h m], sumN_const, Nat.pow_succ, Nat.mul_comm]
/-- words that the complement accepts and words that the automaton accepts are all words -/
theorem cnt_cmp {k : Nat} {N : List Int} {F : List Bool} (h : AutP k N F) : ∀ (m s : Nat), s < F.length → cntW k N F m s + cntW k (cmpN k F.length N) (cmpF F) m s = k ^ m
  | 0, s, hs => by
    show finN F s + finN (cmpF F) s = _
    unfold finN cmpF
    rw [List.getD_eq_getElem?_getD, List.getD_eq_getElem?_getD, List.getElem?_append_left (by rw [List.length_map]; exact hs), List.getElem?_map, List.getElem?_eq_getElem hs]
    cases F[s] <;> simp
  | m + 1, s, hs => by
    rw [cntW_succ, cntW_succ, ← sumN_add]
    rw [sumN_congr (g := fun _ => k ^ m) fun y hy => ?_, sumN_const, Nat.pow_succ, Nat.mul_comm]
    have hn := h.next hs hy
    rw [cmp_nx h hs hy]
    unfold cmpV
    by_cases h0 : nxI k N s y < 0
    · rw [if_neg (by omega), if_pos h0, if_pos (by omega), Int.toNat_natCast, cnt_top h m, Nat.zero_add]
    · rw [if_pos (by omega), if_neg h0, if_pos (by omega)]
      exact cnt_cmp h m _ (by omega)
end Go.Proofs.YtoddpmdjjgnpgaaGreatDoor
