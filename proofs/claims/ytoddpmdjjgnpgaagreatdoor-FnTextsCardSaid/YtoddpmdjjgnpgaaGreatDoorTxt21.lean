/-
  ParseSystem of the program, at the text of a system.
-/
import Derived.Test.YtoddpmdjjgnpgaaGreatDoorTxt20
import Derived.Test.YtoddpmdjjgnpgaaGreatDoorTxt16
import Derived.Test.YtoddpmdjjgnpgaaGreatDoorTxt08
namespace Go.Proofs.YtoddpmdjjgnpgaaGreatDoor
open Go.RowKit
set_option linter.unusedVariables false
theorem wordOk_four {k : Int} {s : ByteArray} (h : wordOkB k s = true) : wordOkB 4 s = true := by
  unfold wordOkB at h ⊢
  simp only [Bool.and_eq_true] at h ⊢
  obtain ⟨h1, h2, h3⟩ := h
  obtain ⟨ha, hb⟩ := inB_bounds h1
  refine ⟨by decide, h2, ?_⟩
  unfold allB at h3 ⊢
  rw [List.all_eq_true] at h3 ⊢
  intro c hc
  have := letB_true (h3 c hc)
  simp [letB, inB]; omega
theorem ruleT_free {k : Int} {r : RulD} (h : ruleP k r) : (32 : UInt8) ∉ (ruleT r).data.toList := fun hm => by
  have h1 := dotB_free (c := 32) h.1.1.1 (.inl (by decide))
  have h2 := dotB_free (c := 32) h.1.1.2 (.inl (by decide))
  have e : (ruleT r).data.toList = (dotB r.1).data.toList ++ 62 :: (dotB r.2).data.toList := by
    unfold ruleT
    simp [ByteArray.data_append]
  rw [e] at hm
  rcases List.mem_append.1 hm with hm | hm
  · exact h1 hm
  · rcases List.mem_cons.1 hm with hm | hm
    · cases hm
    · exact h2 hm
theorem sysT_join {k : Int} {R : List RulD} (h : sysP k R) : sysT0 k R = joinF (sysL k R R.length) ⟨#[32]⟩ := by
  rw [sysL_all]; exact if_pos h.1
theorem sys_split {k : Int} {R : List RulD} (h : sysP k R) : splitB (sysT0 k R) 32 = sysL k R R.length := by
  rw [sysT_join h]
  refine split_join (by rw [sysL_len (Nat.le_refl _)]; omega) fun s hm => ?_
  unfold sysL at hm
  rcases List.mem_cons.1 hm with e | hm
  · rw [e]; exact itoa_free (by simp)
  · obtain ⟨x, hx, rfl⟩ := List.mem_map.1 hm
    rw [List.take_length] at hx
    exact ruleT_free (h.1.2 x hx)
theorem sysT_ne {k : Int} {R : List RulD} (h : sysP k R) : ((sysT0 k R).toList == []) = false := by
  rw [Lib.toList_data, beq_eq_false_iff_ne]
  intro e
  have h2 := sys_split h
  rw [splitB_par, e] at h2
  have h3 := h2.trans (show sysL k R R.length = numB k :: (R.take R.length).map ruleT from rfl)
  have h4 : (parL 32 []).map mkB = [mkB []] := rfl
  rw [h4] at h3
  have h5 : mkB [] = numB k := (List.cons.inj h3).1
  have h6 : Lib.itoa k = [] := (congrArg (fun b : ByteArray => b.data.toList) h5).symm
  unfold Lib.itoa at h6
  split at h6
  · cases h6
  · exact decDigits_ne _ h6
theorem sysT_size {k : Int} {R : List RulD} (h : sysP k R) : (sysT0 k R).size ≤ 1000 := by
  have e : sysT0 k R = rulesT (numB k) R R.length := if_pos h.1
  rw [e]
  have h1 := rulesT_size (s := numB k) h.1 R.length (Nat.le_refl _)
  have h2 := h.1.1.2
  have h3 := h.1.1.1
  have h4 := itoa_len (n := k) (by omega) (by omega)
  have h5 : (numB k).size ≤ 100 := by first | exact Nat.le_trans h4 (by omega) | (unfold numB; omega) | omega
  omega
theorem ruleCells_str2 (R : List RulD) : ∀ v ∈ ruleCells R, ∃ s : ByteArray, v = .string s := by
  induction R with
  | nil => intro v h; simp [ruleCells] at h
  | cons p l ih =>
    intro v h
    simp only [ruleCells, List.mem_cons] at h
    rcases h with rfl | rfl | h
    · exact ⟨_, rfl⟩
    · exact ⟨_, rfl⟩
    · exact ih v h
theorem rules_setFar2 {wr : World} {aR : Option Addr} {R : List RulD} {g : Nat} {x y : Value} {T : TypeId} (hl : RulesIn wr aR R) (hz : wr.heap[g]? = some (.cells #[x, y] T (0, 0))) (hx : ∀ s, x ≠ .string s) (hy : ∀ s, y ≠ .string s) (u v : Value) : RulesIn ((wr.setCell ⟨g, 0, none⟩ u).setCell ⟨g, 1, none⟩ v) aR R := by
  rcases hl with hl | ⟨b, off, ha, hcs⟩
  · exact .inl hl
  · refine .inr ⟨b, off, ha, fun i hi => ?_⟩
    have hc := hcs i hi
    have hne : b ≠ g := by
      rintro rfl
      obtain ⟨s, hs⟩ := ruleCells_str2 R _ (List.getElem_mem hi)
      rw [hs, cell_of_row _ _ _ _ _ _ hz] at hc
      match off + i, hc with
      | 0, hc => exact hx s (Option.some.inj hc)
      | 1, hc => exact hy s (Option.some.inj hc)
      | n + 2, hc => cases hc
    rw [World.cell?_of_block (w := wr) (by
      unfold World.setCell
      rw [Array.getElem?_modify, if_neg (fun e => hne e.symm), Array.getElem?_modify, if_neg (fun e => hne e.symm)])]
    exact hc
/-- what ParseSystem hands back -/
def RetSyI (k : Int) (R : List RulD) (w : World) (e : Ending) (w' : World) : Prop := ∃ a c, e = .returned (.tuple #[.agg #[.int .i64 k, .slice a R.length c], .bool true]) ∧ RulesIn w' a R ∧ Below w.heap.size w w'
set_option maxRecDepth 100000 in
set_option maxHeartbeats 4000000 in
theorem implParseSystem_x (k : Int) (R : List RulD) (w : World) (hs : sysP k R) (ht : TabE w) (hm : MaxG w) :
    Calls Tryz.prog 23 #[.string (sysT0 k R)] w (RetSyI k R w) := by
  have HW1 := Lib.hid (alloc_belowS w (.cells #[.int .i64 0, .slice none 0 0] 25))
  have HZ0 := Lib.hid (alloc_at w (.cells #[.int .i64 0, .slice none 0 0] 25))
  have hts := sysT_size hs
  have HTZ : Hid ((sysT0 k R).size ≤ 2 ^ 20) := Lib.hid (by omega)
  have HSP := Lib.hid (splitI_any (sysT0 k R) 32 (w.alloc (.cells #[.int .i64 0, .slice none 0 0] 25)) HTZ.out (hm.later HW1.out))
  rw [sys_split hs] at HSP
  have HE := Lib.hid ht
  have HNE := sysT_ne hs
  have hk := hs.1.1.1
  have hl12 := hs.1.1.2
  have HRP := Lib.hid hs.1.2
  have HSZ : Hid (SzR R) := Lib.hid (fun j hj => by have := (HRP.out _ (nthR_mem hj)).1.2; unfold maxLen; omega)
  have HPI := Lib.hid (fun W h => implParseInt_x (numB k) W (by have := itoa_len (n := k) (by omega) (by omega); have e : (numB k).size ≤ 21 := this; omega) h)
  have HNUM : Hid (∀ n, IsNum (numB k) n → n = k) := Lib.hid (fun n h => h.uniq ⟨by omega, rfl⟩)
  have HNU2 : Hid (IsNum (numB k) k) := Lib.hid ⟨by omega, rfl⟩
  have HFT := Lib.hid (fun a cap W h h2 => implFormatSystem_any k R a cap W h (by omega) HSZ.out h2)
  have HPR := Lib.hid (fun j (hj : j < R.length) W => implParseRule_x (nthR R j).1 (nthR R j).2 W (wordOk_four (HRP.out _ (nthR_mem hj)).1.1.1) (wordOk_four (HRP.out _ (nthR_mem hj)).1.1.2) (by have := (HRP.out _ (nthR_mem hj)).1.2.1; omega) (by have := (HRP.out _ (nthR_mem hj)).1.2.2; omega))
  have HPJ : Hid (∀ j, j < R.length → nthS (sysL k R R.length) (j + 1) = ruleT ((nthR R j).1, (nthR R j).2)) := Lib.hid (fun j hj => sysL_nth hj)
  have HP0 : Hid (nthS (sysL k R R.length) 0 = numB k) := Lib.hid rfl
  have HPL : Hid ((sysL k R R.length).length = R.length + 1) := Lib.hid (sysL_len (Nat.le_refl _))
  have hqq : ((sysT0 k R).toList == (sysT0 k R).toList) = true := by simp
  clear hs ht hm hts
  generalize sysT0 k R = tx at *
  generalize sysL k R R.length = P at *
  go_enter Tryz.func23, Tryz.ntmps23
  go_wp2_with fail
  refine HSP.out.mono ?_
  rintro e w2 ⟨aP, cP, rfl, ho, hb2⟩
  rw [HPL.out]
  have hcap := owns_capS ho
  rw [HPL.out] at hcap
  have HZ2 := Lib.hid ((hb2.block w.heap.size (by simp)).trans HZ0.out)
  have HB2 := Lib.hid (Below.now HW1.out hb2)
  obtain ⟨gP, off, rfl, hgP, hcs⟩ := (show StrsIn w2 aP P from owns_cells ho).cell (i := 0) (by rw [HPL.out]; omega)
  have HCS : Hid (∀ j, j < R.length + 1 → w2.cell? ⟨gP, off + j, none⟩ = some (.string (nthS P j))) := Lib.hid (fun j hj => hcs j (by rw [HPL.out]; exact hj))
  have HR2 : Hid (Rec2 25 120 2 w2 (w2.alloc (.cells #[.int .i64 0, .slice none 0 0] 25)) w2.heap.size (.int .i64 0) (.slice none 0 0) 0 []) := Lib.hid (Rec2.start 25 120 2 (w := w2) (w1 := w2) (Below.refl _ _) (.int .i64 0))
  have c0 : (w2.alloc (.cells #[.int .i64 0, .slice none 0 0] 25)).cell? ⟨gP, off, none⟩ = some (.string (numB k)) := by
    have h : w2.cell? ⟨gP, off, none⟩ = some (.string (numB k)) := by have h := HCS.out 0 (by omega); rw [HP0.out] at h; exact h
    rw [(alloc_belowS w2 _).cell (World.block_lt_of_cell? _ _ h)]; exact h
  clear ho hb2 hgP hcs
  have hl5 : ¬ (13 : Int) < (R.length : Int) + 1 := by omega
  have hl1 : ¬ (R.length : Int) + 1 ≤ 0 := by omega
  go_wp2_with fail
  have HEB : Hid (TabE (w2.alloc (.cells #[.int .i64 0, .slice none 0 0] 25))) := Lib.hid ((HE.out.later HB2.out).later (alloc_belowS w2 _))
  refine (HPI.out _ HEB.out).mono ?_
  rintro e w3 ⟨n3, b3, rfl, hn3, hb3⟩
  obtain rfl : n3 = k := by
    rcases hn3 with ⟨_, h⟩ | ⟨_, _, h⟩
    · exact HNUM.out _ h
    · exact absurd HNU2.out (h k)
  have HR3 := Lib.hid (HR2.out.later hb3)
  have HR4 := Lib.hid (HR3.out.setX (.int .i64 n3))
  obtain ⟨z0, z1, z2, z3⟩ := HR3.out.facts
  clear hb3 hn3 c0
  go_upto_region 6 with fail
  clear z0 z1 z2 z3
  generalize (w3.setCell ⟨w2.heap.size, 0, none⟩ (.int .i64 n3)) = w4 at *
  go_cut [25, 26, 27] (fun v u i wx => ∃ off2 cap2, v = .slice (some ⟨gP, off2, none⟩) R.length cap2 ∧ u = .int .i64 (R.length : Nat) ∧ i = .int .i64 0 ∧ (∀ j, j < R.length → w2.cell? ⟨gP, off2 + j, none⟩ = some (.string (nthS P (j + 1)))) ∧ wx = w4)
  case first =>
    by_cases hc1 : cP = 1
    · subst hc1
      have h0 : R.length = 0 := by omega
      obtain rfl : R = [] := List.length_eq_zero_iff.1 h0
      go_wp2_with fail
      go_meet
      exact ⟨_, _, rfl, rfl, rfl, fun j hj => by simp at hj, rfl⟩
    · have hc2 : (1 : Int) < (cP : Int) := by omega
      have hc3 : ¬ (cP : Int) = 1 := by omega
      have HCC : Hid (∀ j, j < R.length → w2.cell? ⟨gP, off + 1 + j, none⟩ = some (.string (nthS P (j + 1)))) := Lib.hid (fun j hj => by rw [show off + 1 + j = off + (j + 1) by omega]; exact HCS.out (j + 1) (by omega))
      go_wp2_with fail
      go_meet
      exact ⟨_, _, rfl, rfl, rfl, HCC.out, rfl⟩
  case rest =>
    obtain ⟨off2, cap2, rfl, rfl, rfl, hcs, rfl⟩ := hcut
    have HCT := Lib.hid hcs
    clear hcs HCS
    go_wp2_with fail
    go_loopw [27] (fun i wr => ∃ (j : Nat) (v : Value), j ≤ R.length ∧ i = .int .i64 (j : Nat) ∧ Hid (Rec2 25 120 2 w2 wr w2.heap.size (.int .i64 n3) v j (ruleCells (R.take j)))) (fun i _ => R.length - (intOf i).toNat)
    case atStart => exact ⟨0, .slice none 0 0, Nat.zero_le _, rfl, HR4⟩
    case round =>
      clear HR4 HR2 HR3
      obtain ⟨j, v, hj, rfl, HRC⟩ := hrel
      obtain ⟨a3, c3, rfl⟩ := owns_form HRC.out.own
      by_cases hlt : j < R.length
      · have cw : wr.cell? ⟨gP, off2 + j, none⟩ = some (.string (nthS P (j + 1))) := by
          have h := HCT.out j hlt
          rw [HRC.out.below.cell (World.block_lt_of_cell? w2 _ h)]; exact h
        have hij : (j : Int) < (R.length : Int) := by omega
        have HCR := Lib.hid (HPR.out j hlt)
        have HTK : Hid (ruleCells (R.take (j + 1)) = ruleCells (R.take j) ++ [.string (nthR R j).1, .string (nthR R j).2]) := Lib.hid (by
          rw [List.take_succ_eq_append_getElem hlt, ruleCells_app, nthR_lt hlt]; rfl)
        rw [HPJ.out j hlt] at cw
        generalize ruleT ((nthR R j).1, (nthR R j).2) = st at *
        generalize (nthR R j).1 = x at *
        generalize (nthR R j).2 = y at *
        go_wp2_with fail
        refine (HCR.out _).mono ?_
        rintro e w5 ⟨rfl, hb5⟩
        have HR5 := Lib.hid (HRC.out.later hb5)
        have HR6 := Lib.hid (HR5.out.later (alloc_belowS w5 (.cells #[.string x, .string y] 120)))
        obtain ⟨n0, n1⟩ := sys_cells (alloc_at w5 (.cells #[.string x, .string y] 120))
        clear hb5 HR5 HCR cw HRC
        go_upto_region 10 with fail
        generalize w5.alloc (.cells #[.string x, .string y] 120) = w6 at *
        have HN1 : Hid ([Value.string x, .string y].length = 1 * 2) := Lib.hid rfl
        have HN2 : Hid (∀ v ∈ [Value.string x, .string y], v.oneCell' = true) := Lib.hid (fun v hv => by simp at hv; rcases hv with rfl | rfl <;> rfl)
        obtain ⟨_, y1, _, y3⟩ := HR6.out.facts
        go_wp2_with (at_builtin; refine wpList_appH (n := j) (wr := w6) (news := [Value.string x, .string y]) rfl (.tmp 37) (.tmp 39) rfl Tryz.underlying23 Tryz.infoRule rfl (by decide) rfl HR6.out.own HR6.out.lt rfl HN1.out HN2.out (by unfold maxLen; omega) (by omega) ?_; intro g4 c4 w4 ho4 hg4 hr4; obtain ⟨_, x1, _, x3⟩ := rec_cells (HR6.out.grown (Below.refl _ _) hg4))
        have HR7 : Hid (Rec2 25 120 2 w2 (w4.setCell ⟨w2.heap.size, 1, none⟩ (.slice (some ⟨g4, 0, none⟩) (j + 1) c4)) w2.heap.size (.int .i64 n3) (.slice (some ⟨g4, 0, none⟩) (j + 1) c4) (j + 1) (ruleCells (R.take (j + 1)))) := Lib.hid (by
          rw [HTK.out]; exact HR6.out.put (Below.refl _ _) hg4 ho4)
        clear ho4 hg4 hr4 y1 y3 n0 n1 x1 x3
        go_wp2_with fail
        go_roundw
        case rel => exact ⟨j + 1, _, by omega, by go_num, HR7⟩
        case measure => simp [intOf]; omega
      · have HRL : Hid (Rec2 25 120 2 w2 wr w2.heap.size (.int .i64 n3) (.slice a3 R.length c3) R.length (ruleCells R)) := Lib.hid (by
          have h := HRC.out
          rw [show j = R.length by omega, List.take_length] at h
          exact h)
        obtain rfl : j = R.length := by omega
        have HLI : Hid (RulesIn wr a3 R) := Lib.hid (owns_rules HRL.out.own)
        have HTW : Hid (TabE wr) := Lib.hid ((HE.out.later HB2.out).later HRL.out.below)
        have HZW := Lib.hid ((HRL.out.below.block w.heap.size (Array.getElem?_eq_some_iff.1 HZ2.out).1).trans HZ2.out)
        have HBW := Lib.hid (Below.now HB2.out HRL.out.below)
        obtain ⟨z0, z1, z2, z3⟩ := HRL.out.facts
        clear HRC
        go_wp2_with fail
        refine (HFT.out a3 c3 _ HLI.out HTW.out.1).mono ?_
        rintro e w6 ⟨rfl, hb6⟩
        have HR6 := Lib.hid (HRL.out.later hb6)
        have HZ6 := Lib.hid ((hb6.block w.heap.size (Array.getElem?_eq_some_iff.1 HZW.out).1).trans HZW.out)
        have HB6 := Lib.hid (Below.now HBW.out hb6)
        have HL6 := Lib.hid (HLI.out.later hb6)
        clear hb6 z0 z1 z2 z3
        obtain ⟨z0, z1, z2, z3⟩ := HR6.out.facts
        obtain ⟨y0, y1, y2, y3⟩ := rec_cells HZ6.out
        obtain ⟨u0, u1⟩ := tag_cells (tag_two HZ6.out (.int .i64 n3) (.slice a3 R.length c3))
        have F : Hid (RetSyI n3 R w (.returned (.tuple #[.agg #[.int .i64 n3, .slice a3 R.length c3], .bool true])) ((w6.setCell ⟨w.heap.size, 0, none⟩ (.int .i64 n3)).setCell ⟨w.heap.size, 1, none⟩ (.slice a3 R.length c3))) := Lib.hid ⟨a3, c3, rfl, rules_setFar2 HL6.out HZ6.out (fun s e => by cases e) (fun s e => by cases e) _ _, (HB6.out.setCell (p := ⟨w.heap.size, 0, none⟩) (Nat.le_refl _) _).setCell (p := ⟨w.heap.size, 1, none⟩) (Nat.le_refl _) _⟩
        go_wp2_with fail
        refine bodyPost_ret (v := .tuple #[.agg #[.int .i64 n3, .slice a3 R.length c3], .bool true]) ?_ rfl F.out
        simp [results, Tryz.results23, go_sem, u0, u1]
end Go.Proofs.YtoddpmdjjgnpgaaGreatDoor
