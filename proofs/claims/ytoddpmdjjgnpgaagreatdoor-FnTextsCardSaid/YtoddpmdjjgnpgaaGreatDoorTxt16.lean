/-
  MakeTag of the reference: some valid tag system. Printed by mktag.py.
-/
import Derived.Test.YtoddpmdjjgnpgaaGreatDoorTxt14
import Derived.Test.YtoddpmdjjgnpgaaGreatDoorTxt08
import Derived.Test.YtoddpmdjjgnpgaaGreatDoorTxt15
import Derived.Test.YtoddpmdjjgnpgaaGreatDoorTxt09
namespace Go.Proofs.YtoddpmdjjgnpgaaGreatDoor
open Go.RowKit
set_option linter.unusedVariables false
theorem Rec2.setX {TT T : TypeId} {size : Nat} {w wr : World} {g : Nat} {x v : Value} {n : Nat} {xs : List Value} (h : Rec2 TT T size w wr g x v n xs) (x' : Value) : Rec2 TT T size w (wr.setCell ⟨g, 0, none⟩ x') g x' v n xs := by
  have hg : wr.grownBy (wr.setCell ⟨g, 0, none⟩ x') (some g) := ⟨rfl, rfl, rfl, by simp [World.setCell], fun k _ hk => Below.heap_setCell _ _ _ k (fun e => hk (by rw [e]))⟩
  refine ⟨?_, h.own.kept hg (.inr h.far), h.le, h.below.setCell (p := ⟨g, 0, none⟩) h.le x'⟩
  obtain ⟨hlt, hk⟩ := Array.getElem?_eq_some_iff.1 h.blk
  show (wr.heap.modify g _)[g]? = _
  rw [Array.getElem?_eq_getElem (by rw [Array.size_modify]; exact hlt), Array.getElem_modify_self, hk]
  rfl
theorem tag_split {r : Int} {l : List ByteArray} (h : tagB r l = true) : splitB (tagT r l) 32 = tagL r l l.length := by
  unfold tagT
  rw [if_pos h]
  have hs := subB_part (tagB_part h).2
  refine split_join (by rw [tagL_len (Nat.le_refl _)]; omega) fun s hm => ?_
  unfold tagL at hm
  rcases List.mem_cons.1 hm with e | hm
  · rw [e]; exact itoa_free (by simp)
  · unfold dotTo at hm
    obtain ⟨x, hx, rfl⟩ := List.mem_map.1 hm
    rw [List.take_length] at hx
    exact dotB_free (hs.2 x hx).2 (.inl (by simp))
theorem tagT_ne {r : Int} {l : List ByteArray} (h : tagB r l = true) : ((tagT r l).toList == []) = false := by
  rw [Lib.toList_data, beq_eq_false_iff_ne]
  intro e
  have h2 := tag_split h
  rw [splitB_par, e] at h2
  have h3 := congrArg List.length h2
  rw [tagL_len (Nat.le_refl _)] at h3
  have := (subB_part (tagB_part h).2).1
  have h4 : ((parL 32 []).map mkB).length = 1 := rfl
  omega
theorem putT {TT T : TypeId} {size : Nat} {w wr w4 : World} {g : Nat} {x v v' : Value} {n m : Nat} {xs ys : List Value} (h : Rec2 TT T size w wr g x v n xs) (hg : wr.grownBy w4 v.ownBlock) (hn : w4.ownsRow (g + 1) T size v' m ys) :
    w4.heap[g]? = some (.cells #[x, v] TT (0, 0)) ∧ Rec2 TT T size w (w4.setCell ⟨g, 1, none⟩ v') g x v' m ys := by
  have h4 := (hg.block g h.lt (fun e => h.far e.symm)).trans h.blk
  have b4 : Below w.heap.size w w4 := h.below.grown hg h.below.size (fun k hk => by have := (h.own.lt k hk).1; have := h.le; omega)
  refine ⟨h4, ?_, ownsRow_setCell_below hn (by show g < g + 1; omega) _, h.le, b4.setCell h.le _⟩
  obtain ⟨hlt, hk⟩ := Array.getElem?_eq_some_iff.1 h4
  show (w4.heap.modify g _)[g]? = _
  rw [Array.getElem?_eq_getElem (by rw [Array.size_modify]; exact hlt), Array.getElem_modify_self, hk]
  rfl
theorem strs_setFar {wr : World} {aR : Option Addr} {R : List ByteArray} {g : Nat} {x y : Value} {T : TypeId} (hl : StrsIn wr aR R) (hz : wr.heap[g]? = some (.cells #[x, y] T (0, 0))) (hx : ∀ s, x ≠ .string s) (hy : ∀ s, y ≠ .string s) (u v : Value) : StrsIn ((wr.setCell ⟨g, 0, none⟩ u).setCell ⟨g, 1, none⟩ v) aR R := by
  rcases hl with hl | ⟨b, off, ha, hcs⟩
  · exact .inl hl
  · refine .inr ⟨b, off, ha, fun i hi => ?_⟩
    have hc := hcs i hi
    have hne : b ≠ g := by
      rintro rfl
      rw [List.getElem_map, cell_of_row _ _ _ _ _ _ hz] at hc
      match off + i, hc with
      | 0, hc => exact hx _ (Option.some.inj hc)
      | 1, hc => exact hy _ (Option.some.inj hc)
      | n + 2, hc => cases hc
    rw [World.cell?_of_block (w := wr) (by
      unfold World.setCell
      rw [Array.getElem?_modify, if_neg (fun e => hne e.symm), Array.getElem?_modify, if_neg (fun e => hne e.symm)])]
    exact hc
/-- what ParseTag hands back -/
def RetTg (r : Int) (l : List ByteArray) (w : World) (e : Ending) (w' : World) : Prop := ∃ a c, e = .returned (.tuple #[.agg #[.int .i64 r, .slice a l.length c], .bool true]) ∧ StrsIn w' a l ∧ Below w.heap.size w w'
theorem tag_two {W : World} {g : Nat} {x y : Value} {T : TypeId} (h : W.heap[g]? = some (.cells #[x, y] T (0, 0))) (u v : Value) : ((W.setCell ⟨g, 0, none⟩ u).setCell ⟨g, 1, none⟩ v).heap[g]? = some (.cells #[u, v] T (0, 0)) := set_two h u v
set_option maxRecDepth 100000 in
set_option maxHeartbeats 4000000 in
theorem implParseTag_x (r : Int) (l : List ByteArray) (w : World) (hb : tagB r l = true) (ht : TabE w) (hm : MaxG w) :
    Calls Tryz.prog 25 #[.string (tagT r l)] w (RetTg r l w) := by
  have HW1 := Lib.hid (alloc_belowS w (.cells #[.int .i64 0, .slice none 0 0] 49))
  have HZ0 := Lib.hid (alloc_at w (.cells #[.int .i64 0, .slice none 0 0] 49))
  have hts := tagT_size hb
  have HTZ : Hid ((tagT r l).size ≤ 2 ^ 20) := Lib.hid (by unfold tagT; rw [if_pos hb]; omega)
  have HSP := Lib.hid (splitI_any (tagT r l) 32 (w.alloc (.cells #[.int .i64 0, .slice none 0 0] 49)) HTZ.out (hm.later HW1.out))
  rw [tag_split hb] at HSP
  have HE := Lib.hid ht
  have HNE := tagT_ne hb
  have HSB := Lib.hid (subB_part (tagB_part hb).2)
  obtain ⟨hr1, hr2⟩ := (tagB_part hb).1
  have hl4 := HSB.out.1
  have HSZ : Hid (SzS l) := Lib.hid (fun j hj => by have := (HSB.out.2 (nthS l j) (by rw [nthS_lt hj]; exact List.getElem_mem hj)).1; unfold maxLen; omega)
  have HPI := Lib.hid (fun W h => implParseInt_x (numB r) W (by have := itoa_len (n := r) (by omega) (by omega); have e : (numB r).size ≤ 21 := this; omega) h)
  have HNUM : Hid (∀ n, IsNum (numB r) n → n = r) := Lib.hid (fun n h => h.uniq ⟨by omega, rfl⟩)
  have HNU2 : Hid (IsNum (numB r) r) := Lib.hid ⟨by omega, rfl⟩
  have HFT := Lib.hid (fun a cap W h h2 => implFormatTag_any r l a cap W h (by omega) HSZ.out h2)
  have HPN : Hid (tagL r l l.length = numB r :: dotTo l l.length) := Lib.hid rfl
  have HUD : Hid (∀ j, j < l.length → undot (nthS (tagL r l l.length) (j + 1)) = nthS l j) := Lib.hid (fun j hj => by
    have e : nthS (tagL r l l.length) (j + 1) = dotB (nthS l j) := by
      rw [nthS_lt (by rw [tagL_len (Nat.le_refl _)]; omega)]
      unfold tagL dotTo
      rw [List.getElem_cons_succ, List.getElem_map, List.getElem_take, nthS_lt hj]
    rw [e]
    exact undot_dot (HSB.out.2 (nthS l j) (by rw [nthS_lt hj]; exact List.getElem_mem hj)).2)
  have HP0 : Hid (nthS (tagL r l l.length) 0 = numB r) := Lib.hid rfl
  have HPL : Hid ((tagL r l l.length).length = l.length + 1) := Lib.hid (tagL_len (Nat.le_refl _))
  have hqq : ((tagT r l).toList == (tagT r l).toList) = true := by simp
  clear hb ht hm hts
  generalize tagT r l = tx at *
  generalize tagL r l l.length = P at *
  clear HPN
  go_enter Tryz.func25, Tryz.ntmps25
  go_wp2_with fail
  refine HSP.out.mono ?_
  rintro e w2 ⟨aP, cP, rfl, ho, hb2⟩
  rw [HPL.out]
  have hcap := owns_capS ho
  rw [HPL.out] at hcap
  have HZ2 := Lib.hid ((hb2.block w.heap.size (by simp)).trans HZ0.out)
  have HB2 := Lib.hid (Below.now HW1.out hb2)
  obtain ⟨gP, off, rfl, hgP, hcs⟩ := (show StrsIn w2 aP P from owns_cells ho).cell (i := 0) (by rw [HPL.out]; omega)
  have HCS : Hid (∀ j, j < l.length + 1 → w2.cell? ⟨gP, off + j, none⟩ = some (.string (nthS P j))) := Lib.hid (fun j hj => hcs j (by rw [HPL.out]; exact hj))
  have HR2 : Hid (Rec2 49 9 1 w2 (w2.alloc (.cells #[.int .i64 0, .slice none 0 0] 49)) w2.heap.size (.int .i64 0) (.slice none 0 0) 0 []) := Lib.hid (Rec2.start 49 9 1 (w := w2) (w1 := w2) (Below.refl _ _) (.int .i64 0))
  have c0 : (w2.alloc (.cells #[.int .i64 0, .slice none 0 0] 49)).cell? ⟨gP, off, none⟩ = some (.string (numB r)) := by
    have h : w2.cell? ⟨gP, off, none⟩ = some (.string (numB r)) := by have h := HCS.out 0 (by omega); rw [HP0.out] at h; exact h
    rw [(alloc_belowS w2 _).cell (World.block_lt_of_cell? _ _ h)]; exact h
  clear ho hb2 hgP hcs
  have hl5 : ¬ (5 : Int) < (l.length : Int) + 1 := by omega
  have hl1 : ¬ (l.length : Int) + 1 ≤ 0 := by omega
  go_wp2_with fail
  have HEB : Hid (TabE (w2.alloc (.cells #[.int .i64 0, .slice none 0 0] 49))) := Lib.hid ((HE.out.later HB2.out).later (alloc_belowS w2 _))
  refine (HPI.out _ HEB.out).mono ?_
  rintro e w3 ⟨n3, b3, rfl, hn3, hb3⟩
  obtain rfl : n3 = r := by
    rcases hn3 with ⟨_, h⟩ | ⟨_, _, h⟩
    · exact HNUM.out _ h
    · exact absurd HNU2.out (h r)
  have HR3 := Lib.hid (HR2.out.later hb3)
  have HR4 := Lib.hid (HR3.out.setX (.int .i64 n3))
  obtain ⟨z0, z1, z2, z3⟩ := HR3.out.facts
  clear hb3 hn3 c0
  go_wp2_with fail
  clear z0 z1 z2 z3
  go_loopw [25] (fun i wr => ∃ (j : Nat) (v : Value), j ≤ l.length ∧ i = .int .i64 (j : Nat) ∧ Hid (Rec2 49 9 1 w2 wr w2.heap.size (.int .i64 n3) v j (strVals (l.take j)))) (fun i _ => l.length - (intOf i).toNat)
  case atStart => exact ⟨0, .slice none 0 0, Nat.zero_le _, rfl, HR4⟩
  case round =>
    clear HR4 HR2 HR3
    obtain ⟨j, v, hj, rfl, HRC⟩ := hrel
    obtain ⟨a3, c3, rfl⟩ := owns_form HRC.out.own
    by_cases hlt : j < l.length
    · have cw : wr.cell? ⟨gP, off + 1 + j, none⟩ = some (.string (nthS P (j + 1))) := by
        have h := HCS.out (j + 1) (by omega)
        rw [show off + (j + 1) = off + 1 + j by omega] at h
        rw [HRC.out.below.cell (World.block_lt_of_cell? w2 _ h)]; exact h
      have hij : (j : Int) < (l.length : Int) := by omega
      have HUJ := Lib.hid (HUD.out j hlt)
      have HTK : Hid (strVals (l.take (j + 1)) = strVals (l.take j) ++ [.string (nthS l j)]) := Lib.hid (by
        unfold strVals
        rw [List.take_succ_eq_append_getElem hlt, List.map_append, nthS_lt hlt]; rfl)
      obtain ⟨y, hy⟩ : ∃ y, nthS P (j + 1) = y := ⟨_, rfl⟩
      obtain ⟨x, hx⟩ : ∃ x, nthS l j = x := ⟨_, rfl⟩
      rw [hy] at cw HUJ
      rw [hx] at HUJ HTK
      have HUN : Hid (∀ W, Calls Tryz.prog 75 #[.string y] W fun e w' => e = .returned (.string x) ∧ W = w') := Lib.hid (fun W => by have h := undotted_any y W; rw [HUJ.out] at h; exact h)
      clear hy hx HUJ
      go_upto_region 9 with fail
      clear cw
      refine region_tail 5 (fun W => Below wr.heap.size wr W) (fun W W2 => Below W.heap.size W W2) (fun u => by simp only [List.take_succ_cons, List.take_zero, fPut, Act.put, List.setIfInBounds_toArray, List.set_cons_succ, List.set_cons_zero, Nat.zero_add, Nat.reduceAdd]; rfl) (by kernel_rfl) (by kernel_rfl) (by kernel_rfl) (by kernel_rfl) (by kernel_rfl) (by kernel_rfl) (by kernel_rfl) (Below.drew (Below.refl _ _)) ?_
      conv => arg 7; simp only [List.take_succ_cons, List.take_zero]
      apply each_read (fun _ => Below.refl _ _) rfl
      · intro u wv hC hf
        obtain ⟨z0, z1, z2, z3⟩ := (HRC.out.later hC).facts
        clear hf
        go_simp
        try rfl
      apply each_read (fun _ => Below.refl _ _) rfl
      · intro u wv hC hf
        obtain ⟨z0, z1, z2, z3⟩ := (HRC.out.later hC).facts
        obtain ⟨d0_0, -⟩ := hf
        have e0 : u 0 = _ := d0_0 rfl
        clear d0_0
        go_simp
        try rfl
      conv => arg 8; simp only [List.cons_append, List.nil_append]
      apply each_read (fun _ => Below.refl _ _) rfl
      · intro u wv hC hf
        obtain ⟨z0, z1, z2, z3⟩ := (HRC.out.later hC).facts
        clear hf
        go_simp
        try rfl
      conv => arg 8; simp only [List.cons_append, List.nil_append]
      apply each_callR rfl
      · intro u wv hC hf
        obtain ⟨z0, z1, z2, z3⟩ := (HRC.out.later hC).facts
        obtain ⟨d2_0, -⟩ := hf
        have e2 : u 2 = _ := d2_0 rfl
        clear d2_0
        apply Exists.intro; apply Exists.intro; apply And.intro
        · go_simp; exact ⟨rfl, rfl⟩
        · refine (HUN.out _).mono ?_
          rintro e w9 ⟨rfl, rfl⟩
          exact ⟨rfl, hC, Below.refl _ _⟩
      conv => arg 8; simp only [List.cons_append, List.nil_append]
      refine each_do (fun v wv => ∃ g4, v = .slice (some ⟨g4, 0, none⟩) 1 1 ∧ wv.heap[g4]? = some (.cells #[.string x] 9 (0, 0))) (fun v w w2 _ hR ⟨g, h1, h2⟩ => ⟨g, h1, (hR.block g (Array.getElem?_eq_some_iff.1 h2).1).trans h2⟩) rfl ?_ ?_
      · intro u wv hC hf
        obtain ⟨z0, z1, z2, z3⟩ := (HRC.out.later hC).facts
        obtain ⟨d3_0, -⟩ := hf
        have e3 : u 3 = _ := d3_0 rfl
        clear d3_0
        refine ⟨.slice (some ⟨wv.heap.size, 0, none⟩) 1 1, wv.alloc (.cells #[.string x] 9), ?_, Below.alloc hC hC.size _, alloc_belowS _ _, wv.heap.size, rfl, alloc_at wv _⟩
        go_simp
        try rfl
      intro u w7 d7 hall
      obtain ⟨a0, a1, a2, a3, a4, -⟩ := hall
      have e0 : u 0 = _ := a0
      clear a0
      have e1 : u 1 = _ := a1
      clear a1
      have e2 : u 2 = _ := a2
      clear a2
      have e3 : u 3 = _ := a3
      clear a3
      obtain ⟨g4, e4, b4⟩ := a4
      replace e4 : u 4 = _ := e4
      change wpList _ _ _ (List.drop 5 _) _ _
      simp only [List.drop_succ_cons, List.drop_zero]
      simp only [e0, e1, e2, e3, e4]
      clear e0 e1 e2 e3 e4
      have HR7 := Lib.hid (HRC.out.later d7)
      have M1 : Hid (j + 1 ≤ maxLen) := Lib.hid (by unfold maxLen; omega)
      have M2 : Hid ((j + 1) * 16 ≤ 140737488355328) := Lib.hid (by omega)
      refine wpList_appB rfl (.tmp 30) (.tmp 33) rfl Tryz.underlying47 Tryz.infoStr rfl (by decide) rfl HR7.out.own HR7.out.lt rfl (m := 1) (news := [.string x]) (fun i u hu => by
        match i, hu with
        | 0, hu =>
          obtain rfl := Option.some.inj hu
          rw [add_off]
          simp [World.cell?, b4]
        | i + 1, hu => cases hu) rfl (by decide) (fun u hu => by rw [List.mem_singleton.1 hu]; rfl) M1.out M2.out ?_
      intro g5 c5 w9 hn9 hg9 _
      obtain ⟨hbk, hput⟩ := putT HR7.out hg9 hn9
      have HRN : Hid (Rec2 49 9 1 w2 (w9.setCell ⟨w2.heap.size, 1, none⟩ (.slice (some ⟨g5, 0, none⟩) (j + 1) c5)) w2.heap.size (.int .i64 n3) (.slice (some ⟨g5, 0, none⟩) (j + 1) c5) (j + 1) (strVals (l.take (j + 1)))) := Lib.hid (by rw [HTK.out]; exact hput)
      obtain ⟨q0, q1, q2, q3⟩ := rec_cells hbk
      clear hn9 hg9 hput hbk b4
      go_wp2_with fail
      go_roundw
      case rel => exact ⟨j + 1, _, by omega, by go_num, HRN⟩
      case measure => simp [intOf]; omega
    · have HRL : Hid (Rec2 49 9 1 w2 wr w2.heap.size (.int .i64 n3) (.slice a3 l.length c3) l.length (strVals l)) := Lib.hid (by
        have h := HRC.out
        rw [show j = l.length by omega, List.take_length] at h
        exact h)
      obtain rfl : j = l.length := by omega
      have HLI : Hid (StrsIn wr a3 l) := Lib.hid (owns_cells HRL.out.own)
      have HTW : Hid (TabE wr) := Lib.hid ((HE.out.later HB2.out).later HRL.out.below)
      have HZW := Lib.hid ((HRL.out.below.block w.heap.size (Array.getElem?_eq_some_iff.1 HZ2.out).1).trans HZ2.out)
      have HBW := Lib.hid (Below.now HB2.out HRL.out.below)
      obtain ⟨z0, z1, z2, z3⟩ := HRL.out.facts
      clear HRC
      go_wp2_with fail
      refine (HFT.out a3 c3 _ HLI.out HTW.out.1).mono ?_
      rintro e w6 ⟨rfl, hb6⟩
      have HR6 := Lib.hid (HRL.out.later hb6)
      have HZ6 := Lib.hid ((hb6.block w.heap.size (Array.getElem?_eq_some_iff.1 HZW.out).1).trans HZW.out)
      have HB6 := Lib.hid (Below.now HBW.out hb6)
      have HL6 := Lib.hid (HLI.out.later hb6)
      clear hb6 z0 z1 z2 z3
      obtain ⟨z0, z1, z2, z3⟩ := HR6.out.facts
      obtain ⟨y0, y1, y2, y3⟩ := rec_cells HZ6.out
      obtain ⟨u0, u1⟩ := tag_cells (tag_two HZ6.out (.int .i64 n3) (.slice a3 l.length c3))
      have F : Hid (RetTg n3 l w (.returned (.tuple #[.agg #[.int .i64 n3, .slice a3 l.length c3], .bool true])) ((w6.setCell ⟨w.heap.size, 0, none⟩ (.int .i64 n3)).setCell ⟨w.heap.size, 1, none⟩ (.slice a3 l.length c3))) := Lib.hid ⟨a3, c3, rfl, strs_setFar HL6.out HZ6.out (fun s e => by cases e) (fun s e => by cases e) _ _, (HB6.out.setCell (p := ⟨w.heap.size, 0, none⟩) (Nat.le_refl _) _).setCell (p := ⟨w.heap.size, 1, none⟩) (Nat.le_refl _) _⟩
      go_wp2_with fail
      refine bodyPost_ret (v := .tuple #[.agg #[.int .i64 n3, .slice a3 l.length c3], .bool true]) ?_ rfl F.out
      simp [results, Tryz.results25, go_sem, u0, u1]
end Go.Proofs.YtoddpmdjjgnpgaaGreatDoor
namespace Go.Proofs.YtoddpmdjjgnpgaaGreatDoor
open Go.RowKit
set_option linter.unusedVariables false
/-- blocks from n on stay as they are -/
def FarR (n : Nat) (W W2 : World) : Prop := ∀ g o, n ≤ g → W.heap[g]? = some o → W2.heap[g]? = some o
theorem farR_refl (n : Nat) (W : World) : FarR n W W := fun _ _ _ h => h
theorem farR_grown {n B : Nat} {W W2 : World} (hg : W.grownBy W2 (some B)) (hB : B < n) : FarR n W W2 := fun g o hn h => (hg.block g (Array.getElem?_eq_some_iff.1 h).1 (fun e => by have := Option.some.inj e; omega)).trans h
theorem farR_below {n : Nat} {W W2 : World} (hb : Below W.heap.size W W2) : FarR n W W2 := fun g o _ h => (hb.block g (Array.getElem?_eq_some_iff.1 h).1).trans h
/-- a literal row of strings is drawn from -/
theorem litArr_any (B : Nat) (a : Option Addr) (l : List UInt8) (cap : Nat) (ls : List ByteArray) (arr : Array Value) (n g : Nat) (w : World) (h : CurOk w B a l cap) (hg : w.heap.size = g) (h1 : 1 ≤ n) (h2 : n ≤ 256) (he : (strVals ls).toArray = arr) (hn : ls.length = n) (hz : ∀ i, i < ls.length → (nthS ls i).size ≤ 100) :
    Calls Tryz.prog 87 #[.pointer (some ⟨B, 0, none⟩), .slice (some ⟨g, 0, none⟩) n n] (w.alloc (.cells arr 9)) fun e w' => ∃ s : ByteArray, s.size ≤ 100 ∧ e = .returned (.string s) ∧ CurOk w' B a l cap ∧ w.grownBy w' (some B) := by
  subst he hn hg
  exact (strLit_any B a l cap ls w h h1 h2).mono fun _ _ ⟨i, hi, he, hc, hg⟩ => ⟨_, hz i hi, he, hc, hg⟩
/-- a tag system that is being drawn -/
structure DrwT (B : Nat) (a : Option Addr) (l : List UInt8) (cap : Nat) (w0 w : World) (g : Nat) (wr : World) (r : Int) (v : Value) (R : List ByteArray) : Prop where
  rc : Rec2 49 9 1 w0 wr g (.int .i64 r) v R.length (strVals R)
  cur : CurOk wr B a l cap
  zero : wr.heap[w.heap.size]? = some (.cells #[.int .i64 0, .slice none 0 0] 49 (0, 0))
  lt : B < w.heap.size ∧ w0.heap.size ≤ B ∧ w.heap.size < g
  far : l ≠ [] → ∀ x, a = some x → x.block < w.heap.size
  sz : ShortS 1001 R
section
variable {B : Nat} {a : Option Addr} {l : List UInt8} {cap : Nat} {w0 w wr : World} {g : Nat} {r : Int} {v : Value} {R : List ByteArray}
theorem DrwT.later {w' : World} (h : DrwT B a l cap w0 w g wr r v R) (hb : Below wr.heap.size wr w') : DrwT B a l cap w0 w g w' r v R :=
  ⟨h.rc.later hb, h.cur.later hb, block_later h.zero _ hb, h.lt, h.far, h.sz⟩
theorem DrwT.next {w' : World} (h : DrwT B a l cap w0 w g wr r v R) (hc : CurOk w' B a l cap) (hg : wr.grownBy w' (some B)) : DrwT B a l cap w0 w g w' r v R := by
  have h1 := h.lt
  have h2 := h.rc.lt
  refine ⟨h.rc.keptG hg (fun e => by have := Option.some.inj e; omega) (fun b hb e => by have := (h.rc.own.lt b hb).1; have := Option.some.inj e; omega) (fun b e => by have := Option.some.inj e; omega), hc, ?_, h.lt, h.far, h.sz⟩
  exact (hg.block _ (by omega) (fun e => by have := Option.some.inj e; omega)).trans h.zero
theorem DrwT.start {w2 : World} (hc : CurOk w2 B a l cap) (hb : Below w0.heap.size w0 w2) (hz : w2.heap[w.heap.size]? = some (.cells #[.int .i64 0, .slice none 0 0] 49 (0, 0))) (hB : B < w.heap.size ∧ w0.heap.size ≤ B) (hf : l ≠ [] → ∀ x, a = some x → x.block < w.heap.size) :
    DrwT B a l cap w0 w w2.heap.size (w2.alloc (.cells #[.int .i64 r, .slice none 0 0] 49)) r (.slice none 0 0) [] :=
  ⟨Rec2.start 49 9 1 (w := w0) hb (.int .i64 r), hc.alloc _, block_later hz _ (alloc_belowS w2 _), ⟨hB.1, hB.2, (Array.getElem?_eq_some_iff.1 hz).1⟩, hf, fun s hs => by simp at hs⟩
theorem DrwT.put (h : DrwT B a l cap w0 w g wr r v R) {p : ByteArray} (hp : p.size ≤ 1001) {w4 : World} {v' : Value} (hg : wr.grownBy w4 v.ownBlock) (ho : w4.ownsRow (g + 1) 9 1 v' (R.length + 1) (strVals R ++ [.string p])) :
    DrwT B a l cap w0 w g (w4.setCell ⟨g, 1, none⟩ v') r v' (R ++ [p]) := by
  have h1 := h.lt
  have hlt := h.rc.lt
  have hr : Rec2 49 9 1 w0 (w4.setCell ⟨g, 1, none⟩ v') g (.int .i64 r) v' (R ++ [p]).length (strVals (R ++ [p])) := by
    rw [List.length_append, strVals_appP]
    exact (putT h.rc hg ho).2
  have hb : ∀ b, v.ownBlock = some b → g + 1 ≤ b := fun b hb => (h.rc.own.lt b hb).1
  have hc1 : CurOk w4 B a l cap := h.cur.grownO hg (fun e => by have := hb _ e; omega) (fun hne x hx e => by have := h.far hne x hx; have := hb _ e; omega)
  have hz1 : w4.heap[w.heap.size]? = some (.cells #[.int .i64 0, .slice none 0 0] 49 (0, 0)) := (hg.block _ (by omega) (fun e => by have := hb _ e.symm; omega)).trans h.zero
  refine ⟨hr, hc1.grownO (setGrownB w4 _ 1 _) (fun e => by have := Option.some.inj e; omega) (fun hne x hx e => by have := h.far hne x hx; have := Option.some.inj e; omega), ?_, h.lt, h.far, h.sz.app hp⟩
  unfold World.setCell
  rw [Array.getElem?_modify, if_neg (by show ¬ g = w.heap.size; omega)]
  exact hz1
end
/-- some tag system is handed back -/
def RetTgD (B : Nat) (a : Option Addr) (l : List UInt8) (cap : Nat) (w0 : World) (e : Ending) (w' : World) : Prop := ∃ (r : Int) (R : List ByteArray) (aR : Option Addr) (cR : Nat),
  (ShortS 1001 R ∧ R.length ≤ 1001) ∧ e = .returned (.agg #[.int .i64 r, .slice aR R.length cR]) ∧ StrsIn w' aR R ∧ CurOk w' B a l cap ∧ Below w0.heap.size w0 w'
def tagLits : List ByteArray := [⟨#[50, 32, 98, 32, 97]⟩, ⟨#[51, 32, 97, 97, 32, 98, 98, 97, 98]⟩, ⟨#[50, 32, 98, 99, 32, 97, 32, 97, 97, 97]⟩, ⟨#[50, 32, 46, 32, 98]⟩, ⟨#[49, 32, 97, 98, 32, 97]⟩, ⟨#[50, 32, 97, 98, 32, 98, 97]⟩, ⟨#[51, 32, 98, 98, 32, 97, 98]⟩, ⟨#[50, 32, 98, 32, 97, 98]⟩]
theorem tagLits_size : ∀ i, i < tagLits.length → (nthS tagLits i).size ≤ 100 := by decide +kernel
/-- both cells of the result are stored -/
theorem tag_fin {B : Nat} {a : Option Addr} {l : List UInt8} {cap : Nat} {w0 wr : World} {z : Nat} {r : Int} {R : List ByteArray} {aR : Option Addr} {cR : Nat}
    (hs : ShortS 1001 R ∧ R.length ≤ 1001) (hl : StrsIn wr aR R) (hc : CurOk wr B a l cap) (hb : Below w0.heap.size w0 wr) (hz : wr.heap[z]? = some (.cells #[.int .i64 0, .slice none 0 0] 49 (0, 0))) (hlt : B < z ∧ w0.heap.size ≤ z) (hf : l ≠ [] → ∀ x, a = some x → x.block < z) :
    RetTgD B a l cap w0 (.returned (.agg #[.int .i64 r, .slice aR R.length cR])) ((wr.setCell ⟨z, 0, none⟩ (.int .i64 r)).setCell ⟨z, 1, none⟩ (.slice aR R.length cR)) :=
  ⟨r, R, aR, cR, hs, rfl, strs_setFar hl hz (fun s e => by cases e) (fun s e => by cases e) _ _,
    (hc.grownO (setGrownB wr z 0 _) (fun e => by have := Option.some.inj e; omega) (fun hne x hx e => by have := hf hne x hx; have := Option.some.inj e; omega)).grownO (setGrownB _ z 1 _) (fun e => by have := Option.some.inj e; omega) (fun hne x hx e => by have := hf hne x hx; have := Option.some.inj e; omega),
    (hb.setCell (p := ⟨z, 0, none⟩) hlt.2 _).setCell (p := ⟨z, 1, none⟩) hlt.2 _⟩
set_option maxRecDepth 20000 in
set_option maxHeartbeats 4000000 in
theorem l17Draw_c (B : Nat) (a : Option Addr) (l : List UInt8) (cap : Nat) (w0 w : World) (h : CurOk w B a l cap) (hb0 : Below w0.heap.size w0 w) (hB : w0.heap.size ≤ B) :
    Calls Tryz.prog 59 #[.pointer (some ⟨B, 0, none⟩)] w (RetTgD B a l cap w0) := by
  have HC1 := Lib.hid (h.alloc (.cells #[.int .i64 0, .slice none 0 0] 49))
  have HB1 := Lib.hid (hb0.alloc hb0.size (.cells #[.int .i64 0, .slice none 0 0] 49))
  have HZ1 := Lib.hid (alloc_at w (.cells #[.int .i64 0, .slice none 0 0] 49))
  have HLT : Hid (B < w.heap.size ∧ w0.heap.size ≤ B) := Lib.hid ⟨h.lt, hB⟩
  have HFR := Lib.hid (curNe h.bytes)
  have HO2 : Hid (∀ W, CurOk W B a l cap → Calls Tryz.prog 84 #[.pointer (some ⟨B, 0, none⟩), .int .i64 2] W fun e w' => ∃ b : Bool, e = .returned (.bool b) ∧ CurOk w' B a l cap ∧ W.grownBy w' (some B)) := Lib.hid (fun W hW => l01Once_any B 2 a l cap W hW (by omega) (by omega))
  have HB3 : Hid (∀ W, CurOk W B a l cap → Calls Tryz.prog 85 #[.pointer (some ⟨B, 0, none⟩), .int .i64 3] W fun e w' => ∃ x : Nat, x < 3 ∧ e = .returned (.int .i64 ((x : Nat) : Int)) ∧ CurOk w' B a l cap ∧ W.grownBy w' (some B)) := Lib.hid (fun W hW => l01Below_any B 3 a l cap W hW (by omega) (by omega))
  have HDW : Hid (∀ W, CurOk W B a l cap → Calls Tryz.prog 43 #[.pointer (some ⟨B, 0, none⟩), .int .i64 2, .int .i64 4] W fun e w' => ∃ s : ByteArray, (allB (letB 2) s = true ∧ s.size ≤ 4) ∧ e = .returned (.string s) ∧ CurOk w' B a l cap ∧ W.grownBy w' (some B)) := Lib.hid (fun W hW => l02Draw_any B 2 4 a l cap W hW (by omega) (by omega) (by omega))
  clear h hb0
  go_enter Tryz.func59, Tryz.ntmps59
  go_wp2_with fail
  refine (HO2.out _ HC1.out).mono ?_
  rintro e w2 ⟨b, rfl, hc2, hg2⟩
  have HC2 := Lib.hid hc2
  have HB2 : Hid (Below w0.heap.size w0 w2) := Lib.hid (below_curs HB1.out hg2 hB)
  have HZ2 := Lib.hid ((hg2.block w.heap.size (by simp) (fun e => by have := Option.some.inj e; have := HLT.out; omega)).trans HZ1.out)
  clear hc2 hg2 HC1 HB1 HZ1 HO2
  cases b
  · go_wp2_with fail
    refine (HB3.out _ HC2.out).mono ?_
    rintro e w3 ⟨x, hx, rfl, hc3, hg3⟩
    have HC3 := Lib.hid hc3
    have HB4 : Hid (Below w0.heap.size w0 w3) := Lib.hid (below_curs HB2.out hg3 hB)
    have hlt2 := (Array.getElem?_eq_some_iff.1 HZ2.out).1
    have HZ3 := Lib.hid ((hg3.block w.heap.size hlt2 (fun e => by have := Option.some.inj e; have := HLT.out; omega)).trans HZ2.out)
    have HD3 : Hid (DrwT B a l cap w0 w w3.heap.size (w3.alloc (.cells #[.int .i64 (1 + (x : Int)), .slice none 0 0] 49)) (1 + (x : Int)) (.slice none 0 0) []) := Lib.hid (DrwT.start HC3.out HB4.out HZ3.out HLT.out HFR.out)
    clear hc3 hg3 HC2 HB2 HZ2 hlt2 HB3 HC3 HB4 HZ3
    go_wp2_with fail
    generalize (1 + (x : Int)) = r at *
    generalize w3.heap.size = g at *
    go_loopw [6] (fun i wr => ∃ (R : List ByteArray) (v : Value), R.length ≤ 2 ∧ i = .int .i64 (R.length : Nat) ∧ Hid (DrwT B a l cap w0 w g wr r v R)) (fun i _ => 2 - (intOf i).toNat)
    case atStart => exact ⟨[], .slice none 0 0, Nat.zero_le _, rfl, HD3⟩
    case round =>
      clear HD3
      obtain ⟨R, v, hR, rfl, HDr⟩ := hrel
      obtain ⟨a3, c3, rfl⟩ := owns_form HDr.out.rc.own
      by_cases hj : R.length < 2
      · have hji : (R.length : Int) < 2 := by omega
        have HBW : Hid (B < wr.heap.size) := Lib.hid (by have := HDr.out.lt; have := HDr.out.rc.lt; omega)
        go_upto_region 8 with fail
        refine region_tail 5 (fun W => DrwT B a l cap w0 w g W r (.slice a3 R.length c3) R ∧ wr.heap.size ≤ W.heap.size) (FarR wr.heap.size) (fun u => by simp only [List.take_succ_cons, List.take_zero, fPut, Act.put, List.setIfInBounds_toArray, List.set_cons_succ, List.set_cons_zero, Nat.zero_add, Nat.reduceAdd]; rfl) (by kernel_rfl) (by kernel_rfl) (by kernel_rfl) (by kernel_rfl) (by kernel_rfl) (by kernel_rfl) (by kernel_rfl) ⟨HDr.out.later (Below.drew (Below.refl _ _)), Nat.le_refl _⟩ ?_
        conv => arg 7; simp only [List.take_succ_cons, List.take_zero]
        apply each_read (fun _ => farR_refl _ _) rfl
        · intro u wv hC hf
          obtain ⟨z0, z1, z2, z3⟩ := hC.1.rc.facts
          clear hf
          go_simp
          try rfl
        apply each_read (fun _ => farR_refl _ _) rfl
        · intro u wv hC hf
          obtain ⟨z0, z1, z2, z3⟩ := hC.1.rc.facts
          obtain ⟨d0_0, -⟩ := hf
          have e0 : u 0 = _ := d0_0 rfl
          clear d0_0
          go_simp
          try rfl
        conv => arg 8; simp only [List.cons_append, List.nil_append]
        apply each_read (fun _ => farR_refl _ _) rfl
        · intro u wv hC hf
          obtain ⟨z0, z1, z2, z3⟩ := hC.1.rc.facts
          clear hf
          go_simp
          try rfl
        conv => arg 8; simp only [List.cons_append, List.nil_append]
        refine each_call (fun v _ => ∃ s : ByteArray, s.size ≤ 4 ∧ v = .string s) (fun _ _ _ _ _ h => h) rfl ?_ ?_
        · intro u wv hC hf
          obtain ⟨z0, z1, z2, z3⟩ := hC.1.rc.facts
          obtain ⟨d2_0, -⟩ := hf
          have e2 : u 2 = _ := d2_0 rfl
          clear d2_0
          apply Exists.intro; apply Exists.intro; apply And.intro
          · go_simp; exact ⟨rfl, rfl⟩
          · refine (HDW.out _ hC.1.cur).mono ?_
            rintro e w9 ⟨s, ⟨-, hs4⟩, rfl, hc9, hg9⟩
            exact ⟨_, rfl, ⟨hC.1.next hc9 hg9, Nat.le_trans hC.2 hg9.size⟩, farR_grown hg9 HBW.out, s, hs4, rfl⟩
        conv => arg 8; simp only [List.cons_append, List.nil_append]
        refine each_do (fun v wv => ∃ (s : ByteArray) (g4 : Nat), (s.size ≤ 4 ∧ wr.heap.size ≤ g4) ∧ v = .slice (some ⟨g4, 0, none⟩) 1 1 ∧ wv.heap[g4]? = some (.cells #[.string s] 9 (0, 0))) (fun v w w2 _ hR ⟨s, g, h0, h1, h2⟩ => ⟨s, g, h0, h1, hR g _ h0.2 h2⟩) rfl ?_ ?_
        · intro u wv hC hf
          obtain ⟨z0, z1, z2, z3⟩ := hC.1.rc.facts
          obtain ⟨d3_0, -⟩ := hf
          obtain ⟨s, hs4, e3⟩ := d3_0 rfl
          clear d3_0
          replace e3 : u 3 = _ := e3
          refine ⟨.slice (some ⟨wv.heap.size, 0, none⟩) 1 1, wv.alloc (.cells #[.string s] 9), ?_, ⟨hC.1.later (alloc_belowS _ _), Nat.le_trans hC.2 (alloc_belowS wv _).size⟩, farR_below (alloc_belowS _ _), s, wv.heap.size, ⟨hs4, hC.2⟩, rfl, alloc_at wv _⟩
          go_simp
          try rfl
        intro u w7 d7 hall
        obtain ⟨a0, a1, a2, a3', a4, -⟩ := hall
        have e0 : u 0 = _ := a0
        clear a0
        have e1 : u 1 = _ := a1
        clear a1
        have e2 : u 2 = _ := a2
        clear a2
        obtain ⟨s3, -, e3⟩ := a3'
        replace e3 : u 3 = _ := e3
        obtain ⟨s, g4, ⟨hs4, hg4⟩, e4, b4⟩ := a4
        replace e4 : u 4 = _ := e4
        change wpList _ _ _ (List.drop 5 _) _ _
        simp only [List.drop_succ_cons, List.drop_zero]
        simp only [e0, e1, e2, e3, e4]
        clear e0 e1 e2 e3 e4
        have HR7 := Lib.hid d7.1
        clear d7
        refine wpList_appB rfl (.tmp 26) (.tmp 29) rfl Tryz.underlying47 Tryz.infoStr rfl (by decide) rfl HR7.out.rc.own HR7.out.rc.lt rfl (m := 1) (news := [.string s]) (fun i u hu => by
          match i, hu with
          | 0, hu =>
            obtain rfl := Option.some.inj hu
            rw [add_off]
            simp [World.cell?, b4]
          | i + 1, hu => cases hu) rfl (by decide) (fun u hu => by rw [List.mem_singleton.1 hu]; rfl) (by unfold maxLen; omega) (by omega) ?_
        intro g5 c5 w9 hn9 hg9 _
        obtain ⟨hbk, -⟩ := putT HR7.out.rc hg9 hn9
        have HRN := Lib.hid (HR7.out.put (p := s) (by omega) hg9 hn9)
        obtain ⟨q0, q1, q2, q3⟩ := rec_cells hbk
        clear hn9 hg9 hbk b4
        go_wp2_with fail
        go_roundw
        case rel => exact ⟨R ++ [s], _, by simp; omega, by simp, HRN⟩
        case measure => simp [intOf]; omega
      · have hji : ¬ (R.length : Int) < 2 := by omega
        have F := Lib.hid (tag_fin (r := r) (cR := c3) ⟨HDr.out.sz, by omega⟩ (owns_strs HDr.out.rc.own) HDr.out.cur HDr.out.rc.below HDr.out.zero ⟨HLT.out.1, by have := HLT.out; omega⟩ HFR.out)
        have hz5 := HDr.out.zero
        obtain ⟨y0, y1, y2, y3⟩ := HDr.out.rc.facts
        obtain ⟨z0, z1⟩ := tag_cells hz5
        obtain ⟨u0, u1⟩ := tag_cells (set_two hz5 (.int .i64 r) (.slice a3 R.length c3))
        have ff0 : wr.frozen? ⟨w.heap.size, 0, none⟩ = false := by simp [World.frozen?, hz5]
        have ff1 : wr.frozen? ⟨w.heap.size, 1, none⟩ = false := by simp [World.frozen?, hz5]
        clear hz5 HDr
        go_wp2_with fail
        refine bodyPost_ret (v := .agg #[.int .i64 r, .slice a3 R.length c3]) ?_ rfl F.out
        simp [results, Tryz.results59, go_sem, u0, u1]
  · clear HB3 HDW
    go_wp2_with fail
    refine (litArr_any B a l cap tagLits _ 8 _ _ HC2.out (by simp) (by decide) (by decide) (by kernel_rfl) (by kernel_rfl) tagLits_size).mono ?_
    rintro e w3 ⟨s, hs, rfl, hc3, hg3⟩
    have HC3 := Lib.hid hc3
    have HB3 : Hid (Below w0.heap.size w0 w3) := Lib.hid (below_curs HB2.out hg3 hB)
    have hlt2 := (Array.getElem?_eq_some_iff.1 HZ2.out).1
    have HZ3 := Lib.hid ((hg3.block w.heap.size hlt2 (fun e => by have := Option.some.inj e; have := HLT.out; omega)).trans HZ2.out)
    clear hc3 hg3 HC2 HB2 HZ2 hlt2
    go_wp2_with fail
    refine (specParseTag_c s _ (by omega)).mono ?_
    rintro e w4 ⟨r, R, aR, cR, bb, ⟨hs1, hs2⟩, rfl, hR, hb4⟩
    have hb5 := alloc_belowS w4 (.cells #[.int .i64 r, .slice aR R.length cR] 49)
    have HC5 := Lib.hid ((HC3.out.later hb4).later hb5)
    have HB5 := Lib.hid (Below.now (Below.now HB3.out hb4) hb5)
    have hz5 := block_later (block_later HZ3.out _ hb4) _ hb5
    have HR5 := Lib.hid (hR.later hb5)
    have hx5 := alloc_at w4 (.cells #[.int .i64 r, .slice aR R.length cR] 49)
    clear hb4 hR HC3 HB3 HZ3
    go_upto_region 3 with fail
    generalize w4.alloc (.cells #[.int .i64 r, .slice aR R.length cR] 49) = w5 at *
    have F := Lib.hid (tag_fin (r := r) (cR := cR) ⟨fun s h => Nat.le_trans (hs1 s h) (by omega), Nat.le_trans hs2 (by omega)⟩ HR5.out HC5.out HB5.out hz5 ⟨HLT.out.1, by have := HLT.out; omega⟩ HFR.out)
    obtain ⟨y0, y1⟩ := tag_cells hx5
    obtain ⟨z0, z1⟩ := tag_cells hz5
    obtain ⟨u0, u1⟩ := tag_cells (set_two hz5 (.int .i64 r) (.slice aR R.length cR))
    have ff0 : w5.frozen? ⟨w.heap.size, 0, none⟩ = false := by simp [World.frozen?, hz5]
    have ff1 : w5.frozen? ⟨w.heap.size, 1, none⟩ = false := by simp [World.frozen?, hz5]
    clear hz5 hx5 hb5
    go_wp2_with fail
    refine bodyPost_ret (v := .agg #[.int .i64 r, .slice aR R.length cR]) ?_ rfl F.out
    simp [results, Tryz.results59, go_sem, u0, u1]
end Go.Proofs.YtoddpmdjjgnpgaaGreatDoor
namespace Go.Proofs.YtoddpmdjjgnpgaaGreatDoor
open Go.RowKit
set_option linter.unusedVariables false
/-- some valid tag system -/
def RetMkT (w : World) (e : Ending) (w' : World) : Prop := ∃ (r : Int) (R : List ByteArray) (aR : Option Addr) (cR : Nat),
  tagB r R = true ∧ e = .returned (.agg #[.int .i64 r, .slice aR R.length cR]) ∧ StrsIn w' aR R ∧ Below w.heap.size w w'
set_option maxRecDepth 20000 in
set_option maxHeartbeats 2000000 in
theorem specMakeTag_c (a : Option Addr) (l : List UInt8) (cap k : Nat) (w : World) (hl : BytesIn w a l) (hlen : l.length ≤ 2 ^ 40) (hk : k ≤ 1000) :
    Calls Tryz.prog 20 #[.slice a l.length cap, .int .i64 (k : Nat)] w (RetMkT w) := by
  have hlt := alloc_at w (.cells #[.int .i64 0, .slice none 0 0] 49)
  have HW1 := Lib.hid (alloc_belowS w (.cells #[.int .i64 0, .slice none 0 0] 49))
  have HN := Lib.hid (l31New_any a l cap k (w.alloc (.cells #[.int .i64 0, .slice none 0 0] 49)) (hl.later HW1.out) hlen hk)
  have hsz : w.heap.size < (w.alloc (.cells #[.int .i64 0, .slice none 0 0] 49)).heap.size := by simp
  go_enter Tryz.func20, Tryz.ntmps20
  go_wp2_with fail
  generalize w.alloc (.cells #[.int .i64 0, .slice none 0 0] 49) = w1 at *
  refine HN.out.mono ?_
  rintro e w2 ⟨rfl, hc, hb⟩
  have HD := Lib.hid (l17Draw_c w1.heap.size a l cap w1 w2 hc hb (Nat.le_refl _))
  clear hc hb HN
  go_wp2_with fail
  refine HD.out.mono ?_
  rintro e w3 ⟨r, R, aR, cR, ⟨hs1, hs2⟩, rfl, hR, -, hb3⟩
  have hb4 := alloc_belowS w3 (.cells #[.int .i64 r, .slice aR R.length cR] 49)
  have HR4 := Lib.hid (hR.later hb4)
  have HB4 := Lib.hid (Below.now (Below.now HW1.out hb3) hb4)
  have HZ4 := Lib.hid (block_later (block_later hlt _ (show Below w1.heap.size w1 w3 from hb3)) _ hb4)
  have HX4 := Lib.hid (alloc_at w3 (.cells #[.int .i64 r, .slice aR R.length cR] 49))
  have HTG := Lib.hid (fun W h => specTag_any r R aR cR W h (by omega) (fun j hj => Nat.le_trans (hs1.at_ hj) (by unfold maxLen; omega)))
  obtain ⟨x0, x1⟩ := tag_cells HX4.out
  clear hb4 hR hb3 HD hlt hsz
  go_upto_region 2 with fail
  generalize w3.alloc (.cells #[.int .i64 r, .slice aR R.length cR] 49) = w4 at *
  go_wp2_with fail
  refine (HTG.out _ HR4.out).mono ?_
  rintro e w5 ⟨rfl, hb5⟩
  have HR5 := Lib.hid (HR4.out.later hb5)
  have HBX := Lib.hid (Below.now HB4.out hb5)
  have hz := block_later HZ4.out _ hb5
  have hx := block_later HX4.out _ hb5
  clear x0 x1
  obtain ⟨x0, x1⟩ := tag_cells hx
  clear hb5 HR4 HB4 HZ4 HX4 HTG
  obtain ⟨bb, hbb⟩ : ∃ bb, tagB r R = bb := ⟨_, rfl⟩
  have HBB := Lib.hid hbb
  rw [hbb]
  clear hbb
  cases bb
  · clear hx
    have hb7 := alloc_belowS w5 (.cells #[.string ⟨#[98]⟩, .string ⟨#[97]⟩] 9)
    have hz7 := block_later hz _ hb7
    have F : Hid (RetMkT w (.returned (.agg #[.int .i64 2, .slice (some ⟨w5.heap.size, 0, none⟩) 2 2])) (((w5.alloc (.cells #[.string ⟨#[98]⟩, .string ⟨#[97]⟩] 9)).setCell ⟨w.heap.size, 0, none⟩ (.int .i64 2)).setCell ⟨w.heap.size, 1, none⟩ (.slice (some ⟨w5.heap.size, 0, none⟩) 2 2))) :=
      Lib.hid ⟨2, [⟨#[98]⟩, ⟨#[97]⟩], _, 2, by decide +kernel, rfl, strs_setFar (StrsIn.lit w5 [⟨#[98]⟩, ⟨#[97]⟩]) hz7 (fun s e => by cases e) (fun s e => by cases e) _ _, ((Below.now HBX.out hb7).setCell (p := ⟨w.heap.size, 0, none⟩) (Nat.le_refl _) _).setCell (p := ⟨w.heap.size, 1, none⟩) (Nat.le_refl _) _⟩
    obtain ⟨z0, z1⟩ := tag_cells hz7
    obtain ⟨u0, u1⟩ := tag_cells (set_two hz7 (.int .i64 2) (.slice (some ⟨w5.heap.size, 0, none⟩) 2 2))
    have ff0 : (w5.alloc (.cells #[.string ⟨#[98]⟩, .string ⟨#[97]⟩] 9)).frozen? ⟨w.heap.size, 0, none⟩ = false := by simp [World.frozen?, hz7]
    have ff1 : (w5.alloc (.cells #[.string ⟨#[98]⟩, .string ⟨#[97]⟩] 9)).frozen? ⟨w.heap.size, 1, none⟩ = false := by simp [World.frozen?, hz7]
    clear hz hz7 hb7
    go_upto_region 4 with fail
    go_wp2_with fail
    refine bodyPost_ret (v := .agg #[.int .i64 2, .slice (some ⟨w5.heap.size, 0, none⟩) 2 2]) ?_ rfl F.out
    simp [results, Tryz.results20, go_sem, u0, u1]
  · cases h2 : ((R.length : Int) == 2)
    · clear hx
      have hb7 := alloc_belowS w5 (.cells #[.string ⟨#[98]⟩, .string ⟨#[97]⟩] 9)
      have hz7 := block_later hz _ hb7
      have F : Hid (RetMkT w (.returned (.agg #[.int .i64 2, .slice (some ⟨w5.heap.size, 0, none⟩) 2 2])) (((w5.alloc (.cells #[.string ⟨#[98]⟩, .string ⟨#[97]⟩] 9)).setCell ⟨w.heap.size, 0, none⟩ (.int .i64 2)).setCell ⟨w.heap.size, 1, none⟩ (.slice (some ⟨w5.heap.size, 0, none⟩) 2 2))) :=
        Lib.hid ⟨2, [⟨#[98]⟩, ⟨#[97]⟩], _, 2, by decide +kernel, rfl, strs_setFar (StrsIn.lit w5 [⟨#[98]⟩, ⟨#[97]⟩]) hz7 (fun s e => by cases e) (fun s e => by cases e) _ _, ((Below.now HBX.out hb7).setCell (p := ⟨w.heap.size, 0, none⟩) (Nat.le_refl _) _).setCell (p := ⟨w.heap.size, 1, none⟩) (Nat.le_refl _) _⟩
      obtain ⟨z0, z1⟩ := tag_cells hz7
      obtain ⟨u0, u1⟩ := tag_cells (set_two hz7 (.int .i64 2) (.slice (some ⟨w5.heap.size, 0, none⟩) 2 2))
      have ff0 : (w5.alloc (.cells #[.string ⟨#[98]⟩, .string ⟨#[97]⟩] 9)).frozen? ⟨w.heap.size, 0, none⟩ = false := by simp [World.frozen?, hz7]
      have ff1 : (w5.alloc (.cells #[.string ⟨#[98]⟩, .string ⟨#[97]⟩] 9)).frozen? ⟨w.heap.size, 1, none⟩ = false := by simp [World.frozen?, hz7]
      clear hz hz7 hb7
      go_upto_region 4 with fail
      go_wp2_with fail
      refine bodyPost_ret (v := .agg #[.int .i64 2, .slice (some ⟨w5.heap.size, 0, none⟩) 2 2]) ?_ rfl F.out
      simp [results, Tryz.results20, go_sem, u0, u1]
    · have F : Hid (RetMkT w (.returned (.agg #[.int .i64 r, .slice aR R.length cR])) ((w5.setCell ⟨w.heap.size, 0, none⟩ (.int .i64 r)).setCell ⟨w.heap.size, 1, none⟩ (.slice aR R.length cR))) :=
        Lib.hid ⟨r, R, aR, cR, HBB.out, rfl, strs_setFar HR5.out hz (fun s e => by cases e) (fun s e => by cases e) _ _, (HBX.out.setCell (p := ⟨w.heap.size, 0, none⟩) (Nat.le_refl _) _).setCell (p := ⟨w.heap.size, 1, none⟩) (Nat.le_refl _) _⟩
      obtain ⟨z0, z1⟩ := tag_cells hz
      obtain ⟨u0, u1⟩ := tag_cells (set_two hz (.int .i64 r) (.slice aR R.length cR))
      have ff0 : w5.frozen? ⟨w.heap.size, 0, none⟩ = false := by simp [World.frozen?, hz]
      have ff1 : w5.frozen? ⟨w.heap.size, 1, none⟩ = false := by simp [World.frozen?, hz]
      clear hz hx
      go_wp2_with fail
      refine bodyPost_ret (v := .agg #[.int .i64 r, .slice aR R.length cR]) ?_ rfl F.out
      simp [results, Tryz.results20, go_sem, u0, u1]
end Go.Proofs.YtoddpmdjjgnpgaaGreatDoor
