/-
  InverseOf and OrderOf, of the program and of the reference.
-/
import Derived.Test.YtdhaebbfiaddnaaGreatDoorGts26
import Derived.Test.YtdhaebbfiaddnaaGreatDoorGts33
import Derived.Test.YtdhaebbfiaddnaaGreatDoorGts25
import Derived.Test.YtdhaebbfiaddnaaGreatDoorGts27
import Derived.Test.YtdhaebbfiaddnaaGreatDoorGts34
import Derived.Test.YtdhaebbfiaddnaaGreatDoorGts32
import Derived.Test.YtdhaebbfiaddnaaGreatDoorGts23
namespace Go.Proofs.YtdhaebbfiaddnaaGreatDoor
open Go.RowKit
set_option linter.unusedVariables false
theorem TabG.of {m : Nat} {ln : List Nat} (h : TabOk m ln) : TabG m (ln.map Int.ofNat) := ⟨ln, rfl, h⟩
theorem Rec2.putD {TT T : TypeId} {size : Nat} {w wr w4 : World} {g : Nat} {x v v' : Value} {n m : Nat} {xs ys : List Value} (h : Rec2 TT T size w wr g x v n xs) (hg : wr.grownBy w4 v.ownBlock) (hn : w4.ownsRow (g + 1) T size v' m ys) :
    w4.heap[g]? = some (.cells #[x, v] TT (0, 0)) ∧ Rec2 TT T size w (w4.setCell ⟨g, 1, none⟩ v') g x v' m ys := by
  have h4 := (hg.block g h.lt (fun e => h.far e.symm)).trans h.blk
  have b4 : Below w.heap.size w w4 := h.below.grown hg h.below.size (fun k hk => by have := (h.own.lt k hk).1; have := h.le; omega)
  refine ⟨h4, ?_, ownsRow_setCell_below hn (by show g < g + 1; omega) _, h.le, b4.setCell h.le _⟩
  unfold World.setCell
  simp [Array.getElem?_modify, h4]
/-- a table handed back with true -/
def RetTb (m : Nat) (L : List Int) (w : World) (e : Ending) (w' : World) : Prop := ∃ (a : Option Addr) (cap : Nat), e = .returned (.tuple #[.agg #[.int .i64 (m : Nat), .slice a L.length cap], .bool true]) ∧ IntsIn w' a L ∧ Below w.heap.size w w'
set_option maxRecDepth 20000 in
set_option maxHeartbeats 4000000 in
theorem implOppositeTable_ok (m : Nat) (l : List Int) (a : Option Addr) (cap : Nat) (w : World) (hl : IntsIn w a l) (hT : TabG m l) :
    Calls Tryz.prog 27 #[.agg #[.int .i64 (m : Nat), .slice a l.length cap]] w (RetTb m ((oppT m (l.map Int.toNat)).map Int.ofNat) w) := by
  obtain ⟨hlen, hm1, hm2⟩ := hT.few
  have HB1 := Lib.hid (alloc_belI w (.cells #[.int .i64 (m : Nat), .slice a l.length cap] 60))
  have HX : Hid (∀ W, Below (w.alloc (.cells #[.int .i64 (m : Nat), .slice a l.length cap] 60)).heap.size (w.alloc (.cells #[.int .i64 (m : Nat), .slice a l.length cap] 60)) W → W.cell? ⟨w.heap.size, 0, none⟩ = some (.int .i64 (m : Nat)) ∧ W.cell? ⟨w.heap.size, 1, none⟩ = some (.slice a l.length cap)) := Lib.hid (fun W hW => ⟨by rw [hW.cell (by simp)]; simp, by rw [hW.cell (by simp)]; simp⟩)
  have HTO := Lib.hid (fun W (h : IntsIn W a l) => implTableOk_any (m : Nat) l a cap W h (by omega))
  rw [hT.tab] at HTO
  have HTM := Lib.hid (fun i k W (h : IntsIn W a l) hi hk => implTimes_any m _ a l.length cap i k W (hT.nats.2.1 W a h) hT.nats.1.toTb hT.nats.2.2 hi hk)
  have HL := Lib.hid hl
  generalize hz : l.map Int.toNat = zn at *
  have hs1 : (w.alloc (.cells #[.int .i64 (m : Nat), .slice a l.length cap] 60)).heap.size = w.heap.size + 1 := by simp
  have HS1 := Lib.hid hs1
  clear hl hT hz hs1
  go_enter Tryz.func27, Tryz.ntmps27
  go_wp2_with fail
  generalize w.alloc (.cells #[.int .i64 (m : Nat), .slice a l.length cap] 60) = w1 at *
  have hal := alloc_belI w1 (.cells #[.int .i64 0, .slice none 0 0] 60)
  have HA := Lib.hid (alloc_at w1 (.cells #[.int .i64 0, .slice none 0 0] 60))
  refine (HTO.out _ (HL.out.later (Below.now HB1.out hal))).mono ?_
  rintro e w2 ⟨rfl, hb2⟩
  have HB2 := Lib.hid (Below.now hal hb2)
  have HQ2 := Lib.hid ((hb2.block w1.heap.size (Array.getElem?_eq_some_iff.1 HA.out).1).trans HA.out)
  obtain ⟨z0, z1⟩ := HX.out _ HB2.out
  clear hb2 hal HA HTO
  have hq2 := HQ2.out
  rw [HS1.out] at hq2
  have HQ2 := Lib.hid hq2
  clear hq2
  generalize hr : w.heap.size + 1 = r1 at *
  have HS2 : Hid (r1 = w.heap.size + 1) := Lib.hid hr.symm
  clear hr
  have z0a : ∀ o, (w2.alloc o).cell? ⟨w.heap.size, 0, none⟩ = some (.int .i64 (m : Nat)) := fun o => (HX.out _ (Below.alloc HB2.out HB2.out.size o)).1
  go_wp2_with fail
  have HST := Lib.hid (Rec2.start 60 3 1 (w := w2) (w1 := w2) (Below.refl _ _) (.int .i64 (m : Nat)))
  clear z0 z1 z0a
  generalize w2.alloc (.cells #[.int .i64 (m : Nat), .slice none 0 0] 60) = w3 at *
  generalize hg : w2.heap.size = g at *
  have HG := Lib.hid hg
  clear hg
  go_loopw [16] (fun i wr => ∃ c : Nat, c ≤ m ∧ i = .int .i64 (c : Nat) ∧ Hid (∃ v, Rec2 60 3 1 w2 wr g (.int .i64 (m : Nat)) v (rowsN m (oppF m zn) c).length (ivs (rowsN m (oppF m zn) c)))) (fun i _ => m - (intOf i).toNat)
  case atStart => exact ⟨0, Nat.zero_le _, rfl, Lib.hid ⟨_, HST.out⟩⟩
  case round =>
    clear HST
    obtain ⟨c, hcm, rfl, HV⟩ := hrel
    obtain ⟨v, hv⟩ := HV.out
    have HR := Lib.hid hv
    have HBR := Lib.hid (Below.now HB2.out hv.below)
    clear hv HV
    obtain ⟨z0, z1⟩ := HX.out _ HBR.out
    by_cases hc : c < m
    · go_wp2_with fail
      generalize hWR : wr = wr0 at *
      clear hWR z0 z1
      go_loopw [21] (fun i wr => ∃ d : Nat, d ≤ m ∧ i = .int .i64 (d : Nat) ∧ Hid (∃ v, Rec2 60 3 1 w2 wr g (.int .i64 (m : Nat)) v (rowsN m (oppF m zn) c ++ rowN (oppF m zn) c d).length (ivs (rowsN m (oppF m zn) c ++ rowN (oppF m zn) c d)))) (fun i _ => m - (intOf i).toNat)
      case atStart => exact ⟨0, Nat.zero_le _, rfl, Lib.hid ⟨v, by rw [rowN_zero, List.append_nil]; exact HR.out⟩⟩
      case round =>
        clear HR HBR
        obtain ⟨d, hdm, rfl, HV⟩ := hrel
        obtain ⟨v, hv⟩ := HV.out
        have HR := Lib.hid hv
        have HBI := Lib.hid (Below.now HB2.out hv.below)
        clear hv HV
        obtain ⟨z0, z1⟩ := HX.out _ HBI.out
        by_cases hd : d < m
        · have hn1 : (rowsN m (oppF m zn) c ++ rowN (oppF m zn) c d).length ≤ 1640 := by
            rw [List.length_append, rowsN_len, rowN_len]
            have := mul_le hm2 hc
            omega
          have HE : Hid (rowsN m (oppF m zn) c ++ rowN (oppF m zn) c (d + 1) = (rowsN m (oppF m zn) c ++ rowN (oppF m zn) c d) ++ [tm m zn d c]) := Lib.hid (by rw [rowN_succ, List.append_assoc]; rfl)
          generalize rowsN m (oppF m zn) c ++ rowN (oppF m zn) c d = Q at *
          clear z0 z1
          go_upto_region 10 with fail
          refine region_tail 7 (fun W => Below wr.heap.size wr W) (fun W W2 => Below W.heap.size W W2) (fun u => by simp only [List.take_succ_cons, List.take_zero, fPut, Act.put, List.setIfInBounds_toArray, List.set_cons_succ, List.set_cons_zero, Nat.zero_add, Nat.reduceAdd]; rfl) (by kernel_rfl) (by kernel_rfl) (by kernel_rfl) (by kernel_rfl) (by kernel_rfl) (by kernel_rfl) (by kernel_rfl) (Below.drew (Below.refl _ _)) ?_
          conv => arg 7; simp only [List.take_succ_cons, List.take_zero]
          apply each_read (fun _ => Below.refl _ _) rfl
          · intro u wv hC hf
            have z0 := (HX.out _ (Below.now HBI.out hC)).1
            have z1 := (HX.out _ (Below.now HBI.out hC)).2
            have y0 := (HR.out.later hC).facts.1
            have y1 := (HR.out.later hC).facts.2.1
            clear hf
            go_simp
            try rfl
          apply each_read (fun _ => Below.refl _ _) rfl
          · intro u wv hC hf
            have z0 := (HX.out _ (Below.now HBI.out hC)).1
            have z1 := (HX.out _ (Below.now HBI.out hC)).2
            have y0 := (HR.out.later hC).facts.1
            have y1 := (HR.out.later hC).facts.2.1
            obtain ⟨d0_0, -⟩ := hf
            have e0 : u 0 = _ := d0_0 rfl
            clear d0_0
            go_simp
            try rfl
          conv => arg 8; simp only [List.cons_append, List.nil_append]
          apply each_read (fun _ => Below.refl _ _) rfl
          · intro u wv hC hf
            have z0 := (HX.out _ (Below.now HBI.out hC)).1
            have z1 := (HX.out _ (Below.now HBI.out hC)).2
            have y0 := (HR.out.later hC).facts.1
            have y1 := (HR.out.later hC).facts.2.1
            clear hf
            go_simp
            try rfl
          conv => arg 8; simp only [List.cons_append, List.nil_append]
          apply each_read (fun _ => Below.refl _ _) rfl
          · intro u wv hC hf
            have z0 := (HX.out _ (Below.now HBI.out hC)).1
            have z1 := (HX.out _ (Below.now HBI.out hC)).2
            have y0 := (HR.out.later hC).facts.1
            have y1 := (HR.out.later hC).facts.2.1
            clear hf
            go_simp
            try rfl
          conv => arg 8; simp only [List.cons_append, List.nil_append]
          apply each_read (fun _ => Below.refl _ _) rfl
          · intro u wv hC hf
            have z0 := (HX.out _ (Below.now HBI.out hC)).1
            have z1 := (HX.out _ (Below.now HBI.out hC)).2
            have y0 := (HR.out.later hC).facts.1
            have y1 := (HR.out.later hC).facts.2.1
            clear hf
            go_simp
            try rfl
          conv => arg 8; simp only [List.cons_append, List.nil_append]
          apply each_callR rfl
          · intro u wv hC hf
            have z0 := (HX.out _ (Below.now HBI.out hC)).1
            have z1 := (HX.out _ (Below.now HBI.out hC)).2
            have y0 := (HR.out.later hC).facts.1
            have y1 := (HR.out.later hC).facts.2.1
            obtain ⟨d2_0, d3_1, d4_2, -⟩ := hf
            have e2 : u 2 = _ := d2_0 rfl
            clear d2_0
            have e3 : u 3 = _ := d3_1 rfl
            clear d3_1
            have e4 : u 4 = _ := d4_2 rfl
            clear d4_2
            apply Exists.intro; apply Exists.intro; apply And.intro
            · go_simp; exact ⟨rfl, rfl⟩
            · refine (HTM.out d c _ (HL.out.later (Below.now HB1.out (Below.now HBI.out hC))) hd hc).mono ?_
              rintro e w3 ⟨rfl, hb⟩
              exact ⟨rfl, Below.now hC hb, hb⟩
          conv => arg 8; simp only [List.cons_append, List.nil_append]
          refine each_do (fun v wv => ∃ g7, v = .slice (some ⟨g7, 0, none⟩) 1 1 ∧ wv.cell? ⟨g7, 0, none⟩ = some (.int .i64 ((tm m zn d c : Nat) : Int))) (fun v w w2 _ hR ⟨g7, h1, hc⟩ => ⟨g7, h1, (hR.cell (World.block_lt_of_cell? _ _ hc)).trans hc⟩) rfl ?_ ?_
          · intro u wv hC hf
            have z0 := (HX.out _ (Below.now HBI.out hC)).1
            have z1 := (HX.out _ (Below.now HBI.out hC)).2
            have y0 := (HR.out.later hC).facts.1
            have y1 := (HR.out.later hC).facts.2.1
            obtain ⟨d5_0, -⟩ := hf
            have e5 : u 5 = _ := d5_0 rfl
            clear d5_0
            refine ⟨.slice (some ⟨wv.heap.size, 0, none⟩) 1 1, wv.alloc (.cells #[.int .i64 ((tm m zn d c : Nat) : Int)] 3), ?_, Below.alloc hC hC.size _, alloc_belowT _ _, wv.heap.size, rfl, by (rw [World.cell?_alloc_new]; rfl)⟩
            go_simp
            try rfl
          intro u w7 d7 hall
          obtain ⟨a0, a1, a2, a3, a4, a5, a6, -⟩ := hall
          have e0 : u 0 = _ := a0
          clear a0
          have e1 : u 1 = _ := a1
          clear a1
          have e2 : u 2 = _ := a2
          clear a2
          have e3 : u 3 = _ := a3
          clear a3
          have e4 : u 4 = _ := a4
          clear a4
          have e5 : u 5 = _ := a5
          clear a5
          obtain ⟨g6, e6, r6⟩ := a6
          replace e6 : u 6 = _ := e6
          change wpList _ _ _ (List.drop 7 _) _ _
          simp only [List.drop_succ_cons, List.drop_zero]
          simp only [e0, e1, e2, e3, e4, e5, e6]
          clear e0 e1 e2 e3 e4 e5 e6
          have HR7 := Lib.hid (HR.out.later d7)
          refine wpList_appB rfl (.tmp 25) (.tmp 30) rfl Tryz.underlying49 Tryz.infoInt rfl (by decide) rfl HR7.out.own HR7.out.lt rfl (m := 1) (news := [.int .i64 ((tm m zn d c : Nat) : Int)]) (fun j u hu => by
            match j, hu with
            | 0, hu =>
              obtain rfl := Option.some.inj hu
              rw [add_off]
              exact r6
            | j + 1, hu => cases hu) rfl (by decide) (fun u hu => by rw [List.mem_singleton.1 hu]; rfl) (by unfold maxLen; omega) (by omega) ?_
          intro g4 c4 w9 hn9 hg9 _
          obtain ⟨hbk, hput⟩ := HR7.out.putD hg9 hn9
          have HP9 := Lib.hid hput
          obtain ⟨q0, q1, f0, f1⟩ := rec_cells hbk
          clear hbk hput hn9 hg9 r6
          have F : Hid (∃ v, Rec2 60 3 1 w2 (w9.setCell ⟨g, 1, none⟩ (.slice (some ⟨g4, 0, none⟩) (Q.length + 1) c4)) g (.int .i64 (m : Nat)) v (rowsN m (oppF m zn) c ++ rowN (oppF m zn) c (d + 1)).length (ivs (rowsN m (oppF m zn) c ++ rowN (oppF m zn) c (d + 1)))) := Lib.hid ⟨_, by rw [HE.out, List.length_append, ivs_app]; exact HP9.out⟩
          go_wp2_with fail
          go_roundw
          case rel => exact ⟨d + 1, by omega, by go_num, F⟩
          case measure => simp [intOf]; omega
        · obtain rfl : d = m := by omega
          have F : Hid (∃ v, Rec2 60 3 1 w2 wr g (.int .i64 (d : Nat)) v (rowsN d (oppF d zn) (c + 1)).length (ivs (rowsN d (oppF d zn) (c + 1)))) := Lib.hid ⟨_, by rw [rowsN_succ]; exact HR.out⟩
          go_wp2_with fail
          go_roundw
          case rel => exact ⟨c + 1, by omega, by go_num, F⟩
          case measure => simp [intOf]; omega
    · obtain rfl : c = m := by omega
      obtain ⟨y0, y1, _, _⟩ := HR.out.facts
      have hq := (HR.out.below.block r1 (Array.getElem?_eq_some_iff.1 HQ2.out).1).trans HQ2.out
      obtain ⟨a7, c7, rfl⟩ := owns_form HR.out.own
      obtain ⟨⟨f0, f1⟩, ⟨u0, u1⟩, _⟩ := box_sets hq (.int .i64 (c : Nat)) (.slice a7 (rowsN c (oppF c zn) c).length c7)
      have F : Hid (RetTb c ((oppT c zn).map Int.ofNat) w (.returned (.tuple #[.agg #[.int .i64 (c : Nat), .slice a7 (rowsN c (oppF c zn) c).length c7], .bool true])) ((wr.setCell ⟨r1, 0, none⟩ (.int .i64 (c : Nat))).setCell ⟨r1, 1, none⟩ (.slice a7 (rowsN c (oppF c zn) c).length c7))) := Lib.hid (by
        have hr1 : r1 < g + 1 := by have := (Array.getElem?_eq_some_iff.1 HQ2.out).1; have := HG.out; omega
        have ho := ownsRow_setCell_below (ownsRow_setCell_below HR.out.own (a := ⟨r1, 0, none⟩) hr1 (.int .i64 (c : Nat))) (a := ⟨r1, 1, none⟩) hr1 (.slice a7 (rowsN c (oppF c zn) c).length c7)
        refine ⟨a7, c7, ?_, owns_ints (l := (oppT c zn).map Int.ofNat) ho, ?_⟩
        · rw [List.length_map]; rfl
        · exact ((Below.now HB1.out HBR.out).setCell (by have := HS2.out; show w.heap.size ≤ r1; omega) _).setCell (by have := HS2.out; show w.heap.size ≤ r1; omega) _)
      clear hq
      go_wp2_with fail
      refine bodyPost_ret (v := .tuple #[.agg #[.int .i64 (c : Nat), .slice a7 (rowsN c (oppF c zn) c).length c7], .bool true]) ?_ rfl F.out
      simp [results, Tryz.results27, go_sem, u0, u1]
end Go.Proofs.YtdhaebbfiaddnaaGreatDoor
namespace Go.Proofs.YtdhaebbfiaddnaaGreatDoor
open Go.RowKit
set_option linter.unusedVariables false
/-- commutative, in plain words -/
def comB (m : Nat) (ln : List Nat) : Bool := (List.range m).all (isCen m ln)
theorem comB_iff {m : Nat} {ln : List Nat} : comB m ln = true ↔ ∀ x y, x < m → y < m → tm m ln x y = tm m ln y x := by
  unfold comB isCen cenB
  rw [all_range]
  constructor
  · intro h x y hx hy; exact of_decide_eq_true (all_range.1 (h x hx) y hy)
  · intro h x hx; exact all_range.2 fun y hy => decide_eq_true (h x y hx hy)
end Go.Proofs.YtdhaebbfiaddnaaGreatDoor
namespace Go.Proofs.YtdhaebbfiaddnaaGreatDoor
open Go.RowKit
set_option linter.unusedVariables false
/-- the rows below c are those of a commutative table -/
def comTo (m : Nat) (ln : List Nat) (c : Nat) : Prop := ∀ x y, x < c → y < x → tm m ln x y = tm m ln y x
/-- and c's row up to d -/
def comRow (m : Nat) (ln : List Nat) (c d : Nat) : Prop := ∀ y, y < d → tm m ln c y = tm m ln y c
theorem comTo_succ {m : Nat} {ln : List Nat} {c : Nat} (h : comTo m ln c) (h2 : comRow m ln c c) : comTo m ln (c + 1) := fun x y hx hy => by
  by_cases e : x = c
  · subst e; exact h2 y hy
  · exact h x y (by omega) hy
theorem comTo_all {m : Nat} {ln : List Nat} (h : comTo m ln m) : comB m ln = true := comB_iff.2 fun x y hx hy => by
  rcases Nat.lt_trichotomy x y with h1 | h1 | h1
  · exact (h y x hy h1).symm
  · rw [h1]
  · exact h x y hx h1
theorem com_not {m : Nat} {ln : List Nat} {c d : Nat} (hc : c < m) (hd : d < m) (h : tm m ln c d ≠ tm m ln d c) : comB m ln = false := by
  cases e : comB m ln
  · rfl
  · exact absurd (comB_iff.1 e c d hc hd) h
set_option maxRecDepth 20000 in
set_option maxHeartbeats 4000000 in
theorem implIsCommutative_ok (m : Nat) (l : List Int) (a : Option Addr) (cap : Nat) (w : World) (hl : IntsIn w a l) (hT : TabG m l) :
    Calls Tryz.prog 28 #[.agg #[.int .i64 (m : Nat), .slice a l.length cap]] w fun e w' => e = .returned (.bool (comB m (l.map Int.toNat))) ∧ Below w.heap.size w w' := by
  obtain ⟨hlen, hm1, hm2⟩ := hT.few
  have HB1 := Lib.hid (alloc_belI w (.cells #[.int .i64 (m : Nat), .slice a l.length cap] 60))
  have HX : Hid (∀ W, Below (w.alloc (.cells #[.int .i64 (m : Nat), .slice a l.length cap] 60)).heap.size (w.alloc (.cells #[.int .i64 (m : Nat), .slice a l.length cap] 60)) W → W.cell? ⟨w.heap.size, 0, none⟩ = some (.int .i64 (m : Nat)) ∧ W.cell? ⟨w.heap.size, 1, none⟩ = some (.slice a l.length cap)) := Lib.hid (fun W hW => ⟨by rw [hW.cell (by simp)]; simp, by rw [hW.cell (by simp)]; simp⟩)
  have HTO := Lib.hid (fun W (h : IntsIn W a l) => implTableOk_any (m : Nat) l a cap W h (by omega))
  rw [hT.tab] at HTO
  have HTM := Lib.hid (fun i k W (h : IntsIn W a l) hi hk => implTimes_any m _ a l.length cap i k W (hT.nats.2.1 W a h) hT.nats.1.toTb hT.nats.2.2 hi hk)
  have HL := Lib.hid hl
  generalize hz : l.map Int.toNat = zn at *
  clear hl hT hz
  go_enter Tryz.func28, Tryz.ntmps28
  go_wp2_with fail
  generalize w.alloc (.cells #[.int .i64 (m : Nat), .slice a l.length cap] 60) = w1 at *
  refine (HTO.out _ (HL.out.later HB1.out)).mono ?_
  rintro e w2 ⟨rfl, hb2⟩
  have HB2 := Lib.hid hb2
  obtain ⟨z0, z1⟩ := HX.out _ hb2
  clear hb2
  go_wp2_with fail
  go_loopw [10] (fun i wr => ∃ c : Nat, c ≤ m ∧ i = .int .i64 (c : Nat) ∧ Hid (comTo m zn c) ∧ Below w1.heap.size w1 wr) (fun i _ => m - (intOf i).toNat)
  case atStart => exact ⟨0, Nat.zero_le _, rfl, Lib.hid (fun x y hx => absurd hx (Nat.not_lt_zero _)), HB2.out⟩
  case round =>
    clear z0 z1
    obtain ⟨c, hcm, rfl, HC, hbr⟩ := hrel
    have HBR := Lib.hid hbr
    obtain ⟨z0, z1⟩ := HX.out _ hbr
    clear hbr
    by_cases hc : c < m
    · go_wp2_with fail
      generalize hWR : wr = wr0 at *
      clear hWR z0 z1
      go_loopw [14] (fun i wr => ∃ d : Nat, d ≤ c ∧ i = .int .i64 (d : Nat) ∧ Hid (comRow m zn c d) ∧ Below w1.heap.size w1 wr) (fun i _ => c - (intOf i).toNat)
      case atStart => exact ⟨0, Nat.zero_le _, rfl, Lib.hid (fun y hy => absurd hy (Nat.not_lt_zero _)), HBR.out⟩
      case round =>
        obtain ⟨d, hdc, rfl, HD, hbr⟩ := hrel
        have HBI := Lib.hid hbr
        clear hbr
        by_cases hdl : d < c
        · have hd : d < m := by omega
          go_upto_region 9 with fail
          refine region_each (fun W => Below wr.heap.size wr W) (fun W W2 => Below W.heap.size W W2) (fun u => by simp only [fPut, Act.put, List.setIfInBounds_toArray, List.set_cons_succ, List.set_cons_zero, Nat.zero_add, Nat.reduceAdd]; rfl) (by kernel_rfl) (by kernel_rfl) (by kernel_rfl) (Below.drew (Below.refl _ _)) ?_
          apply each_read (fun _ => Below.refl _ _) rfl
          · intro u wv hC hf
            have z0 := (HX.out _ (Below.now HBI.out hC)).1
            have z1 := (HX.out _ (Below.now HBI.out hC)).2
            clear hf
            go_simp
            try rfl
          apply each_read (fun _ => Below.refl _ _) rfl
          · intro u wv hC hf
            have z0 := (HX.out _ (Below.now HBI.out hC)).1
            have z1 := (HX.out _ (Below.now HBI.out hC)).2
            clear hf
            go_simp
            try rfl
          apply each_read (fun _ => Below.refl _ _) rfl
          · intro u wv hC hf
            have z0 := (HX.out _ (Below.now HBI.out hC)).1
            have z1 := (HX.out _ (Below.now HBI.out hC)).2
            clear hf
            go_simp
            try rfl
          apply each_callR rfl
          · intro u wv hC hf
            have z0 := (HX.out _ (Below.now HBI.out hC)).1
            have z1 := (HX.out _ (Below.now HBI.out hC)).2
            obtain ⟨d0_0, d1_1, d2_2, -⟩ := hf
            have e0 : u 0 = _ := d0_0 rfl
            clear d0_0
            have e1 : u 1 = _ := d1_1 rfl
            clear d1_1
            have e2 : u 2 = _ := d2_2 rfl
            clear d2_2
            apply Exists.intro; apply Exists.intro; apply And.intro
            · go_simp; exact ⟨rfl, rfl⟩
            · refine (HTM.out c d _ (HL.out.later (Below.now HB1.out (Below.now HBI.out hC))) hc hd).mono ?_
              rintro e w3 ⟨rfl, hb⟩
              exact ⟨rfl, Below.now hC hb, hb⟩
          apply each_read (fun _ => Below.refl _ _) rfl
          · intro u wv hC hf
            have z0 := (HX.out _ (Below.now HBI.out hC)).1
            have z1 := (HX.out _ (Below.now HBI.out hC)).2
            clear hf
            go_simp
            try rfl
          apply each_read (fun _ => Below.refl _ _) rfl
          · intro u wv hC hf
            have z0 := (HX.out _ (Below.now HBI.out hC)).1
            have z1 := (HX.out _ (Below.now HBI.out hC)).2
            clear hf
            go_simp
            try rfl
          apply each_read (fun _ => Below.refl _ _) rfl
          · intro u wv hC hf
            have z0 := (HX.out _ (Below.now HBI.out hC)).1
            have z1 := (HX.out _ (Below.now HBI.out hC)).2
            clear hf
            go_simp
            try rfl
          apply each_callR rfl
          · intro u wv hC hf
            have z0 := (HX.out _ (Below.now HBI.out hC)).1
            have z1 := (HX.out _ (Below.now HBI.out hC)).2
            obtain ⟨d4_0, d5_1, d6_2, d3_3, -⟩ := hf
            have e4 : u 4 = _ := d4_0 rfl
            clear d4_0
            have e5 : u 5 = _ := d5_1 rfl
            clear d5_1
            have e6 : u 6 = _ := d6_2 rfl
            clear d6_2
            have e3 : u 3 = _ := d3_3 rfl
            clear d3_3
            apply Exists.intro; apply Exists.intro; apply And.intro
            · go_simp; exact ⟨rfl, rfl⟩
            · refine (HTM.out d c _ (HL.out.later (Below.now HB1.out (Below.now HBI.out hC))) hd hc).mono ?_
              rintro e w3 ⟨rfl, hb⟩
              exact ⟨rfl, Below.now hC hb, hb⟩
          apply each_read (fun _ => Below.refl _ _) rfl
          · intro u wv hC hf
            have z0 := (HX.out _ (Below.now HBI.out hC)).1
            have z1 := (HX.out _ (Below.now HBI.out hC)).2
            obtain ⟨d3_0, d7_1, -⟩ := hf
            have e3 : u 3 = _ := d3_0 rfl
            clear d3_0
            have e7 : u 7 = _ := d7_1 rfl
            clear d7_1
            go_simp
            try rfl
          intro u w7 d1 hall
          obtain ⟨a0, a1, a2, a3, a4, a5, a6, a7, a8, -⟩ := hall
          have e0 : u 0 = _ := a0
          clear a0
          have e1 : u 1 = _ := a1
          clear a1
          have e2 : u 2 = _ := a2
          clear a2
          have e3 : u 3 = _ := a3
          clear a3
          have e4 : u 4 = _ := a4
          clear a4
          have e5 : u 5 = _ := a5
          clear a5
          have e6 : u 6 = _ := a6
          clear a6
          have e7 : u 7 = _ := a7
          clear a7
          have e8 : u 8 = _ := a8
          clear a8
          simp only [e0, e1, e2, e3, e4, e5, e6, e7, e8]
          clear e0 e1 e2 e3 e4 e5 e6 e7 e8
          cases hq : (((tm m zn c d : Nat) : Int) == ((tm m zn d c : Nat) : Int))
          · have F : Hid (false = comB m zn) := Lib.hid (com_not hc hd (fun e => by rw [e] at hq; simp at hq)).symm
            go_wp2_with fail
            go_ret
            exact ⟨ret_bool F.out, Below.now HB1.out (Below.now HBI.out d1)⟩
          · have F : Hid (comRow m zn c (d + 1)) := Lib.hid (fun y hy => by
              by_cases e : y = d
              · subst e; have := beq_iff_eq.1 hq; omega
              · exact HD.out y (by omega))
            go_wp2_with fail
            go_roundw
            case rel => exact ⟨d + 1, by omega, by go_num, F, Below.now HBI.out d1⟩
            case measure => simp [intOf]; omega
        · obtain rfl : d = c := by omega
          have F : Hid (comTo m zn (d + 1)) := Lib.hid (comTo_succ HC.out HD.out)
          go_wp2_with fail
          go_roundw
          case rel => exact ⟨d + 1, by omega, by go_num, F, HBI.out⟩
          case measure => simp [intOf]; omega
    · obtain rfl : c = m := by omega
      have F : Hid (true = comB c zn) := Lib.hid (comTo_all HC.out).symm
      go_wp2_with fail
      go_ret
      exact ⟨ret_bool F.out, Below.now HB1.out HBR.out⟩
end Go.Proofs.YtdhaebbfiaddnaaGreatDoor
namespace Go.Proofs.YtdhaebbfiaddnaaGreatDoor
open Go.RowKit
set_option linter.unusedVariables false
/-- a number is among the first powers -/
def hitRow (P : Nat → Nat) (x : Int) (d : Nat) : Bool := (List.range d).any fun n => decide (((P (n + 1) : Nat) : Int) = x)
theorem hitRow_zero (P : Nat → Nat) (x : Int) : hitRow P x 0 = false := rfl
theorem hitRow_succ (P : Nat → Nat) (x : Int) (d : Nat) : hitRow P x (d + 1) = (hitRow P x d || ((((P (d + 1) : Nat) : Int) == x))) := by
  unfold hitRow
  rw [List.range_succ, List.any_append, List.any_cons, List.any_nil, Bool.or_false]
  rfl
theorem hitRow_at {P : Nat → Nat} {x : Int} {d n : Nat} (h1 : 1 ≤ n) (h2 : n ≤ d) (h : ((P n : Nat) : Int) = x) : hitRow P x d = true := by
  unfold hitRow
  rw [List.any_eq_true]
  refine ⟨n - 1, List.mem_range.2 (by omega), ?_⟩
  rw [show n - 1 + 1 = n by omega]
  exact decide_eq_true h
/-- one of the first numbers is among the powers -/
def hitTo (E : List Int) (P : Nat → Nat) (N j : Nat) : Bool := (E.take j).any fun x => hitRow P x N
theorem hitTo_zero (E : List Int) (P : Nat → Nat) (N : Nat) : hitTo E P N 0 = false := rfl
theorem hitTo_succ {E : List Int} {P : Nat → Nat} {N j : Nat} (h : j < E.length) : hitTo E P N (j + 1) = (hitTo E P N j || hitRow P (nthZ E j) N) := by
  unfold hitTo
  rw [List.take_add_one, List.getElem?_eq_getElem h, List.any_append, nthZ_lt h]
  simp
theorem hitTo_all {E : List Int} {P : Nat → Nat} {N j n : Nat} (hj : E.length ≤ j) (h1 : 1 ≤ n) (h2 : n ≤ N) (h : ((P n : Nat) : Int) ∈ E) : hitTo E P N j = true := by
  unfold hitTo
  rw [List.any_eq_true]
  exact ⟨_, by rw [List.take_of_length_le hj]; exact h, hitRow_at h1 h2 rfl⟩
theorem idemF_tab {m : Nat} {l : List Int} (h : TabG m l) : idemF (m : Nat) l = listTo (idemB m (l.map Int.toNat)) m := by
  unfold idemF thoseL listTo
  rw [h.tab]
  rfl
theorem unitsF_tab {m : Nat} {l : List Int} (h : TabG m l) : unitsOfF (m : Nat) l = listTo (isUnit m (l.map Int.toNat)) m := by
  unfold unitsOfF thoseL listTo
  rw [h.tab]
  rfl
theorem map_nat (ln : List Nat) : (ln.map Int.ofNat).map Int.toNat = ln := by
  rw [List.map_map]
  exact List.map_id'' (fun x => rfl) ln
theorem TabG.hit {m : Nat} {l : List Int} (h : TabG m l) {i : Nat} (hi : i < m) {j : Nat} (hj : (idemF (m : Nat) l).length ≤ j) : hitTo (idemF (m : Nat) l) (pw m (l.map Int.toNat) i) (repN m (l.map Int.toNat) i) j = true := by
  obtain ⟨n, h1, h2, h3⟩ := pw_idem h.nats.1 hi
  exact hitTo_all hj h1 h2 (by rw [idemF_tab h]; exact listTo_at.2 ⟨h.nats.1.toTb.pw_lt hi n, h3⟩)
theorem TabG.opp {m : Nat} {l : List Int} (h : TabG m l) : TabG m ((oppT m (l.map Int.toNat)).map Int.ofNat) := ⟨_, rfl, opp_ok h.nats.1⟩
theorem TabG.opp2 {m : Nat} {l : List Int} (h : TabG m l) : (oppT m (((oppT m (l.map Int.toNat)).map Int.ofNat).map Int.toNat)).map Int.ofNat = l := by
  rw [map_nat, opp_opp h.nats.1]
  obtain ⟨ln, rfl, _⟩ := h
  rw [map_nat]
theorem TabG.com {m : Nat} {l : List Int} (h : TabG m l) : comB m (l.map Int.toNat) = decide ((oppT m (l.map Int.toNat)).map Int.ofNat = l) := by
  have e : (oppT m (l.map Int.toNat)).map Int.ofNat = l ↔ oppT m (l.map Int.toNat) = l.map Int.toNat := by
    obtain ⟨ln, rfl, _⟩ := h
    rw [map_nat]
    constructor
    · intro e
      have := congrArg (List.map Int.toNat) e
      rwa [map_nat, map_nat] at this
    · intro e; rw [e]
  rw [Bool.eq_iff_iff, decide_eq_true_eq, e, opp_same h.nats.1]
  exact comB_iff
section
variable {m n : Nat} {l r : List Int} (h : TabG m l) (h' : TabG n r)
include h h'
theorem TabG.prod (hm : m * n ≤ 40) : TabG (m * n) ((prodT m (l.map Int.toNat) n (r.map Int.toNat)).map Int.ofNat) := ⟨_, rfl, prod_ok h.nats.1 h'.nats.1 hm⟩
theorem TabG.prod_idem (hm : m * n ≤ 40) : (idemF ((m * n : Nat) : Int) ((prodT m (l.map Int.toNat) n (r.map Int.toNat)).map Int.ofNat)).length = (idemF (m : Nat) l).length * (idemF (n : Nat) r).length := by
  rw [idemF_tab (TabG.prod h h' hm), idemF_tab h, idemF_tab h', map_nat]
  exact Go.Proofs.YtdhaebbfiaddnaaGreatDoor.prod_idem h.nats.1 h'.nats.1
theorem TabG.prod_unit (hm : m * n ≤ 40) : (unitsOfF ((m * n : Nat) : Int) ((prodT m (l.map Int.toNat) n (r.map Int.toNat)).map Int.ofNat)).length = (unitsOfF (m : Nat) l).length * (unitsOfF (n : Nat) r).length := by
  rw [unitsF_tab (TabG.prod h h' hm), unitsF_tab h, unitsF_tab h', map_nat]
  exact Go.Proofs.YtdhaebbfiaddnaaGreatDoor.prod_unit h.nats.1 h'.nats.1
end
end Go.Proofs.YtdhaebbfiaddnaaGreatDoor
namespace Go.Proofs.YtdhaebbfiaddnaaGreatDoor
open Go.RowKit
set_option linter.unusedVariables false
def invN (m : Nat) (ln : List Nat) (i : Nat) : Nat := (invF m ln i).toNat
theorem Grp.invN_spec {m : Nat} {ln : List Nat} (h : Grp m ln) {i : Nat} (hi : i < m) : invN m ln i < m ∧ tm m ln i (invN m ln i) = 0 ∧ tm m ln (invN m ln i) i = 0 ∧ invF m ln i = ((invN m ln i : Nat) : Int) := by
  obtain ⟨k, hk, e1, e2, e3⟩ := h.inv hi
  have : invN m ln i = k := by unfold invN; rw [e3]; simp
  rw [this]
  exact ⟨hk, e1, e2, e3⟩
/-- the product of x, i and the inverse of x -/
def cj (m : Nat) (ln : List Nat) (x i : Nat) : Nat := tm m ln (tm m ln x i) (invN m ln x)
theorem Grp.cj_lt {m : Nat} {ln : List Nat} (h : Grp m ln) {x i : Nat} (hx : x < m) (hi : i < m) : cj m ln x i < m := h.tm_lt (h.tm_lt hx hi) (h.invN_spec hx).1
def subOne (m : Nat) (ln : List Nat) (p : Nat) (q : List Nat) (x : Nat) : List Nat := if q.contains (tm m ln (q.getD p 0) x) then q else q ++ [tm m ln (q.getD p 0) x]
def subTo (m : Nat) (ln z q : List Nat) (p j : Nat) : List Nat := (z.take j).foldl (subOne m ln p) q
def subRun (m : Nat) (ln z : List Nat) : Nat → Nat → List Nat → List Nat
  | 0, _, q => q
  | k + 1, p, q => if p < q.length then subRun m ln z k (p + 1) (subTo m ln z q p z.length) else q
/-- the elements of the least subgroup, in the order in which they are found -/
def subQ (m : Nat) (ln z : List Nat) : List Nat := subRun m ln z (m + 1) 0 [0]
theorem subTo_zero (m : Nat) (ln z q : List Nat) (p : Nat) : subTo m ln z q p 0 = q := by simp [subTo]
theorem subTo_succ {m : Nat} {ln z q : List Nat} {p j : Nat} (hj : j < z.length) : subTo m ln z q p (j + 1) = subOne m ln p (subTo m ln z q p j) z[j] := by
  unfold subTo
  rw [List.take_succ_eq_append_getElem hj, List.foldl_append]
  rfl
/-- what is known of the list -/
structure SubInv (m : Nat) (q : List Nat) : Prop where
  nd : q.Nodup
  lt : ∀ y ∈ q, y < m
theorem SubInv.len {m : Nat} {q : List Nat} (h : SubInv m q) : q.length ≤ m := by
  apply Nat.le_of_not_lt
  intro hlt
  obtain ⟨i, j, hij, hj, e⟩ := php m (fun i => q.getD i 0) (fun i hi => by
    simp only [List.getD_eq_getElem?_getD, List.getElem?_eq_getElem (show i < q.length by omega), Option.getD_some]
    exact h.lt _ (List.getElem_mem _))
  simp only [List.getD_eq_getElem?_getD, List.getElem?_eq_getElem (show i < q.length by omega), List.getElem?_eq_getElem (show j < q.length by omega), Option.getD_some] at e
  exact (List.pairwise_iff_getElem.1 h.nd) i j (by omega) (by omega) hij e
theorem SubInv.start {m : Nat} (h : 1 ≤ m) : SubInv m [0] := ⟨by simp, by simp; omega⟩
theorem getD_lt {q : List Nat} {p : Nat} (h : p < q.length) : q.getD p 0 = q[p] := by simp [List.getD_eq_getElem?_getD, h]
theorem SubInv.at {m : Nat} {q : List Nat} (h : SubInv m q) {p : Nat} (hp : p < q.length) : q.getD p 0 < m := by rw [getD_lt hp]; exact h.lt _ (List.getElem_mem _)
theorem subOne_inv {m : Nat} {ln q : List Nat} {p x : Nat} (hT : Tb m ln) (h : SubInv m q) (hp : p < q.length) (hx : x < m) : SubInv m (subOne m ln p q x) := by
  unfold subOne
  by_cases hc : q.contains (tm m ln (q.getD p 0) x) = true
  · rw [if_pos hc]; exact h
  · rw [if_neg hc]
    refine ⟨?_, fun y hy => ?_⟩
    · rw [List.nodup_append]
      refine ⟨h.nd, by simp, fun a ha b hb e => ?_⟩
      rw [List.mem_singleton.1 hb] at e
      subst e
      exact hc (by simpa using ha)
    · rcases List.mem_append.1 hy with hy | hy
      · exact h.lt y hy
      · rw [List.mem_singleton.1 hy]; exact hT.tm_lt (h.at hp) hx
theorem subOne_pre (m : Nat) (ln q : List Nat) (p x : Nat) : q <+: subOne m ln p q x := by
  unfold subOne
  split
  · exact List.prefix_refl _
  · exact List.prefix_append _ _
theorem pre_get {q q' : List Nat} (h : q <+: q') {p : Nat} (hp : p < q.length) : q'.getD p 0 = q.getD p 0 := by
  obtain ⟨t, rfl⟩ := h
  rw [List.getD_eq_getElem?_getD, List.getD_eq_getElem?_getD, List.getElem?_append_left hp]
theorem subTo_all {m : Nat} {ln z q : List Nat} {p : Nat} (hT : Tb m ln) (hz : ∀ x ∈ z, x < m) (h : SubInv m q) (hp : p < q.length) : ∀ j, j ≤ z.length → SubInv m (subTo m ln z q p j) ∧ q <+: subTo m ln z q p j
  | 0, _ => by rw [subTo_zero]; exact ⟨h, List.prefix_refl _⟩
  | j + 1, hj => by
    obtain ⟨h1, h2⟩ := subTo_all hT hz h hp j (by omega)
    rw [subTo_succ (by omega)]
    exact ⟨subOne_inv hT h1 (Nat.lt_of_lt_of_le hp h2.length_le) (hz _ (List.getElem_mem _)), h2.trans (subOne_pre _ _ _ _ _)⟩
/-- the state of the outer loop: what comes out is what comes out of the beginning -/
structure SubAt (m : Nat) (ln z : List Nat) (p : Nat) (q : List Nat) : Prop extends SubInv m q where
  pos : 0 < q.length
  le : p ≤ q.length
  eq : subRun m ln z (m + 1 - p) p q = subQ m ln z
theorem SubAt.begin {m : Nat} {ln : List Nat} (z : List Nat) (h : Tb m ln) : SubAt m ln z 0 [0] := ⟨SubInv.start h.lo, by simp, by simp, rfl⟩
theorem SubAt.next {m : Nat} {ln z : List Nat} {p : Nat} {q : List Nat} (hT : Tb m ln) (hz : ∀ x ∈ z, x < m) (h : SubAt m ln z p q) (hp : p < q.length) : SubAt m ln z (p + 1) (subTo m ln z q p z.length) := by
  obtain ⟨h1, h2⟩ := subTo_all hT hz h.toSubInv hp _ (Nat.le_refl _)
  have h3 := h2.length_le
  have h4 := h.toSubInv.len
  refine ⟨h1, by omega, by omega, ?_⟩
  have h5 := h.eq
  rw [show m + 1 - p = (m + 1 - (p + 1)) + 1 by omega] at h5
  unfold subRun at h5
  rw [if_pos hp] at h5
  exact h5
theorem SubAt.stop {m : Nat} {ln z : List Nat} {p : Nat} {q : List Nat} (h : SubAt m ln z p q) (hp : ¬ p < q.length) : q = subQ m ln z := by
  have h4 := h.toSubInv.len
  have h6 := h.le
  have h5 := h.eq
  rw [show m + 1 - p = (m - p) + 1 by omega] at h5
  unfold subRun at h5
  rw [if_neg hp] at h5
  exact h5
inductive Reach (m : Nat) (ln z : List Nat) : Nat → Prop
  | zero : Reach m ln z 0
  | step {y x : Nat} : Reach m ln z y → x ∈ z → Reach m ln z (tm m ln y x)
theorem subOne_mem {m : Nat} {ln q : List Nat} {p x y : Nat} : y ∈ subOne m ln p q x ↔ y ∈ q ∨ y = tm m ln (q.getD p 0) x := by
  unfold subOne
  by_cases hc : q.contains (tm m ln (q.getD p 0) x) = true
  · rw [if_pos hc]
    have hc' : tm m ln (q.getD p 0) x ∈ q := by simpa using hc
    exact ⟨.inl, fun h => h.elim id (fun e => e ▸ hc')⟩
  · rw [if_neg hc]; simp
theorem subTo_reach {m : Nat} {ln z q : List Nat} {p : Nat} (h : ∀ y ∈ q, Reach m ln z y) (hp : p < q.length) : ∀ j, j ≤ z.length → q <+: subTo m ln z q p j ∧ ∀ y ∈ subTo m ln z q p j, Reach m ln z y
  | 0, _ => by rw [subTo_zero]; exact ⟨List.prefix_refl _, h⟩
  | j + 1, hj => by
    obtain ⟨h1, h2⟩ := subTo_reach h hp j (by omega)
    rw [subTo_succ (by omega)]
    refine ⟨h1.trans (subOne_pre _ _ _ _ _), fun y hy => ?_⟩
    rcases subOne_mem.1 hy with hy | rfl
    · exact h2 y hy
    · have hl := Nat.lt_of_lt_of_le hp h1.length_le
      rw [getD_lt hl]
      exact .step (h2 _ (List.getElem_mem hl)) (List.getElem_mem _)
theorem subTo_has {m : Nat} {ln z q : List Nat} {p : Nat} (hp : p < q.length) : ∀ j, j ≤ z.length → q <+: subTo m ln z q p j ∧ ∀ i (hi : i < j) (hiz : i < z.length), tm m ln (q.getD p 0) z[i] ∈ subTo m ln z q p j
  | 0, _ => by rw [subTo_zero]; exact ⟨List.prefix_refl _, fun i hi => absurd hi (Nat.not_lt_zero _)⟩
  | j + 1, hj => by
    obtain ⟨h1, h2⟩ := subTo_has (ln := ln) (m := m) (z := z) hp j (by omega)
    rw [subTo_succ (by omega)]
    refine ⟨h1.trans (subOne_pre _ _ _ _ _), fun i hi hiz => ?_⟩
    by_cases e : i = j
    · subst e
      exact subOne_mem.2 (.inr (by rw [pre_get h1 hp]))
    · exact subOne_mem.2 (.inl (h2 i (by omega) hiz))
/-- what comes out of the run is closed -/
theorem subRun_closed {m : Nat} {ln z : List Nat} (hT : Tb m ln) (hz : ∀ x ∈ z, x < m) : ∀ (k p : Nat) (q : List Nat), SubInv m q → m < k + p → (∀ y ∈ q, Reach m ln z y) → (∀ i, i < p → i < q.length → ∀ x ∈ z, tm m ln (q.getD i 0) x ∈ q) →
    q <+: subRun m ln z k p q ∧ (∀ y ∈ subRun m ln z k p q, Reach m ln z y) ∧ ∀ y ∈ subRun m ln z k p q, ∀ x ∈ z, tm m ln y x ∈ subRun m ln z k p q
  | 0, p, q, hI, hk, hr, hc => by
    unfold subRun
    refine ⟨List.prefix_refl _, hr, fun y hy x hx => ?_⟩
    obtain ⟨i, hi, rfl⟩ := List.getElem_of_mem hy
    have := hI.len
    have h1 := hc i (by omega) hi x hx
    rwa [getD_lt hi] at h1
  | k + 1, p, q, hI, hk, hr, hc => by
    unfold subRun
    by_cases hp : p < q.length
    · rw [if_pos hp]
      obtain ⟨h1, h2⟩ := subTo_all hT hz hI hp _ (Nat.le_refl _)
      obtain ⟨_, h3⟩ := subTo_reach hr hp _ (Nat.le_refl z.length)
      obtain ⟨_, h4⟩ := subTo_has (m := m) (ln := ln) (z := z) hp _ (Nat.le_refl z.length)
      obtain ⟨a1, a2, a3⟩ := subRun_closed hT hz k (p + 1) (subTo m ln z q p z.length) h1 (by omega) h3 (fun i hi hil x hx => by
        by_cases e : i = p
        · subst e
          obtain ⟨j, hj, rfl⟩ := List.getElem_of_mem hx
          rw [pre_get h2 hp]
          exact h4 j hj hj
        · have hi' : i < q.length := by omega
          rw [pre_get h2 hi']
          exact h2.subset (hc i (by omega) hi' x hx))
      exact ⟨h2.trans a1, a2, a3⟩
    · rw [if_neg hp]
      refine ⟨List.prefix_refl _, hr, fun y hy x hx => ?_⟩
      obtain ⟨i, hi, rfl⟩ := List.getElem_of_mem hy
      have h1 := hc i (by omega) hi x hx
      rwa [getD_lt hi] at h1
theorem subQ_mem {m : Nat} {ln z : List Nat} (hT : Tb m ln) (hz : ∀ x ∈ z, x < m) (y : Nat) : y ∈ subQ m ln z ↔ Reach m ln z y := by
  obtain ⟨h1, h2, h3⟩ := subRun_closed hT hz (m + 1) 0 [0] (SubInv.start hT.lo) (by omega) (fun y hy => by rw [List.mem_singleton.1 hy]; exact .zero) (fun i hi => absurd hi (Nat.not_lt_zero _))
  refine ⟨h2 y, fun h => ?_⟩
  induction h with
  | zero => exact h1.subset (by simp)
  | step _ hx ih => exact h3 _ ih _ hx
theorem Reach.mono {m : Nat} {ln z z' : List Nat} (h : ∀ x ∈ z, x ∈ z') {y : Nat} (hr : Reach m ln z y) : Reach m ln z' y := by
  induction hr with
  | zero => exact .zero
  | step _ hx ih => exact .step ih (h _ hx)
theorem Reach.lt {m : Nat} {ln z : List Nat} (hT : Tb m ln) (hz : ∀ x ∈ z, x < m) {y : Nat} (h : Reach m ln z y) : y < m := by
  induction h with
  | zero => exact hT.lo
  | step _ hx ih => exact hT.tm_lt ih (hz _ hx)
theorem Reach.mul {m : Nat} {ln z : List Nat} (hT : TabOk m ln) (hz : ∀ x ∈ z, x < m) {a b : Nat} (ha : Reach m ln z a) (hb : Reach m ln z b) : Reach m ln z (tm m ln a b) := by
  induction hb with
  | zero => rw [hT.right _ (ha.lt hT.toTb hz)]; exact ha
  | step hb hx ih =>
    rw [← hT.assoc _ _ _ (ha.lt hT.toTb hz) (hb.lt hT.toTb hz) (hz _ hx)]
    exact .step ih hx
theorem Reach.pow {m : Nat} {ln z : List Nat} (hT : TabOk m ln) (hz : ∀ x ∈ z, x < m) {a : Nat} (ha : Reach m ln z a) : ∀ n, Reach m ln z (pw m ln a n)
  | 0 => .zero
  | n + 1 => (Reach.pow hT hz ha n).mul hT hz ha
theorem Reach.inv {m : Nat} {ln z : List Nat} (hG : Grp m ln) (hz : ∀ x ∈ z, x < m) {a : Nat} (ha : Reach m ln z a) : Reach m ln z (invN m ln a) := by
  have hl := ha.lt hG.toTb hz
  obtain ⟨h1, h2, _⟩ := hG.order hl
  have e : tm m ln (pw m ln a (repN m ln a - 1)) a = 0 := by
    rw [← h2, show repN m ln a = (repN m ln a - 1) + 1 by omega, pw_succ]; rfl
  have hp := hG.toTb.pw_lt hl (repN m ln a - 1)
  obtain ⟨i1, i2, i3, _⟩ := hG.invN_spec hl
  have : invN m ln a = pw m ln a (repN m ln a - 1) := by
    have h3 := hG.assoc _ _ _ hp hl i1
    rw [e, i2, hG.left _ i1, hG.right _ hp] at h3
    exact h3
  rw [this]
  exact ha.pow hG.toTabOk hz _
end Go.Proofs.YtdhaebbfiaddnaaGreatDoor
namespace Go.Proofs.YtdhaebbfiaddnaaGreatDoor
open Go.RowKit
set_option linter.unusedVariables false
/-- InverseOf as a function of plain data -/
def invOk (n : Int) (l : List Int) (i : Int) : Bool := groupB n l && inB i 0 (n - 1)
def invV (n : Int) (l : List Int) (i : Int) : Int := if invOk n l i = true then invF n.toNat (l.map Int.toNat) i.toNat else 0
/-- OrderOf as a function of plain data -/
def ordV (n : Int) (l : List Int) (i : Int) : Int := if invOk n l i = true then (repN n.toNat (l.map Int.toNat) i.toNat : Nat) else 0
theorem invOk_not1 {n : Int} {l : List Int} {i : Int} (h : groupB n l = false) : invOk n l i = false := by simp [invOk, h]
theorem invOk_not2 {n : Int} {l : List Int} {i : Int} (h : inB i 0 (n - 1) = false) : invOk n l i = false := by simp [invOk, h]
theorem invOk_yes {n : Int} {l : List Int} {i : Int} (h1 : groupB n l = true) (h : inB i 0 (n - 1) = true) : invOk n l i = true := by simp [invOk, h, h1]
theorem invV_not {n : Int} {l : List Int} {i : Int} (h : invOk n l i = false) : invV n l i = 0 := by simp [invV, h]
theorem ordV_not {n : Int} {l : List Int} {i : Int} (h : invOk n l i = false) : ordV n l i = 0 := by simp [ordV, h]
theorem invV_yes {m k : Nat} {ln : List Nat} (h : invOk (m : Nat) (ln.map Int.ofNat) (k : Nat) = true) : invV (m : Nat) (ln.map Int.ofNat) (k : Nat) = invF m ln k := by
  unfold invV; rw [if_pos h, map_toNat]; rfl
theorem ordV_yes {m k : Nat} {ln : List Nat} (h : invOk (m : Nat) (ln.map Int.ofNat) (k : Nat) = true) : ordV (m : Nat) (ln.map Int.ofNat) (k : Nat) = ((repN m ln k : Nat) : Int) := by
  unfold ordV; rw [if_pos h, map_toNat]; rfl
theorem inB_nat {m : Nat} {i : Int} (h : inB i 0 ((m : Nat) - 1) = true) : ∃ k : Nat, i = (k : Nat) ∧ k < m := by
  have := inB_bounds h
  exact ⟨i.toNat, by omega, by omega⟩
theorem ret_ib {a b : Int} {p q : Bool} (h : a = b) (h2 : p = q) : Ending.returned (.tuple #[.int .i64 a, .bool p]) = .returned (.tuple #[.int .i64 b, .bool q]) := by rw [h, h2]
theorem ret_ii {a b c d : Int} (h : a = b) (h2 : c = d) : Ending.returned (.tuple #[.int .i64 a, .int .i64 c]) = .returned (.tuple #[.int .i64 b, .int .i64 d]) := by rw [h, h2]
end Go.Proofs.YtdhaebbfiaddnaaGreatDoor
