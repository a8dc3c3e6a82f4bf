/-
  PowerOf, OppositeTable and ProductTable of the program at valid tables.
-/
import Derived.Test.YtdhaebbfiaddnaaGrp29
import Derived.StillTail
import Derived.Test.YtdhaebbfiaddnaaGrp28
import Derived.Test.YtdhaebbfiaddnaaGrp23
namespace Go.Proofs.Ytdhaebbfiaddnaa
open Go.RowKit
set_option linter.unusedVariables false
/-- another end -/
def endQ (Q : Exit → Act → World → Prop) (E : Act → World → Prop) : Exit → Act → World → Prop := fun e a w => match e with
  | .normal => E a w
  | e => Q e a w
section
variable {P : Program} {Q : Exit → Act → World → Prop} {E : Act → World → Prop}
theorem wp_endQ {o : Oper} {a : Act} {w : World} {K : Act → World → Prop} (h : o.wp P a w K (endQ Q E)) : o.wp P a w K Q := by
  unfold Oper.wp at *
  generalize (execOp a.eval o).run P w = r at *
  unfold Oper.upon at *
  cases r with
  | ok n w' => cases n <;> exact h
  | halt x w' => cases x <;> exact h
theorem count_all {n g : Nat} {L : List Bool} (hlen : L.length = n + g) (hc : L.count true = n) (ht : ∀ t, n ≤ t → t < n + g → L.getD t true = false) : L = List.replicate n true ++ List.replicate g false := by
  have e0 := List.take_append_drop n L
  have e2 : L.drop n = List.replicate g false := by
    rw [List.eq_replicate_iff]
    refine ⟨by rw [List.length_drop]; omega, fun b hb => ?_⟩
    obtain ⟨j, hj, rfl⟩ := List.getElem_of_mem hb
    rw [List.length_drop] at hj
    have := ht (n + j) (by omega) (by omega)
    rw [List.getD_eq_getElem?_getD, List.getElem?_eq_getElem (by omega)] at this
    simpa using this
  have e1 : L.take n = List.replicate n true := by
    have h1 : (L.take n).count true + (L.drop n).count true = n := by rw [← List.count_append, e0, hc]
    have h2 : (L.drop n).count true = 0 := by rw [e2, List.count_replicate]; simp
    have h3 : (L.take n).length = n := by rw [List.length_take]; omega
    have h4 : (L.take n).count true = (L.take n).length := by omega
    rw [List.count_eq_length] at h4
    exact List.eq_replicate_iff.2 ⟨h3, fun b hb => (h4 b hb).symm⟩
  rw [← e0, e1, e2]
theorem count_set {listed : Array Bool} {i : Nat} (hlt : i < listed.size) (hf : listed[i] = false) : (listed.setIfInBounds i true).toList.count true = listed.toList.count true + 1 := by
  rw [Array.toList_setIfInBounds, List.set_eq_take_append_cons_drop, if_pos (by simpa using hlt)]
  conv => rhs; rw [← List.take_append_drop i listed.toList, List.drop_eq_getElem_cons (by simpa using hlt)]
  rw [List.count_append, List.count_append, List.count_cons, List.count_cons]
  have e : listed.toList[i]'(by simpa using hlt) = false := by simpa using hf
  rw [e]
  simp
  omega
/-- a head, then a forced tail -/
theorem wpAny_headTail {l : List Oper} {n : Nat} (hn : n < l.length) (hs : Region.sinkB .any l.toArray n = true) (hch : Region.chainB .any l.toArray n = true) (hb : backB (l.take n) 0 = true)
    (hq : Region.seqB .any l.toArray (l.length - n) n (List.replicate n true ++ List.replicate (l.length - n) false).toArray = true)
    (I : Array Bool → Act → World → Prop)
    (hstep : ∀ listed a w i, I listed a w → i < n → i ∈ Region.ready .any l.toArray listed → wpOp P l.toArray Q i (fun a' w' => I (listed.setIfInBounds i true) a' w') a w)
    (hend : ∀ a w, I (List.replicate n true ++ List.replicate (l.length - n) false).toArray a w → wpList P l.toArray Q (l.drop n) a w) :
    ∀ (f : Nat) (listed : Array Bool) (a : Act) (w : World), HeadInv .any l.toArray n listed → I listed a w → listed.toList.count true + f = n → wpAny P .any l.toArray Q (f + (l.length - n)) listed a w
  | 0, listed, a, w, inv, h, hc => by
    have hsz : listed.toList.length = n + (l.length - n) := by have := inv.size; simp at this ⊢; omega
    have e : listed = (List.replicate n true ++ List.replicate (l.length - n) false).toArray := by
      have := count_all hsz (by omega) (fun t h1 h2 => by have := inv.tail t h1 (by simp; omega); simpa [List.getD_eq_getElem?_getD, Array.getD_eq_getD_getElem?] using this)
      rw [← this]
    rw [e] at h ⊢
    have h2 := hend a w h
    have hdl : (l.drop n).length = l.length - n := by rw [List.length_drop]
    have := wpAny_of_seq (md := .any) (Q' := Q) (ops := l.toArray) (P := P) (l.drop n) n _ a w (fun j => by simp [List.getElem?_drop]) (by rw [hdl]; exact hq) h2
    rw [hdl] at this
    rwa [Nat.zero_add]
  | f + 1, listed, a, w, inv, h, hc => by
    have hsz : listed.size = l.length := by have := inv.size; simpa using this
    -- one of the head has not come up; the first of those can
    have hex : ∃ i, i < n ∧ listed.getD i true = false := by
      refine Classical.byContradiction fun hno => ?_
      have h1 : ∀ i, i < n → listed.toList[i]? = some true := fun i hi => by
        have hil : i < listed.size := by omega
        have h2 : listed.getD i true ≠ false := fun e => hno ⟨i, hi, e⟩
        simp [hil] at h2
        simp [hil, h2]
      have h3 : (listed.toList.take n).count true = n := by
        have h4 : (listed.toList.take n).length = n := by rw [List.length_take]; simp; omega
        have h5 : (listed.toList.take n).count true = (listed.toList.take n).length := by
          rw [List.count_eq_length]
          intro b hb
          obtain ⟨j, hj, rfl⟩ := List.getElem_of_mem hb
          have h6 := h1 j (by omega)
          rw [List.getElem_take]
          rw [List.getElem?_eq_getElem (by rw [List.length_take] at hj; omega)] at h6
          exact (Option.some.inj h6).symm
        omega
      have h7 : (listed.toList.take n).count true ≤ listed.toList.count true := (List.take_sublist _ _).count_le _
      omega
    have hready : ∃ i, i < n ∧ listed.getD i true = false ∧ ∀ j, j < i → listed.getD j true = true := by
      obtain ⟨i, hi, hf⟩ := hex
      induction i using Nat.strongRecOn with
      | _ i ih =>
        by_cases hj : ∃ j, j < i ∧ listed.getD j true = false
        · obtain ⟨j, hji, hjf⟩ := hj
          exact ih j hji (by omega) hjf
        · refine ⟨i, hi, hf, fun j hji => ?_⟩
          cases e : listed.getD j true
          · exact absurd ⟨j, hji, e⟩ hj
          · rfl
    obtain ⟨i0, hi0, hf0, hmin⟩ := hready
    have hr0 : i0 ∈ Region.ready .any l.toArray listed := by
      have hil : i0 < l.length := by omega
      refine mem_ready.2 ⟨hf0, l[i0], by simp [hil], fun e he hbi => ?_⟩
      have h1 := backB_at (l.take n) 0 i0 l[i0] hb (by rw [List.getElem?_take, if_pos hi0, List.getElem?_eq_getElem hil]) e he hbi
      have h2 := hmin e.on (by omega)
      have hel : e.on < listed.size := by omega
      simp [hel] at h2 ⊢
      exact h2
    rw [show f + 1 + (l.length - n) = (f + (l.length - n)) + 1 by omega]
    refine ⟨fun h0 => (by rw [h0] at hr0; cases hr0), fun i hi => ?_⟩
    have hin : i < n := by
      rcases Nat.lt_or_ge i n with h' | h'
      · exact h'
      · exact absurd hi (tail_waits hs hch (by simpa using hn) inv _ i0 rfl hi0 hf0 i h')
    have hilt : i < listed.size := by omega
    have hfi : listed[i] = false := by have := (mem_ready.1 hi).1; simpa [hilt] using this
    refine wpOp_mono (fun a' w' h' => wpAny_headTail hn hs hch hb hq I hstep hend f _ a' w' (inv.set hi hin) h' ?_) (hstep _ _ _ _ h hin hi)
    rw [count_set hilt hfi]
    omega
/-- the walk of a region that draws its order and ends in a forced tail of operations, from number n on -/
theorem region_tail {id : Nat} {a : Act} {w : World} {l : List Oper} {Fr : (Nat → Value) → Act} (n : Nat) (C : World → Prop) (R : World → World → Prop) (hF : ∀ u, fPut (l.take n) 0 a u = Fr u) (hm : P.follows .mixedOrders = true) (hd : dstsB (l.take n) = true) (hb : backB (l.take n) 0 = true)
    (hn : decide (n < l.length) = true) (hs : Region.sinkB .any l.toArray n = true) (hch : Region.chainB .any l.toArray n = true) (hq : Region.seqB .any l.toArray (l.length - n) n (List.replicate n true ++ List.replicate (l.length - n) false).toArray = true)
    (hC : C { w with drawn := w.drawn + 1 }) (h : eachOf P (endQ Q (wpList P l.toArray Q (l.drop n))) l Fr C R (l.take n) []) : (Code.region id l.toArray true).wp P Q a w := by
  have hFr : Fr = fPut (l.take n) 0 a := funext fun u => (hF u).symm
  have hn' : n < l.length := of_decide_eq_true hn
  subst hFr
  obtain ⟨F, _, hlen, hmono, hstep, hend⟩ := each_out (l.take n) [] hb (fun V hV => by cases hV) h
  simp only [List.length_nil, Nat.zero_add] at hlen hstep
  have htl : (l.take n).length = n := by rw [List.length_take]; omega
  rw [htl] at hlen
  refine wp_region_any hm ?_
  have inv0 : HeadInv .any l.toArray n (Array.replicate l.toArray.size false) :=
    ⟨by simp, fun j oj _ hl => (by rw [getD_replicate_false] at hl; cases hl), fun t _ ht => getD_in (by simpa using ht) (getD_replicate_false _ _)⟩
  have H := wpAny_headTail (P := P) (Q := Q) hn' hs hch hb hq (fun listed a' w' => listed.size = l.length ∧ ∃ u, a' = fPut (l.take n) 0 a u ∧ C w' ∧ ∀ i, i < n → listed.getD i false = true → F.getD i (fun _ _ => True) (u i) w') ?_ ?_ n (Array.replicate l.toArray.size false) a { w with drawn := w.drawn + 1 } inv0 ?_ ?_
  · rw [show n + (l.length - n) = l.length by omega] at H
    simpa using H
  · rintro listed a' w' i ⟨hs, u, rfl, hc, hk⟩ hin hi
    obtain ⟨hun, o, ho, hall⟩ := mem_ready.1 hi
    have ho' : l[i]? = some o := by simpa using ho
    have hot : (l.take n)[i]? = some o := by rw [List.getElem?_take, if_pos hin]; exact ho'
    have hlt : i < listed.size := by rw [hs]; exact (List.getElem?_eq_some_iff.1 ho').1
    have hst := hstep i o hot u w' hc (factsOf_mk F _ u w' fun e he hbi => hk _ (by
      have := backB_at (l.take n) 0 i o hb hot e (by simpa using he) hbi
      omega) (hall e (by simpa using he) hbi))
    have hup : ∀ v, (fPut (l.take n) 0 a u).put o.dst v = fPut (l.take n) 0 a (updV u i v) := fun v => by
      have := fPut_upd (l.take n) 0 a u i o v hd hot
      rwa [Nat.zero_add] at this
    have hput : ∀ (v : Value) (w2 : World), C w2 → R w' w2 → F.getD i (fun _ _ => True) v w2 → (listed.setIfInBounds i true).size = l.length ∧ ∃ u', (fPut (l.take n) 0 a u).put o.dst v = fPut (l.take n) 0 a u' ∧ C w2 ∧ ∀ j, j < n → (listed.setIfInBounds i true).getD j false = true → F.getD j (fun _ _ => True) (u' j) w2 := fun v w2 hc2 hr hv => by
      refine ⟨by simpa using hs, updV u i v, hup v, hc2, fun j hjn hj => ?_⟩
      by_cases hji : j = i
      · subst hji; unfold updV; rw [if_pos rfl]; exact hv
      · rw [getD_set_ne false (fun e => hji e.symm)] at hj
        unfold updV; rw [if_neg hji]
        have hjk := hk j hjn hj
        have hjl : j < F.length := by omega
        rw [List.getD_eq_getElem?_getD, List.getElem?_eq_getElem hjl] at hjk ⊢
        exact hmono _ (List.getElem_mem hjl) _ _ _ hc2 hr hjk
    unfold wpOp
    rw [ho]
    simp only
    split at hst
    · rename_i hw
      rw [if_pos hw]
      exact .inl (wp_endQ (hst _ hput))
    · rename_i hw
      rw [if_neg hw]
      refine ⟨by simpa using hs, updV u i undef, hup undef, hc, fun j hjn hj => ?_⟩
      by_cases hji : j = i
      · subst hji; unfold updV; rw [if_pos rfl]; exact hst
      · rw [getD_set_ne false (fun e => hji e.symm)] at hj
        unfold updV; rw [if_neg hji]
        exact hk j hjn hj
  · rintro a' w' ⟨_, u, rfl, hc, hk⟩
    refine hend u w' hc (allOf_mk F 0 u w' fun i hi => ?_)
    rw [Nat.zero_add]
    refine hk i (by omega) ?_
    have hin : i < n := by omega
    simp [Array.getD_eq_getD_getElem?, List.getElem?_append, hin]
  · refine ⟨by simp, fun i => match (l.take n)[i]? with | some o => (match o.dst with | some d => a.tmps.getD d undef | none => undef) | none => undef, ?_, hC, fun i _ hi => ?_⟩
    · refine (fPut_self (l.take n) 0 a _ fun i o d hi hd' => ?_).symm
      simp only [Nat.zero_add, hi, hd']
    · rw [getD_replicate_false] at hi; cases hi
  · simp [List.count_replicate]
end
end Go.Proofs.Ytdhaebbfiaddnaa
namespace Go.Proofs.Ytdhaebbfiaddnaa
open Go.RowKit
set_option linter.unusedVariables false
theorem TabG.of {m : Nat} {ln : List Nat} (h : TabOk m ln) : TabG m (ln.map Int.ofNat) := ⟨ln, rfl, h⟩
theorem Rec2.putD {TT T : TypeId} {size : Nat} {w wr w4 : World} {g : Nat} {x v v' : Value} {n m : Nat} {xs ys : List Value} (h : Rec2 TT T size w wr g x v n xs) (hg : wr.grownBy w4 v.ownBlock) (hn : w4.ownsRow (g + 1) T size v' m ys) :
    w4.heap[g]? = some (.cells #[x, v] TT (0, 0)) ∧ Rec2 TT T size w (w4.setCell ⟨g, 1, none⟩ v') g x v' m ys := by
  have h4 := (hg.block g h.lt (fun e => h.far e.symm)).trans h.blk
  have b4 : Below w.heap.size w w4 := h.below.grown hg h.below.size (fun k hk => by have := (h.own.lt k hk).1; have := h.le; omega)
  refine ⟨h4, ?_, ownsRow_setCell_below hn (by show g < g + 1; omega) _, h.le, b4.setCell h.le _⟩
  unfold World.setCell
  simp [Array.getElem?_modify, h4]
set_option maxHeartbeats 1000000 in
theorem implPowerOf_ok (m : Nat) (l : List Int) (a : Option Addr) (cap i n : Nat) (w : World) (hl : IntsIn w a l) (hT : TabG m l) (hi : i < m) (hn : n ≤ 1000) :
    Calls Try.prog 7 #[.agg #[.int .i64 (m : Nat), .slice a l.length cap], .int .i64 (i : Nat), .int .i64 (n : Nat)] w fun e w' => e = .returned (.tuple #[.int .i64 ((pw m (l.map Int.toNat) i n : Nat) : Int), .bool true]) ∧ Below w.heap.size w w' := by
  obtain ⟨hlen, hm1, hm2⟩ := hT.few
  have HB1 := Lib.hid (alloc_belI w (.cells #[.int .i64 (m : Nat), .slice a l.length cap] 25))
  have HX : Hid (∀ W, Below (w.alloc (.cells #[.int .i64 (m : Nat), .slice a l.length cap] 25)).heap.size (w.alloc (.cells #[.int .i64 (m : Nat), .slice a l.length cap] 25)) W → W.cell? ⟨w.heap.size, 0, none⟩ = some (.int .i64 (m : Nat)) ∧ W.cell? ⟨w.heap.size, 1, none⟩ = some (.slice a l.length cap)) := Lib.hid (fun W hW => ⟨by rw [hW.cell (by simp)]; simp, by rw [hW.cell (by simp)]; simp⟩)
  have HTO := Lib.hid (fun W (h : IntsIn W a l) => implTableOk_any (m : Nat) l a cap W h (by omega))
  rw [hT.tab] at HTO
  have HHI := Lib.hid (fun W => has_any m (i : Int) (.slice a l.length cap) W hm1 hm2)
  rw [in_has hi] at HHI
  have HIN := Lib.hid (fun W => within_any ((n : Nat) : Int) 0 1000 W)
  rw [show inB ((n : Nat) : Int) 0 1000 = true by unfold inB; simp; omega] at HIN
  have HTM := Lib.hid (fun W (h : IntsIn W a l) => power_any m _ a l.length cap i n W (hT.nats.2.1 W a h) hT.nats.1.toTb hT.nats.2.2 hi hn)
  have HL := Lib.hid hl
  generalize pw m (l.map Int.toNat) i n = p at *
  clear hl hT
  go_enter Try.func7, Try.ntmps7
  go_wp2_with fail
  generalize w.alloc (.cells #[.int .i64 (m : Nat), .slice a l.length cap] 25) = w1 at *
  refine (HTO.out _ (HL.out.later HB1.out)).mono ?_
  rintro e w2 ⟨rfl, hb2⟩
  have HB2 := Lib.hid hb2
  obtain ⟨z0, z1⟩ := HX.out _ hb2
  clear hb2
  go_wp2_with fail
  refine (HHI.out _).mono ?_
  rintro e w3 ⟨rfl, hb3⟩
  have HB3 := Lib.hid (Below.now HB2.out hb3)
  clear hb3 z0 z1
  obtain ⟨z0, z1⟩ := HX.out _ HB3.out
  go_wp2_with fail
  refine (HIN.out _).mono ?_
  rintro e w4 ⟨rfl, rfl⟩
  go_wp2_with fail
  refine (HTM.out _ (HL.out.later (Below.now HB1.out HB3.out))).mono ?_
  rintro e w5 ⟨rfl, hb5⟩
  have HB5 := Lib.hid (Below.now (Below.now HB1.out HB3.out) hb5)
  clear hb5 z0 z1
  go_wp2_with fail
  go_ret2
  exact ⟨rfl, HB5.out⟩
/-- a table handed back with true -/
def RetTb (m : Nat) (L : List Int) (w : World) (e : Ending) (w' : World) : Prop := ∃ (a : Option Addr) (cap : Nat), e = .returned (.tuple #[.agg #[.int .i64 (m : Nat), .slice a L.length cap], .bool true]) ∧ IntsIn w' a L ∧ Below w.heap.size w w'
set_option maxRecDepth 20000 in
set_option maxHeartbeats 4000000 in
theorem implOppositeTable_ok (m : Nat) (l : List Int) (a : Option Addr) (cap : Nat) (w : World) (hl : IntsIn w a l) (hT : TabG m l) :
    Calls Try.prog 8 #[.agg #[.int .i64 (m : Nat), .slice a l.length cap]] w (RetTb m ((oppT m (l.map Int.toNat)).map Int.ofNat) w) := by
  obtain ⟨hlen, hm1, hm2⟩ := hT.few
  have HB1 := Lib.hid (alloc_belI w (.cells #[.int .i64 (m : Nat), .slice a l.length cap] 25))
  have HX : Hid (∀ W, Below (w.alloc (.cells #[.int .i64 (m : Nat), .slice a l.length cap] 25)).heap.size (w.alloc (.cells #[.int .i64 (m : Nat), .slice a l.length cap] 25)) W → W.cell? ⟨w.heap.size, 0, none⟩ = some (.int .i64 (m : Nat)) ∧ W.cell? ⟨w.heap.size, 1, none⟩ = some (.slice a l.length cap)) := Lib.hid (fun W hW => ⟨by rw [hW.cell (by simp)]; simp, by rw [hW.cell (by simp)]; simp⟩)
  have HTO := Lib.hid (fun W (h : IntsIn W a l) => implTableOk_any (m : Nat) l a cap W h (by omega))
  rw [hT.tab] at HTO
  have HTM := Lib.hid (fun i k W (h : IntsIn W a l) hi hk => implTimes_any m _ a l.length cap i k W (hT.nats.2.1 W a h) hT.nats.1.toTb hT.nats.2.2 hi hk)
  have HL := Lib.hid hl
  generalize hz : l.map Int.toNat = zn at *
  have hs1 : (w.alloc (.cells #[.int .i64 (m : Nat), .slice a l.length cap] 25)).heap.size = w.heap.size + 1 := by simp
  have HS1 := Lib.hid hs1
  clear hl hT hz hs1
  go_enter Try.func8, Try.ntmps8
  go_wp2_with fail
  generalize w.alloc (.cells #[.int .i64 (m : Nat), .slice a l.length cap] 25) = w1 at *
  have hal := alloc_belI w1 (.cells #[.int .i64 0, .slice none 0 0] 25)
  have HA := Lib.hid (alloc_at w1 (.cells #[.int .i64 0, .slice none 0 0] 25))
  refine (HTO.out _ (HL.out.later (Below.now HB1.out hal))).mono ?_
  rintro e w2 ⟨rfl, hb2⟩
  have HB2 := Lib.hid (Below.now hal hb2)
  have HQ2 := Lib.hid ((hb2.block w1.heap.size (Array.getElem?_eq_some_iff.1 HA.out).1).trans HA.out)
  obtain ⟨z0, z1⟩ := HX.out _ HB2.out
  clear hb2 hal HA HTO
  have hq2 := HQ2.out
  rw [HS1.out] at hq2
  have HQ2 := Lib.hid hq2
  clear hq2
  generalize hr : w.heap.size + 1 = r1 at *
  have HS2 : Hid (r1 = w.heap.size + 1) := Lib.hid hr.symm
  clear hr
  have z0a : ∀ o, (w2.alloc o).cell? ⟨w.heap.size, 0, none⟩ = some (.int .i64 (m : Nat)) := fun o => (HX.out _ (Below.alloc HB2.out HB2.out.size o)).1
  go_wp2_with fail
  have HST := Lib.hid (Rec2.start 25 3 1 (w := w2) (w1 := w2) (Below.refl _ _) (.int .i64 (m : Nat)))
  clear z0 z1 z0a
  generalize w2.alloc (.cells #[.int .i64 (m : Nat), .slice none 0 0] 25) = w3 at *
  generalize hg : w2.heap.size = g at *
  have HG := Lib.hid hg
  clear hg
  go_loopw [16] (fun i wr => ∃ c : Nat, c ≤ m ∧ i = .int .i64 (c : Nat) ∧ Hid (∃ v, Rec2 25 3 1 w2 wr g (.int .i64 (m : Nat)) v (rowsN m (oppF m zn) c).length (ivs (rowsN m (oppF m zn) c)))) (fun i _ => m - (intOf i).toNat)
  case atStart => exact ⟨0, Nat.zero_le _, rfl, Lib.hid ⟨_, HST.out⟩⟩
  case round =>
    clear HST
    obtain ⟨c, hcm, rfl, HV⟩ := hrel
    obtain ⟨v, hv⟩ := HV.out
    have HR := Lib.hid hv
    have HBR := Lib.hid (Below.now HB2.out hv.below)
    clear hv HV
    obtain ⟨z0, z1⟩ := HX.out _ HBR.out
    by_cases hc : c < m
    · go_wp2_with fail
      generalize hWR : wr = wr0 at *
      clear hWR z0 z1
      go_loopw [21] (fun i wr => ∃ d : Nat, d ≤ m ∧ i = .int .i64 (d : Nat) ∧ Hid (∃ v, Rec2 25 3 1 w2 wr g (.int .i64 (m : Nat)) v (rowsN m (oppF m zn) c ++ rowN (oppF m zn) c d).length (ivs (rowsN m (oppF m zn) c ++ rowN (oppF m zn) c d)))) (fun i _ => m - (intOf i).toNat)
      case atStart => exact ⟨0, Nat.zero_le _, rfl, Lib.hid ⟨v, by rw [rowN_zero, List.append_nil]; exact HR.out⟩⟩
      case round =>
        clear HR HBR
        obtain ⟨d, hdm, rfl, HV⟩ := hrel
        obtain ⟨v, hv⟩ := HV.out
        have HR := Lib.hid hv
        have HBI := Lib.hid (Below.now HB2.out hv.below)
        clear hv HV
        obtain ⟨z0, z1⟩ := HX.out _ HBI.out
        by_cases hd : d < m
        · have hn1 : (rowsN m (oppF m zn) c ++ rowN (oppF m zn) c d).length ≤ 1640 := by
            rw [List.length_append, rowsN_len, rowN_len]
            have := mul_le hm2 hc
            omega
          have HE : Hid (rowsN m (oppF m zn) c ++ rowN (oppF m zn) c (d + 1) = (rowsN m (oppF m zn) c ++ rowN (oppF m zn) c d) ++ [tm m zn d c]) := Lib.hid (by rw [rowN_succ, List.append_assoc]; rfl)
          generalize rowsN m (oppF m zn) c ++ rowN (oppF m zn) c d = Q at *
          clear z0 z1
          go_upto_region 10 with fail
          refine region_tail 7 (fun W => Below wr.heap.size wr W) (fun W W2 => Below W.heap.size W W2) (fun u => by simp only [List.take_succ_cons, List.take_zero, fPut, Act.put, List.setIfInBounds_toArray, List.set_cons_succ, List.set_cons_zero, Nat.zero_add, Nat.reduceAdd]; rfl) (by kernel_rfl) (by kernel_rfl) (by kernel_rfl) (by kernel_rfl) (by kernel_rfl) (by kernel_rfl) (by kernel_rfl) (Below.drew (Below.refl _ _)) ?_
          conv => arg 7; simp only [List.take_succ_cons, List.take_zero]
          apply each_read (fun _ => Below.refl _ _) rfl
          · intro u wv hC hf
            have z0 := (HX.out _ (Below.now HBI.out hC)).1
            have z1 := (HX.out _ (Below.now HBI.out hC)).2
            have y0 := (HR.out.later hC).facts.1
            have y1 := (HR.out.later hC).facts.2.1
            clear hf
            go_simp
            try rfl
          apply each_read (fun _ => Below.refl _ _) rfl
          · intro u wv hC hf
            have z0 := (HX.out _ (Below.now HBI.out hC)).1
            have z1 := (HX.out _ (Below.now HBI.out hC)).2
            have y0 := (HR.out.later hC).facts.1
            have y1 := (HR.out.later hC).facts.2.1
            obtain ⟨d0_0, -⟩ := hf
            have e0 : u 0 = _ := d0_0 rfl
            clear d0_0
            go_simp
            try rfl
          conv => arg 8; simp only [List.cons_append, List.nil_append]
          apply each_read (fun _ => Below.refl _ _) rfl
          · intro u wv hC hf
            have z0 := (HX.out _ (Below.now HBI.out hC)).1
            have z1 := (HX.out _ (Below.now HBI.out hC)).2
            have y0 := (HR.out.later hC).facts.1
            have y1 := (HR.out.later hC).facts.2.1
            clear hf
            go_simp
            try rfl
          conv => arg 8; simp only [List.cons_append, List.nil_append]
          apply each_read (fun _ => Below.refl _ _) rfl
          · intro u wv hC hf
            have z0 := (HX.out _ (Below.now HBI.out hC)).1
            have z1 := (HX.out _ (Below.now HBI.out hC)).2
            have y0 := (HR.out.later hC).facts.1
            have y1 := (HR.out.later hC).facts.2.1
            clear hf
            go_simp
            try rfl
          conv => arg 8; simp only [List.cons_append, List.nil_append]
          apply each_read (fun _ => Below.refl _ _) rfl
          · intro u wv hC hf
            have z0 := (HX.out _ (Below.now HBI.out hC)).1
            have z1 := (HX.out _ (Below.now HBI.out hC)).2
            have y0 := (HR.out.later hC).facts.1
            have y1 := (HR.out.later hC).facts.2.1
            clear hf
            go_simp
            try rfl
          conv => arg 8; simp only [List.cons_append, List.nil_append]
          apply each_callR rfl
          · intro u wv hC hf
            have z0 := (HX.out _ (Below.now HBI.out hC)).1
            have z1 := (HX.out _ (Below.now HBI.out hC)).2
            have y0 := (HR.out.later hC).facts.1
            have y1 := (HR.out.later hC).facts.2.1
            obtain ⟨d2_0, d3_1, d4_2, -⟩ := hf
            have e2 : u 2 = _ := d2_0 rfl
            clear d2_0
            have e3 : u 3 = _ := d3_1 rfl
            clear d3_1
            have e4 : u 4 = _ := d4_2 rfl
            clear d4_2
            apply Exists.intro; apply Exists.intro; apply And.intro
            · go_simp; exact ⟨rfl, rfl⟩
            · refine (HTM.out d c _ (HL.out.later (Below.now HB1.out (Below.now HBI.out hC))) hd hc).mono ?_
              rintro e w3 ⟨rfl, hb⟩
              exact ⟨rfl, Below.now hC hb, hb⟩
          conv => arg 8; simp only [List.cons_append, List.nil_append]
          refine each_do (fun v wv => ∃ g7, v = .slice (some ⟨g7, 0, none⟩) 1 1 ∧ wv.cell? ⟨g7, 0, none⟩ = some (.int .i64 ((tm m zn d c : Nat) : Int))) (fun v w w2 _ hR ⟨g7, h1, hc⟩ => ⟨g7, h1, (hR.cell (World.block_lt_of_cell? _ _ hc)).trans hc⟩) rfl ?_ ?_
          · intro u wv hC hf
            have z0 := (HX.out _ (Below.now HBI.out hC)).1
            have z1 := (HX.out _ (Below.now HBI.out hC)).2
            have y0 := (HR.out.later hC).facts.1
            have y1 := (HR.out.later hC).facts.2.1
            obtain ⟨d5_0, -⟩ := hf
            have e5 : u 5 = _ := d5_0 rfl
            clear d5_0
            refine ⟨.slice (some ⟨wv.heap.size, 0, none⟩) 1 1, wv.alloc (.cells #[.int .i64 ((tm m zn d c : Nat) : Int)] 3), ?_, Below.alloc hC hC.size _, alloc_belowT _ _, wv.heap.size, rfl, by (rw [World.cell?_alloc_new]; rfl)⟩
            go_simp
            try rfl
          intro u w7 d7 hall
          obtain ⟨a0, a1, a2, a3, a4, a5, a6, -⟩ := hall
          have e0 : u 0 = _ := a0
          clear a0
          have e1 : u 1 = _ := a1
          clear a1
          have e2 : u 2 = _ := a2
          clear a2
          have e3 : u 3 = _ := a3
          clear a3
          have e4 : u 4 = _ := a4
          clear a4
          have e5 : u 5 = _ := a5
          clear a5
          obtain ⟨g6, e6, r6⟩ := a6
          replace e6 : u 6 = _ := e6
          change wpList _ _ _ (List.drop 7 _) _ _
          simp only [List.drop_succ_cons, List.drop_zero]
          simp only [e0, e1, e2, e3, e4, e5, e6]
          clear e0 e1 e2 e3 e4 e5 e6
          have HR7 := Lib.hid (HR.out.later d7)
          refine wpList_appB rfl (.tmp 25) (.tmp 30) rfl Try.underlying23 Try.infoInt rfl (by decide) rfl HR7.out.own HR7.out.lt rfl (m := 1) (news := [.int .i64 ((tm m zn d c : Nat) : Int)]) (fun j u hu => by
            match j, hu with
            | 0, hu =>
              obtain rfl := Option.some.inj hu
              rw [add_off]
              exact r6
            | j + 1, hu => cases hu) rfl (by decide) (fun u hu => by rw [List.mem_singleton.1 hu]; rfl) (by unfold maxLen; omega) (by omega) ?_
          intro g4 c4 w9 hn9 hg9 _
          obtain ⟨hbk, hput⟩ := HR7.out.putD hg9 hn9
          have HP9 := Lib.hid hput
          obtain ⟨q0, q1, f0, f1⟩ := rec_cells hbk
          clear hbk hput hn9 hg9 r6
          have F : Hid (∃ v, Rec2 25 3 1 w2 (w9.setCell ⟨g, 1, none⟩ (.slice (some ⟨g4, 0, none⟩) (Q.length + 1) c4)) g (.int .i64 (m : Nat)) v (rowsN m (oppF m zn) c ++ rowN (oppF m zn) c (d + 1)).length (ivs (rowsN m (oppF m zn) c ++ rowN (oppF m zn) c (d + 1)))) := Lib.hid ⟨_, by rw [HE.out, List.length_append, ivs_app]; exact HP9.out⟩
          go_wp2_with fail
          go_roundw
          case rel => exact ⟨d + 1, by omega, by go_num, F⟩
          case measure => simp [intOf]; omega
        · obtain rfl : d = m := by omega
          have F : Hid (∃ v, Rec2 25 3 1 w2 wr g (.int .i64 (d : Nat)) v (rowsN d (oppF d zn) (c + 1)).length (ivs (rowsN d (oppF d zn) (c + 1)))) := Lib.hid ⟨_, by rw [rowsN_succ]; exact HR.out⟩
          go_wp2_with fail
          go_roundw
          case rel => exact ⟨c + 1, by omega, by go_num, F⟩
          case measure => simp [intOf]; omega
    · obtain rfl : c = m := by omega
      obtain ⟨y0, y1, _, _⟩ := HR.out.facts
      have hq := (HR.out.below.block r1 (Array.getElem?_eq_some_iff.1 HQ2.out).1).trans HQ2.out
      obtain ⟨a7, c7, rfl⟩ := owns_form HR.out.own
      obtain ⟨⟨f0, f1⟩, ⟨u0, u1⟩, _⟩ := box_sets hq (.int .i64 (c : Nat)) (.slice a7 (rowsN c (oppF c zn) c).length c7)
      have F : Hid (RetTb c ((oppT c zn).map Int.ofNat) w (.returned (.tuple #[.agg #[.int .i64 (c : Nat), .slice a7 (rowsN c (oppF c zn) c).length c7], .bool true])) ((wr.setCell ⟨r1, 0, none⟩ (.int .i64 (c : Nat))).setCell ⟨r1, 1, none⟩ (.slice a7 (rowsN c (oppF c zn) c).length c7))) := Lib.hid (by
        have hr1 : r1 < g + 1 := by have := (Array.getElem?_eq_some_iff.1 HQ2.out).1; have := HG.out; omega
        have ho := ownsRow_setCell_below (ownsRow_setCell_below HR.out.own (a := ⟨r1, 0, none⟩) hr1 (.int .i64 (c : Nat))) (a := ⟨r1, 1, none⟩) hr1 (.slice a7 (rowsN c (oppF c zn) c).length c7)
        refine ⟨a7, c7, ?_, owns_ints (l := (oppT c zn).map Int.ofNat) ho, ?_⟩
        · rw [List.length_map]; rfl
        · exact ((Below.now HB1.out HBR.out).setCell (by have := HS2.out; show w.heap.size ≤ r1; omega) _).setCell (by have := HS2.out; show w.heap.size ≤ r1; omega) _)
      clear hq
      go_wp2_with fail
      refine bodyPost_ret (v := .tuple #[.agg #[.int .i64 (c : Nat), .slice a7 (rowsN c (oppF c zn) c).length c7], .bool true]) ?_ rfl F.out
      simp [results, Try.results8, go_sem, u0, u1]
end Go.Proofs.Ytdhaebbfiaddnaa
