/-
  A region that draws its order and ends in a forced tail: the head by the rule of XRegInv, each operation once, the tail as a plain list.
-/
import Derived.Test.YtklbehapbchnaaaDoorFol07
import Derived.Test.YtklbehapbchnaaaDoorFol09
import Derived.Test.YtklbehapbchnaaaDoorFol10
import Derived.Test.YtklbehapbchnaaaDoorFol02
import Derived.StillTail
namespace Go.Proofs.YtklbehapbchnaaaDoor
open Go.RowKit
set_option linter.unusedVariables false
theorem inB_nat {g : Int} (h : inB g 1 2 = true) : ∃ n : Nat, g = (n : Int) ∧ 1 ≤ n ∧ n ≤ 2 := by
  unfold inB at h
  simp only [Bool.and_eq_true, decide_eq_true_eq] at h
  exact ⟨g.toNat, by omega, by omega, by omega⟩
/-- what is handed back where there is no graph -/
def noFold : Value := .tuple #[.agg #[.int .i64 0, .int .i64 0, .slice none 0 0], .bool false]
set_option maxRecDepth 20000 in
set_option maxHeartbeats 1000000 in
theorem specFoldWords_no (g : Int) (ws : List ByteArray) (a : Option Addr) (cap : Nat) (w : World) (hL : StrsIn w a ws) (hl : ws.length ≤ maxLen) (hz : ∀ j, j < ws.length → (nthS ws j).size ≤ maxLen) (hno : ∀ n : Nat, g = (n : Int) → ¬ OkFW n ws) :
    Calls Tryd.prog 23 #[.int .i64 g, .slice a ws.length cap] w fun e w' => e = .returned noFold ∧ Below w.heap.size w w' := by
  have HB1 := Lib.hid (alloc_belT w (.cells #[.int .i64 0, .int .i64 0, .slice none 0 0] 48))
  have HL1 := Lib.hid (hL.later HB1.out)
  have HZ := Lib.hid hz
  have HNO := Lib.hid hno
  unfold maxLen at hl
  clear hL hz hno
  cases hin : inB g 1 2
  · go_enter Tryd.func23, Tryd.ntmps23
    go_wp2_with (go_at_call 37; refine (l01In_any _ _ _ _).mono ?_; rintro e w' ⟨rfl, rfl⟩)
    refine bodyPost_ret (v := noFold) ?_ rfl ⟨rfl, HB1.out⟩
    simp [results, Tryd.results23, go_sem, noFold]
  · by_cases h6 : ws.length ≤ 6
    · go_enter Tryd.func23, Tryd.ntmps23
      go_wp2_with (go_at_call 37; refine (l01In_any _ _ _ _).mono ?_; rintro e w' ⟨rfl, rfl⟩)
      go_loopw [31] (fun v31 wr => ∃ j : Nat, j ≤ ws.length ∧ v31 = .int .i64 (j : Nat) ∧ Hid (∀ k, k < j → freeOkB g (nthS ws k) = true) ∧ wr = w.alloc (.cells #[.int .i64 0, .int .i64 0, .slice none 0 0] 48)) (fun v31 _ => ws.length - (intOf v31).toNat)
      case atStart => exact ⟨0, Nat.zero_le _, rfl, Lib.hid (fun k hk => by omega), rfl⟩
      case round =>
        obtain ⟨j, hj, rfl, HF, rfl⟩ := hrel
        by_cases hjl : j < ws.length
        · obtain ⟨b, off, rfl, _, hc⟩ := HL1.out.cell hjl
          have hcj := hc j hjl
          have hsz := HZ.out j hjl
          clear hc
          cases hf : freeOkB g (nthS ws j)
          · go_wp2_with (go_at_call 38; refine (l24Ok_any _ _ _ hsz).mono ?_; rintro e w' ⟨rfl, rfl⟩)
            refine bodyPost_ret (v := noFold) ?_ rfl ⟨rfl, HB1.out⟩
            simp [results, Tryd.results23, go_sem, noFold]
          · have HF2 : Hid (∀ k, k < j + 1 → freeOkB g (nthS ws k) = true) := Lib.hid (fun k hk => by
              by_cases e : k = j
              · rw [e]; exact hf
              · exact HF.out k (by omega))
            go_wp2_with (go_at_call 38; refine (l24Ok_any _ _ _ hsz).mono ?_; rintro e w' ⟨rfl, rfl⟩)
            go_roundw
            case rel => exact ⟨j + 1, by omega, by go_num, HF2, trivial⟩
            case measure => simp [intOf]; omega
        · exfalso
          obtain rfl : j = ws.length := by omega
          obtain ⟨n, e, h1, h2⟩ := inB_nat hin
          exact HNO.out n e ⟨h1, h2, h6, fun k hk => by rw [← e]; exact HF.out k hk⟩
    · go_enter Tryd.func23, Tryd.ntmps23
      go_wp2_with (go_at_call 37; refine (l01In_any _ _ _ _).mono ?_; rintro e w' ⟨rfl, rfl⟩)
      refine bodyPost_ret (v := noFold) ?_ rfl ⟨rfl, HB1.out⟩
      simp [results, Tryd.results23, go_sem, noFold]
end Go.Proofs.YtklbehapbchnaaaDoor
namespace Go.Proofs.YtklbehapbchnaaaDoor
open Go.RowKit
set_option linter.unusedVariables false
/-- another end -/
def endQ (Q : Exit → Act → World → Prop) (E : Act → World → Prop) : Exit → Act → World → Prop := fun e a w => match e with
  | .normal => E a w
  | e => Q e a w
section
variable {P : Program} {Q : Exit → Act → World → Prop} {E : Act → World → Prop}
theorem wp_endQ {o : Oper} {a : Act} {w : World} {K : Act → World → Prop} (h : o.wp P a w K (endQ Q E)) : o.wp P a w K Q := by
  unfold Oper.wp at *
  generalize (execOp a.eval o).run P w = r at *
  unfold Oper.upon at *
  cases r with
  | ok n w' => cases n <;> exact h
  | halt x w' => cases x <;> exact h
theorem count_all {n g : Nat} {L : List Bool} (hlen : L.length = n + g) (hc : L.count true = n) (ht : ∀ t, n ≤ t → t < n + g → L.getD t true = false) : L = List.replicate n true ++ List.replicate g false := by
  have e0 := List.take_append_drop n L
  have e2 : L.drop n = List.replicate g false := by
    rw [List.eq_replicate_iff]
    refine ⟨by rw [List.length_drop]; omega, fun b hb => ?_⟩
    obtain ⟨j, hj, rfl⟩ := List.getElem_of_mem hb
    rw [List.length_drop] at hj
    have := ht (n + j) (by omega) (by omega)
    rw [List.getD_eq_getElem?_getD, List.getElem?_eq_getElem (by omega)] at this
    simpa using this
  have e1 : L.take n = List.replicate n true := by
    have h1 : (L.take n).count true + (L.drop n).count true = n := by rw [← List.count_append, e0, hc]
    have h2 : (L.drop n).count true = 0 := by rw [e2, List.count_replicate]; simp
    have h3 : (L.take n).length = n := by rw [List.length_take]; omega
    have h4 : (L.take n).count true = (L.take n).length := by omega
    rw [List.count_eq_length] at h4
    exact List.eq_replicate_iff.2 ⟨h3, fun b hb => (h4 b hb).symm⟩
  rw [← e0, e1, e2]
theorem count_set {listed : Array Bool} {i : Nat} (hlt : i < listed.size) (hf : listed[i] = false) : (listed.setIfInBounds i true).toList.count true = listed.toList.count true + 1 := by
  rw [Array.toList_setIfInBounds, List.set_eq_take_append_cons_drop, if_pos (by simpa using hlt)]
  conv => rhs; rw [← List.take_append_drop i listed.toList, List.drop_eq_getElem_cons (by simpa using hlt)]
  rw [List.count_append, List.count_append, List.count_cons, List.count_cons]
  have e : listed.toList[i]'(by simpa using hlt) = false := by simpa using hf
  rw [e]
  simp
  omega
/-- a head, then a forced tail -/
theorem wpAny_headTail {l : List Oper} {n : Nat} (hn : n < l.length) (hs : Region.sinkB .any l.toArray n = true) (hch : Region.chainB .any l.toArray n = true) (hb : backB (l.take n) 0 = true)
    (hq : Region.seqB .any l.toArray (l.length - n) n (List.replicate n true ++ List.replicate (l.length - n) false).toArray = true)
    (I : Array Bool → Act → World → Prop)
    (hstep : ∀ listed a w i, I listed a w → i < n → i ∈ Region.ready .any l.toArray listed → wpOp P l.toArray Q i (fun a' w' => I (listed.setIfInBounds i true) a' w') a w)
    (hend : ∀ a w, I (List.replicate n true ++ List.replicate (l.length - n) false).toArray a w → wpList P l.toArray Q (l.drop n) a w) :
    ∀ (f : Nat) (listed : Array Bool) (a : Act) (w : World), HeadInv .any l.toArray n listed → I listed a w → listed.toList.count true + f = n → wpAny P .any l.toArray Q (f + (l.length - n)) listed a w
  | 0, listed, a, w, inv, h, hc => by
    have hsz : listed.toList.length = n + (l.length - n) := by have := inv.size; simp at this ⊢; omega
    have e : listed = (List.replicate n true ++ List.replicate (l.length - n) false).toArray := by
      have := count_all hsz (by omega) (fun t h1 h2 => by have := inv.tail t h1 (by simp; omega); simpa [List.getD_eq_getElem?_getD, Array.getD_eq_getD_getElem?] using this)
      rw [← this]
    rw [e] at h ⊢
    have h2 := hend a w h
    have hdl : (l.drop n).length = l.length - n := by rw [List.length_drop]
    have := wpAny_of_seq (md := .any) (Q' := Q) (ops := l.toArray) (P := P) (l.drop n) n _ a w (fun j => by simp [List.getElem?_drop]) (by rw [hdl]; exact hq) h2
    rw [hdl] at this
    rwa [Nat.zero_add]
  | f + 1, listed, a, w, inv, h, hc => by
    have hsz : listed.size = l.length := by have := inv.size; simpa using this
    -- one of the head has not come up; the first of those can
    have hex : ∃ i, i < n ∧ listed.getD i true = false := by
      refine Classical.byContradiction fun hno => ?_
      have h1 : ∀ i, i < n → listed.toList[i]? = some true := fun i hi => by
        have hil : i < listed.size := by omega
        have h2 : listed.getD i true ≠ false := fun e => hno ⟨i, hi, e⟩
        simp [hil] at h2
        simp [hil, h2]
      have h3 : (listed.toList.take n).count true = n := by
        have h4 : (listed.toList.take n).length = n := by rw [List.length_take]; simp; omega
        have h5 : (listed.toList.take n).count true = (listed.toList.take n).length := by
          rw [List.count_eq_length]
          intro b hb
          obtain ⟨j, hj, rfl⟩ := List.getElem_of_mem hb
          have h6 := h1 j (by omega)
          rw [List.getElem_take]
          rw [List.getElem?_eq_getElem (by rw [List.length_take] at hj; omega)] at h6
          exact (Option.some.inj h6).symm
        omega
      have h7 : (listed.toList.take n).count true ≤ listed.toList.count true := (List.take_sublist _ _).count_le _
      omega
    have hready : ∃ i, i < n ∧ listed.getD i true = false ∧ ∀ j, j < i → listed.getD j true = true := by
      obtain ⟨i, hi, hf⟩ := hex
      induction i using Nat.strongRecOn with
      | _ i ih =>
        by_cases hj : ∃ j, j < i ∧ listed.getD j true = false
        · obtain ⟨j, hji, hjf⟩ := hj
          exact ih j hji (by omega) hjf
        · refine ⟨i, hi, hf, fun j hji => ?_⟩
          cases e : listed.getD j true
          · exact absurd ⟨j, hji, e⟩ hj
          · rfl
    obtain ⟨i0, hi0, hf0, hmin⟩ := hready
    have hr0 : i0 ∈ Region.ready .any l.toArray listed := by
      have hil : i0 < l.length := by omega
      refine mem_ready.2 ⟨hf0, l[i0], by simp [hil], fun e he hbi => ?_⟩
      have h1 := backB_at (l.take n) 0 i0 l[i0] hb (by rw [List.getElem?_take, if_pos hi0, List.getElem?_eq_getElem hil]) e he hbi
      have h2 := hmin e.on (by omega)
      have hel : e.on < listed.size := by omega
      simp [hel] at h2 ⊢
      exact h2
    rw [show f + 1 + (l.length - n) = (f + (l.length - n)) + 1 by omega]
    refine ⟨fun h0 => (by rw [h0] at hr0; cases hr0), fun i hi => ?_⟩
    have hin : i < n := by
      rcases Nat.lt_or_ge i n with h' | h'
      · exact h'
      · exact absurd hi (tail_waits hs hch (by simpa using hn) inv _ i0 rfl hi0 hf0 i h')
    have hilt : i < listed.size := by omega
    have hfi : listed[i] = false := by have := (mem_ready.1 hi).1; simpa [hilt] using this
    refine wpOp_mono (fun a' w' h' => wpAny_headTail hn hs hch hb hq I hstep hend f _ a' w' (inv.set hi hin) h' ?_) (hstep _ _ _ _ h hin hi)
    rw [count_set hilt hfi]
    omega
/-- the walk of a region that draws its order and ends in a forced tail of operations, from number n on -/
theorem region_tail {id : Nat} {a : Act} {w : World} {l : List Oper} {Fr : (Nat → Value) → Act} (n : Nat) (C : World → Prop) (R : World → World → Prop) (hF : ∀ u, fPut (l.take n) 0 a u = Fr u) (hm : P.follows .mixedOrders = true) (hd : dstsB (l.take n) = true) (hb : backB (l.take n) 0 = true)
    (hn : decide (n < l.length) = true) (hs : Region.sinkB .any l.toArray n = true) (hch : Region.chainB .any l.toArray n = true) (hq : Region.seqB .any l.toArray (l.length - n) n (List.replicate n true ++ List.replicate (l.length - n) false).toArray = true)
    (hC : C { w with drawn := w.drawn + 1 }) (h : eachOf P (endQ Q (wpList P l.toArray Q (l.drop n))) l Fr C R (l.take n) []) : (Code.region id l.toArray true).wp P Q a w := by
  have hFr : Fr = fPut (l.take n) 0 a := funext fun u => (hF u).symm
  have hn' : n < l.length := of_decide_eq_true hn
  subst hFr
  obtain ⟨F, _, hlen, hmono, hstep, hend⟩ := each_out (l.take n) [] hb (fun V hV => by cases hV) h
  simp only [List.length_nil, Nat.zero_add] at hlen hstep
  have htl : (l.take n).length = n := by rw [List.length_take]; omega
  rw [htl] at hlen
  refine wp_region_any hm ?_
  have inv0 : HeadInv .any l.toArray n (Array.replicate l.toArray.size false) :=
    ⟨by simp, fun j oj _ hl => (by rw [getD_replicate_false] at hl; cases hl), fun t _ ht => getD_in (by simpa using ht) (getD_replicate_false _ _)⟩
  have H := wpAny_headTail (P := P) (Q := Q) hn' hs hch hb hq (fun listed a' w' => listed.size = l.length ∧ ∃ u, a' = fPut (l.take n) 0 a u ∧ C w' ∧ ∀ i, i < n → listed.getD i false = true → F.getD i (fun _ _ => True) (u i) w') ?_ ?_ n (Array.replicate l.toArray.size false) a { w with drawn := w.drawn + 1 } inv0 ?_ ?_
  · rw [show n + (l.length - n) = l.length by omega] at H
    simpa using H
  · rintro listed a' w' i ⟨hs, u, rfl, hc, hk⟩ hin hi
    obtain ⟨hun, o, ho, hall⟩ := mem_ready.1 hi
    have ho' : l[i]? = some o := by simpa using ho
    have hot : (l.take n)[i]? = some o := by rw [List.getElem?_take, if_pos hin]; exact ho'
    have hlt : i < listed.size := by rw [hs]; exact (List.getElem?_eq_some_iff.1 ho').1
    have hst := hstep i o hot u w' hc (factsOf_mk F _ u w' fun e he hbi => hk _ (by
      have := backB_at (l.take n) 0 i o hb hot e (by simpa using he) hbi
      omega) (hall e (by simpa using he) hbi))
    have hup : ∀ v, (fPut (l.take n) 0 a u).put o.dst v = fPut (l.take n) 0 a (updV u i v) := fun v => by
      have := fPut_upd (l.take n) 0 a u i o v hd hot
      rwa [Nat.zero_add] at this
    have hput : ∀ (v : Value) (w2 : World), C w2 → R w' w2 → F.getD i (fun _ _ => True) v w2 → (listed.setIfInBounds i true).size = l.length ∧ ∃ u', (fPut (l.take n) 0 a u).put o.dst v = fPut (l.take n) 0 a u' ∧ C w2 ∧ ∀ j, j < n → (listed.setIfInBounds i true).getD j false = true → F.getD j (fun _ _ => True) (u' j) w2 := fun v w2 hc2 hr hv => by
      refine ⟨by simpa using hs, updV u i v, hup v, hc2, fun j hjn hj => ?_⟩
      by_cases hji : j = i
      · subst hji; unfold updV; rw [if_pos rfl]; exact hv
      · rw [getD_set_ne false (fun e => hji e.symm)] at hj
        unfold updV; rw [if_neg hji]
        have hjk := hk j hjn hj
        have hjl : j < F.length := by omega
        rw [List.getD_eq_getElem?_getD, List.getElem?_eq_getElem hjl] at hjk ⊢
        exact hmono _ (List.getElem_mem hjl) _ _ _ hc2 hr hjk
    unfold wpOp
    rw [ho]
    simp only
    split at hst
    · rename_i hw
      rw [if_pos hw]
      exact .inl (wp_endQ (hst _ hput))
    · rename_i hw
      rw [if_neg hw]
      refine ⟨by simpa using hs, updV u i undef, hup undef, hc, fun j hjn hj => ?_⟩
      by_cases hji : j = i
      · subst hji; unfold updV; rw [if_pos rfl]; exact hst
      · rw [getD_set_ne false (fun e => hji e.symm)] at hj
        unfold updV; rw [if_neg hji]
        exact hk j hjn hj
  · rintro a' w' ⟨_, u, rfl, hc, hk⟩
    refine hend u w' hc (allOf_mk F 0 u w' fun i hi => ?_)
    rw [Nat.zero_add]
    refine hk i (by omega) ?_
    have hin : i < n := by omega
    simp [Array.getD_eq_getD_getElem?, List.getElem?_append, hin]
  · refine ⟨by simp, fun i => match (l.take n)[i]? with | some o => (match o.dst with | some d => a.tmps.getD d undef | none => undef) | none => undef, ?_, hC, fun i _ hi => ?_⟩
    · refine (fPut_self (l.take n) 0 a _ fun i o d hi hd' => ?_).symm
      simp only [Nat.zero_add, hi, hd']
    · rw [getD_replicate_false] at hi; cases hi
  · simp [List.count_replicate]
end
end Go.Proofs.YtklbehapbchnaaaDoor
