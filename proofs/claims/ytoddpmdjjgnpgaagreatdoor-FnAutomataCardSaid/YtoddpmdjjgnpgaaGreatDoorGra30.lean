/-
  A region that draws its order, ends in a forced tail, and makes two boxes: they are different ones.
-/
import Derived.Test.YtoddpmdjjgnpgaaGreatDoorGra11
namespace Go.Proofs.YtoddpmdjjgnpgaaGreatDoor
open Go.RowKit
set_option linter.unusedVariables false
def oldBox (v : Value) (w : World) : Prop := ∃ g, v = .pointer (some ⟨g, 0, none⟩) ∧ g < w.heap.size
theorem oldBox.mono {v : Value} {w w' : World} (h : oldBox v w) (hw : w.heap.size ≤ w'.heap.size) : oldBox v w' := by
  obtain ⟨g, h1, h2⟩ := h
  exact ⟨g, h1, by omega⟩
section
variable {P : Program} {Q : Exit → Act → World → Prop} {E : Act → World → Prop}
/-- the like, with two boxes made on the way: they are different ones -/
theorem region_tailNe {id : Nat} {a : Act} {w : World} {l : List Oper} {Fr : (Nat → Value) → Act} (n p q : Nat) (C : World → Prop) (R : World → World → Prop) (hF : ∀ u, fPut (l.take n) 0 a u = Fr u) (hm : P.follows .mixedOrders = true) (hd : dstsB (l.take n) = true) (hb : backB (l.take n) 0 = true)
    (hn : decide (n < l.length) = true) (hs : Region.sinkB .any l.toArray n = true) (hch : Region.chainB .any l.toArray n = true) (hq : Region.seqB .any l.toArray (l.length - n) n (List.replicate n true ++ List.replicate (l.length - n) false).toArray = true)
    (hC : C { w with drawn := w.drawn + 1 }) (hR : ∀ w w', R w w' → w.heap.size ≤ w'.heap.size) (hpq : p ≠ q) (hgd : ∀ i o, (i = p ∨ i = q) → l[i]? = some o → ∀ {y}, Region.wanted o y = true) (hb2 : ∀ i, (i = p ∨ i = q) → ∃ o d, l[i]? = some o ∧ o.dst = some d ∧ d < a.tmps.size ∧ i < n ∧ ∀ (ρ : Operand → Value) (w : World) (nx : Next) (w' : World), (execOp ρ o).run P w = .ok nx w' → ∃ v, nx = .value v ∧ v = .pointer (some ⟨w.heap.size, 0, none⟩) ∧ w.heap.size < w'.heap.size)
    (h : eachOf P (endQ Q (fun a' w' => ∀ u, a' = Fr u → u p ≠ u q → wpList P l.toArray Q (l.drop n) a' w')) l Fr C R (l.take n) []) : (Code.region id l.toArray true).wp P Q a w := by
  have hFr : Fr = fPut (l.take n) 0 a := funext fun u => (hF u).symm
  have hn' : n < l.length := of_decide_eq_true hn
  subst hFr
  obtain ⟨F, _, hlen, hmono, hstep, hend⟩ := each_out (l.take n) [] hb (fun V hV => by cases hV) h
  simp only [List.length_nil, Nat.zero_add] at hlen hstep
  have htl : (l.take n).length = n := by rw [List.length_take]; omega
  rw [htl] at hlen
  refine wp_region_any hm ?_
  have inv0 : HeadInv .any l.toArray n (Array.replicate l.toArray.size false) :=
    ⟨by simp, fun j oj _ hl => (by rw [getD_replicate_false] at hl; cases hl), fun t _ ht => getD_in (by simpa using ht) (getD_replicate_false _ _)⟩
  have H := wpAny_headTail (P := P) (Q := Q) hn' hs hch hb hq (fun listed a' w' => listed.size = l.length ∧ ∃ u, a' = fPut (l.take n) 0 a u ∧ C w' ∧ (∀ i, i < n → listed.getD i false = true → F.getD i (fun _ _ => True) (u i) w') ∧ (∀ i, (i = p ∨ i = q) → listed.getD i false = true → oldBox (u i) w') ∧ (listed.getD p false = true → listed.getD q false = true → u p ≠ u q)) ?_ ?_ n (Array.replicate l.toArray.size false) a { w with drawn := w.drawn + 1 } inv0 ?_ ?_
  · rw [show n + (l.length - n) = l.length by omega] at H
    simpa using H
  · rintro listed a' w' i ⟨hs, u, rfl, hc, hk, hJ, hN⟩ hin hi
    have hfi : listed.getD i false ≠ true := fun e => by
      have hun := (mem_ready.1 hi).1
      have hlt : i < listed.size := by rw [hs]; omega
      simp [hlt] at hun e
      rw [e] at hun
      cases hun
    obtain ⟨hun, o, ho, hall⟩ := mem_ready.1 hi
    have ho' : l[i]? = some o := by simpa using ho
    have hot : (l.take n)[i]? = some o := by rw [List.getElem?_take, if_pos hin]; exact ho'
    have hlt : i < listed.size := by rw [hs]; exact (List.getElem?_eq_some_iff.1 ho').1
    have hst := hstep i o hot u w' hc (factsOf_mk F _ u w' fun e he hbi => hk _ (by
      have := backB_at (l.take n) 0 i o hb hot e (by simpa using he) hbi
      omega) (hall e (by simpa using he) hbi))
    have hup : ∀ v, (fPut (l.take n) 0 a u).put o.dst v = fPut (l.take n) 0 a (updV u i v) := fun v => by
      have := fPut_upd (l.take n) 0 a u i o v hd hot
      rwa [Nat.zero_add] at this
    -- what is told of the two boxes stays behind another operation
    have hJk : i ≠ p → i ≠ q → ∀ (v : Value) (w2 : World), w'.heap.size ≤ w2.heap.size → (∀ j, (j = p ∨ j = q) → (listed.setIfInBounds i true).getD j false = true → oldBox (updV u i v j) w2) ∧ ((listed.setIfInBounds i true).getD p false = true → (listed.setIfInBounds i true).getD q false = true → updV u i v p ≠ updV u i v q) := fun hip hiq v w2 hw2 => by
      refine ⟨fun j hj h1 => ?_, fun h1 h2 => ?_⟩
      · have hji : j ≠ i := by rcases hj with rfl | rfl <;> exact fun e => by first | exact hip e.symm | exact hiq e.symm
        rw [getD_set_ne false (fun e => hji e.symm)] at h1
        unfold updV; rw [if_neg hji]
        exact (hJ j hj h1).mono hw2
      · rw [getD_set_ne false hip] at h1
        rw [getD_set_ne false hiq] at h2
        unfold updV; rw [if_neg (fun e => hip e.symm), if_neg (fun e => hiq e.symm)]
        exact hN h1 h2
    have hJs : (i = p ∨ i = q) → ∀ (v : Value) (w2 : World), w'.heap.size ≤ w2.heap.size → v = .pointer (some ⟨w'.heap.size, 0, none⟩) → w'.heap.size < w2.heap.size → (∀ j, (j = p ∨ j = q) → (listed.setIfInBounds i true).getD j false = true → oldBox (updV u i v j) w2) ∧ ((listed.setIfInBounds i true).getD p false = true → (listed.setIfInBounds i true).getD q false = true → updV u i v p ≠ updV u i v q) := fun hi2 v w2 hw2 hv hw3 => by
      refine ⟨fun j hj h1 => ?_, fun h1 h2 => ?_⟩
      · by_cases hji : j = i
        · subst hji; unfold updV; rw [if_pos rfl]; exact ⟨_, hv, hw3⟩
        · rw [getD_set_ne false (fun e => hji e.symm)] at h1
          unfold updV; rw [if_neg hji]
          exact (hJ j hj h1).mono hw2
      · rcases hi2 with rfl | rfl
        · rw [getD_set_ne false hpq] at h2
          unfold updV; rw [if_pos rfl, if_neg (fun e => hpq e.symm), hv]
          exact fun e => by
            obtain ⟨g, hg, hg2⟩ := hJ q (.inr rfl) h2
            rw [← e] at hg
            cases hg
            omega
        · rw [getD_set_ne false (fun e => hpq e.symm)] at h1
          unfold updV; rw [if_pos rfl, if_neg hpq, hv]
          exact fun e => by
            obtain ⟨g, hg, hg2⟩ := hJ p (.inl rfl) h1
            rw [e] at hg
            cases hg
            omega
    have hput : ∀ (v : Value) (w2 : World), C w2 → R w' w2 → F.getD i (fun _ _ => True) v w2 → ((∀ j, (j = p ∨ j = q) → (listed.setIfInBounds i true).getD j false = true → oldBox (updV u i v j) w2) ∧ ((listed.setIfInBounds i true).getD p false = true → (listed.setIfInBounds i true).getD q false = true → updV u i v p ≠ updV u i v q)) → (listed.setIfInBounds i true).size = l.length ∧ ∃ u', (fPut (l.take n) 0 a u).put o.dst v = fPut (l.take n) 0 a u' ∧ C w2 ∧ (∀ j, j < n → (listed.setIfInBounds i true).getD j false = true → F.getD j (fun _ _ => True) (u' j) w2) ∧ (∀ j, (j = p ∨ j = q) → (listed.setIfInBounds i true).getD j false = true → oldBox (u' j) w2) ∧ ((listed.setIfInBounds i true).getD p false = true → (listed.setIfInBounds i true).getD q false = true → u' p ≠ u' q) := fun v w2 hc2 hr hv hJJ => by
      refine ⟨by simpa using hs, updV u i v, hup v, hc2, fun j hjn hj => ?_, hJJ⟩
      by_cases hji : j = i
      · subst hji; unfold updV; rw [if_pos rfl]; exact hv
      · rw [getD_set_ne false (fun e => hji e.symm)] at hj
        unfold updV; rw [if_neg hji]
        have hjk := hk j hjn hj
        have hjl : j < F.length := by omega
        rw [List.getD_eq_getElem?_getD, List.getElem?_eq_getElem hjl] at hjk ⊢
        exact hmono _ (List.getElem_mem hjl) _ _ _ hc2 hr hjk
    unfold wpOp
    rw [ho]
    simp only
    split at hst
    · rename_i hw
      rw [if_pos hw]
      refine .inl (wp_endQ (E := fun a' w' => ∀ u, a' = fPut (l.take n) 0 a u → u p ≠ u q → wpList P l.toArray Q (l.drop n) a' w') ?_)
      by_cases hi2 : i = p ∨ i = q
      · obtain ⟨o2, d2, ho2, hd2, hsz2, _, hrun2⟩ := hb2 i hi2
        rw [ho'] at ho2
        obtain rfl := Option.some.inj ho2
        have h0 := hst (fun a' w2 => ∃ v, a' = (fPut (l.take n) 0 a u).put o.dst v ∧ C w2 ∧ R w' w2 ∧ F.getD i (fun _ _ => True) v w2) (fun v w2 h1 h2 h3 => ⟨v, rfl, h1, h2, h3⟩)
        refine wp_link (G := fun v w2 => v = .pointer (some ⟨w'.heap.size, 0, none⟩) ∧ w'.heap.size < w2.heap.size) h0 (fun nx w2 hrun => hrun2 _ _ _ _ hrun) (fun v w2 ⟨v', e, h1, h2, h3⟩ ⟨hg, hg2⟩ => ?_)
        rw [hd2] at e
        have := put_inj (by rw [fPut_size]; exact hsz2) e
        subst this
        exact hput v w2 h1 h2 h3 (hJs hi2 v w2 (hR _ _ h2) hg hg2)
      · exact hst _ fun v w2 h1 h2 h3 => hput v w2 h1 h2 h3 (hJk (fun e => hi2 (.inl e)) (fun e => hi2 (.inr e)) v w2 (hR _ _ h2))
    · rename_i hw
      rw [if_neg hw]
      have hi2 : ¬ (i = p ∨ i = q) := fun hi2 => by
        obtain ⟨o2, d2, ho2, hd2, hsz2, _, hrun2⟩ := hb2 i hi2
        rw [ho'] at ho2
        obtain rfl := Option.some.inj ho2
        exact hw (hgd i o hi2 ho')
      refine ⟨by simpa using hs, updV u i undef, hup undef, hc, fun j hjn hj => ?_, hJk (fun e => hi2 (.inl e)) (fun e => hi2 (.inr e)) undef w' (Nat.le_refl _)⟩
      by_cases hji : j = i
      · subst hji; unfold updV; rw [if_pos rfl]; exact hst
      · rw [getD_set_ne false (fun e => hji e.symm)] at hj
        unfold updV; rw [if_neg hji]
        exact hk j hjn hj
  · rintro a' w' ⟨_, u, rfl, hc, hk, hJ, hN⟩
    have hall2 : ∀ i, i < n → (List.replicate n true ++ List.replicate (l.length - n) false).toArray.getD i false = true := fun i hi => by simp [Array.getD_eq_getD_getElem?, List.getElem?_append, hi]
    obtain ⟨_, _, _, _, _, hpn, _⟩ := hb2 p (.inl rfl)
    obtain ⟨_, _, _, _, _, hqn, _⟩ := hb2 q (.inr rfl)
    refine hend u w' hc (allOf_mk F 0 u w' fun i hi => ?_) u rfl (hN (hall2 p hpn) (hall2 q hqn))
    rw [Nat.zero_add]
    refine hk i (by omega) ?_
    have hin : i < n := by omega
    simp [Array.getD_eq_getD_getElem?, List.getElem?_append, hin]
  · refine ⟨by simp, fun i => match (l.take n)[i]? with | some o => (match o.dst with | some d => a.tmps.getD d undef | none => undef) | none => undef, ?_, hC, fun i _ hi => ?_, fun i _ hi => ?_, fun hi _ => ?_⟩
    · refine (fPut_self (l.take n) 0 a _ fun i o d hi hd' => ?_).symm
      simp only [Nat.zero_add, hi, hd']
    · rw [getD_replicate_false] at hi; cases hi
    · rw [getD_replicate_false] at hi; cases hi
    · rw [getD_replicate_false] at hi; cases hi
  · simp [List.count_replicate]
end
end Go.Proofs.YtoddpmdjjgnpgaaGreatDoor
