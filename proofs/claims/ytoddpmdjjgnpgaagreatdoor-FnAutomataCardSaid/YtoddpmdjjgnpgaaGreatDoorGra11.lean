/-
  A region as in XRegTail, in which the values of some operations are tied to the value of an earlier one.
-/
import Derived.Test.YtoddpmdjjgnpgaaGreatDoorGra10
import Derived.StillTail
namespace Go.Proofs.YtoddpmdjjgnpgaaGreatDoor
open Go.RowKit
set_option linter.unusedVariables false
/-- another end -/
def endQ (Q : Exit → Act → World → Prop) (E : Act → World → Prop) : Exit → Act → World → Prop := fun e a w => match e with
  | .normal => E a w
  | e => Q e a w
section
variable {P : Program} {Q : Exit → Act → World → Prop} {E : Act → World → Prop}
theorem wp_endQ {o : Oper} {a : Act} {w : World} {K : Act → World → Prop} (h : o.wp P a w K (endQ Q E)) : o.wp P a w K Q := by
  unfold Oper.wp at *
  generalize (execOp a.eval o).run P w = r at *
  unfold Oper.upon at *
  cases r with
  | ok n w' => cases n <;> exact h
  | halt x w' => cases x <;> exact h
theorem count_all {n g : Nat} {L : List Bool} (hlen : L.length = n + g) (hc : L.count true = n) (ht : ∀ t, n ≤ t → t < n + g → L.getD t true = false) : L = List.replicate n true ++ List.replicate g false := by
  have e0 := List.take_append_drop n L
  have e2 : L.drop n = List.replicate g false := by
    rw [List.eq_replicate_iff]
    refine ⟨by rw [List.length_drop]; omega, fun b hb => ?_⟩
    obtain ⟨j, hj, rfl⟩ := List.getElem_of_mem hb
    rw [List.length_drop] at hj
    have := ht (n + j) (by omega) (by omega)
    rw [List.getD_eq_getElem?_getD, List.getElem?_eq_getElem (by omega)] at this
    simpa using this
  have e1 : L.take n = List.replicate n true := by
    have h1 : (L.take n).count true + (L.drop n).count true = n := by rw [← List.count_append, e0, hc]
    have h2 : (L.drop n).count true = 0 := by rw [e2, List.count_replicate]; simp
    have h3 : (L.take n).length = n := by rw [List.length_take]; omega
    have h4 : (L.take n).count true = (L.take n).length := by omega
    rw [List.count_eq_length] at h4
    exact List.eq_replicate_iff.2 ⟨h3, fun b hb => (h4 b hb).symm⟩
  rw [← e0, e1, e2]
theorem count_set {listed : Array Bool} {i : Nat} (hlt : i < listed.size) (hf : listed[i] = false) : (listed.setIfInBounds i true).toList.count true = listed.toList.count true + 1 := by
  rw [Array.toList_setIfInBounds, List.set_eq_take_append_cons_drop, if_pos (by simpa using hlt)]
  conv => rhs; rw [← List.take_append_drop i listed.toList, List.drop_eq_getElem_cons (by simpa using hlt)]
  rw [List.count_append, List.count_append, List.count_cons, List.count_cons]
  have e : listed.toList[i]'(by simpa using hlt) = false := by simpa using hf
  rw [e]
  simp
  omega
/-- a head, then a forced tail -/
theorem wpAny_headTail {l : List Oper} {n : Nat} (hn : n < l.length) (hs : Region.sinkB .any l.toArray n = true) (hch : Region.chainB .any l.toArray n = true) (hb : backB (l.take n) 0 = true)
    (hq : Region.seqB .any l.toArray (l.length - n) n (List.replicate n true ++ List.replicate (l.length - n) false).toArray = true)
    (I : Array Bool → Act → World → Prop)
    (hstep : ∀ listed a w i, I listed a w → i < n → i ∈ Region.ready .any l.toArray listed → wpOp P l.toArray Q i (fun a' w' => I (listed.setIfInBounds i true) a' w') a w)
    (hend : ∀ a w, I (List.replicate n true ++ List.replicate (l.length - n) false).toArray a w → wpList P l.toArray Q (l.drop n) a w) :
    ∀ (f : Nat) (listed : Array Bool) (a : Act) (w : World), HeadInv .any l.toArray n listed → I listed a w → listed.toList.count true + f = n → wpAny P .any l.toArray Q (f + (l.length - n)) listed a w
  | 0, listed, a, w, inv, h, hc => by
    have hsz : listed.toList.length = n + (l.length - n) := by have := inv.size; simp at this ⊢; omega
    have e : listed = (List.replicate n true ++ List.replicate (l.length - n) false).toArray := by
      have := count_all hsz (by omega) (fun t h1 h2 => by have := inv.tail t h1 (by simp; omega); simpa [List.getD_eq_getElem?_getD, Array.getD_eq_getD_getElem?] using this)
      rw [← this]
    rw [e] at h ⊢
    have h2 := hend a w h
    have hdl : (l.drop n).length = l.length - n := by rw [List.length_drop]
    have := wpAny_of_seq (md := .any) (Q' := Q) (ops := l.toArray) (P := P) (l.drop n) n _ a w (fun j => by simp [List.getElem?_drop]) (by rw [hdl]; exact hq) h2
    rw [hdl] at this
    rwa [Nat.zero_add]
  | f + 1, listed, a, w, inv, h, hc => by
    have hsz : listed.size = l.length := by have := inv.size; simpa using this
    -- one of the head has not come up; the first of those can
    have hex : ∃ i, i < n ∧ listed.getD i true = false := by
      refine Classical.byContradiction fun hno => ?_
      have h1 : ∀ i, i < n → listed.toList[i]? = some true := fun i hi => by
        have hil : i < listed.size := by omega
        have h2 : listed.getD i true ≠ false := fun e => hno ⟨i, hi, e⟩
        simp [hil] at h2
        simp [hil, h2]
      have h3 : (listed.toList.take n).count true = n := by
        have h4 : (listed.toList.take n).length = n := by rw [List.length_take]; simp; omega
        have h5 : (listed.toList.take n).count true = (listed.toList.take n).length := by
          rw [List.count_eq_length]
          intro b hb
          obtain ⟨j, hj, rfl⟩ := List.getElem_of_mem hb
          have h6 := h1 j (by omega)
          rw [List.getElem_take]
          rw [List.getElem?_eq_getElem (by rw [List.length_take] at hj; omega)] at h6
          exact (Option.some.inj h6).symm
        omega
      have h7 : (listed.toList.take n).count true ≤ listed.toList.count true := (List.take_sublist _ _).count_le _
      omega
    have hready : ∃ i, i < n ∧ listed.getD i true = false ∧ ∀ j, j < i → listed.getD j true = true := by
      obtain ⟨i, hi, hf⟩ := hex
      induction i using Nat.strongRecOn with
      | _ i ih =>
        by_cases hj : ∃ j, j < i ∧ listed.getD j true = false
        · obtain ⟨j, hji, hjf⟩ := hj
          exact ih j hji (by omega) hjf
        · refine ⟨i, hi, hf, fun j hji => ?_⟩
          cases e : listed.getD j true
          · exact absurd ⟨j, hji, e⟩ hj
          · rfl
    obtain ⟨i0, hi0, hf0, hmin⟩ := hready
    have hr0 : i0 ∈ Region.ready .any l.toArray listed := by
      have hil : i0 < l.length := by omega
      refine mem_ready.2 ⟨hf0, l[i0], by simp [hil], fun e he hbi => ?_⟩
      have h1 := backB_at (l.take n) 0 i0 l[i0] hb (by rw [List.getElem?_take, if_pos hi0, List.getElem?_eq_getElem hil]) e he hbi
      have h2 := hmin e.on (by omega)
      have hel : e.on < listed.size := by omega
      simp [hel] at h2 ⊢
      exact h2
    rw [show f + 1 + (l.length - n) = (f + (l.length - n)) + 1 by omega]
    refine ⟨fun h0 => (by rw [h0] at hr0; cases hr0), fun i hi => ?_⟩
    have hin : i < n := by
      rcases Nat.lt_or_ge i n with h' | h'
      · exact h'
      · exact absurd hi (tail_waits hs hch (by simpa using hn) inv _ i0 rfl hi0 hf0 i h')
    have hilt : i < listed.size := by omega
    have hfi : listed[i] = false := by have := (mem_ready.1 hi).1; simpa [hilt] using this
    refine wpOp_mono (fun a' w' h' => wpAny_headTail hn hs hch hb hq I hstep hend f _ a' w' (inv.set hi hin) h' ?_) (hstep _ _ _ _ h hin hi)
    rw [count_set hilt hfi]
    omega
/-- the walk of a region that draws its order and ends in a forced tail of operations, from number n on -/
theorem region_tail {id : Nat} {a : Act} {w : World} {l : List Oper} {Fr : (Nat → Value) → Act} (n : Nat) (C : World → Prop) (R : World → World → Prop) (hF : ∀ u, fPut (l.take n) 0 a u = Fr u) (hm : P.follows .mixedOrders = true) (hd : dstsB (l.take n) = true) (hb : backB (l.take n) 0 = true)
    (hn : decide (n < l.length) = true) (hs : Region.sinkB .any l.toArray n = true) (hch : Region.chainB .any l.toArray n = true) (hq : Region.seqB .any l.toArray (l.length - n) n (List.replicate n true ++ List.replicate (l.length - n) false).toArray = true)
    (hC : C { w with drawn := w.drawn + 1 }) (h : eachOf P (endQ Q (wpList P l.toArray Q (l.drop n))) l Fr C R (l.take n) []) : (Code.region id l.toArray true).wp P Q a w := by
  have hFr : Fr = fPut (l.take n) 0 a := funext fun u => (hF u).symm
  have hn' : n < l.length := of_decide_eq_true hn
  subst hFr
  obtain ⟨F, _, hlen, hmono, hstep, hend⟩ := each_out (l.take n) [] hb (fun V hV => by cases hV) h
  simp only [List.length_nil, Nat.zero_add] at hlen hstep
  have htl : (l.take n).length = n := by rw [List.length_take]; omega
  rw [htl] at hlen
  refine wp_region_any hm ?_
  have inv0 : HeadInv .any l.toArray n (Array.replicate l.toArray.size false) :=
    ⟨by simp, fun j oj _ hl => (by rw [getD_replicate_false] at hl; cases hl), fun t _ ht => getD_in (by simpa using ht) (getD_replicate_false _ _)⟩
  have H := wpAny_headTail (P := P) (Q := Q) hn' hs hch hb hq (fun listed a' w' => listed.size = l.length ∧ ∃ u, a' = fPut (l.take n) 0 a u ∧ C w' ∧ ∀ i, i < n → listed.getD i false = true → F.getD i (fun _ _ => True) (u i) w') ?_ ?_ n (Array.replicate l.toArray.size false) a { w with drawn := w.drawn + 1 } inv0 ?_ ?_
  · rw [show n + (l.length - n) = l.length by omega] at H
    simpa using H
  · rintro listed a' w' i ⟨hs, u, rfl, hc, hk⟩ hin hi
    obtain ⟨hun, o, ho, hall⟩ := mem_ready.1 hi
    have ho' : l[i]? = some o := by simpa using ho
    have hot : (l.take n)[i]? = some o := by rw [List.getElem?_take, if_pos hin]; exact ho'
    have hlt : i < listed.size := by rw [hs]; exact (List.getElem?_eq_some_iff.1 ho').1
    have hst := hstep i o hot u w' hc (factsOf_mk F _ u w' fun e he hbi => hk _ (by
      have := backB_at (l.take n) 0 i o hb hot e (by simpa using he) hbi
      omega) (hall e (by simpa using he) hbi))
    have hup : ∀ v, (fPut (l.take n) 0 a u).put o.dst v = fPut (l.take n) 0 a (updV u i v) := fun v => by
      have := fPut_upd (l.take n) 0 a u i o v hd hot
      rwa [Nat.zero_add] at this
    have hput : ∀ (v : Value) (w2 : World), C w2 → R w' w2 → F.getD i (fun _ _ => True) v w2 → (listed.setIfInBounds i true).size = l.length ∧ ∃ u', (fPut (l.take n) 0 a u).put o.dst v = fPut (l.take n) 0 a u' ∧ C w2 ∧ ∀ j, j < n → (listed.setIfInBounds i true).getD j false = true → F.getD j (fun _ _ => True) (u' j) w2 := fun v w2 hc2 hr hv => by
      refine ⟨by simpa using hs, updV u i v, hup v, hc2, fun j hjn hj => ?_⟩
      by_cases hji : j = i
      · subst hji; unfold updV; rw [if_pos rfl]; exact hv
      · rw [getD_set_ne false (fun e => hji e.symm)] at hj
        unfold updV; rw [if_neg hji]
        have hjk := hk j hjn hj
        have hjl : j < F.length := by omega
        rw [List.getD_eq_getElem?_getD, List.getElem?_eq_getElem hjl] at hjk ⊢
        exact hmono _ (List.getElem_mem hjl) _ _ _ hc2 hr hjk
    unfold wpOp
    rw [ho]
    simp only
    split at hst
    · rename_i hw
      rw [if_pos hw]
      exact .inl (wp_endQ (hst _ hput))
    · rename_i hw
      rw [if_neg hw]
      refine ⟨by simpa using hs, updV u i undef, hup undef, hc, fun j hjn hj => ?_⟩
      by_cases hji : j = i
      · subst hji; unfold updV; rw [if_pos rfl]; exact hst
      · rw [getD_set_ne false (fun e => hji e.symm)] at hj
        unfold updV; rw [if_neg hji]
        exact hk j hjn hj
  · rintro a' w' ⟨_, u, rfl, hc, hk⟩
    refine hend u w' hc (allOf_mk F 0 u w' fun i hi => ?_)
    rw [Nat.zero_add]
    refine hk i (by omega) ?_
    have hin : i < n := by omega
    simp [Array.getD_eq_getD_getElem?, List.getElem?_append, hin]
  · refine ⟨by simp, fun i => match (l.take n)[i]? with | some o => (match o.dst with | some d => a.tmps.getD d undef | none => undef) | none => undef, ?_, hC, fun i _ hi => ?_⟩
    · refine (fPut_self (l.take n) 0 a _ fun i o d hi hd' => ?_).symm
      simp only [Nat.zero_add, hi, hd']
    · rw [getD_replicate_false] at hi; cases hi
  · simp [List.count_replicate]
end
end Go.Proofs.YtoddpmdjjgnpgaaGreatDoor
namespace Go.Proofs.YtoddpmdjjgnpgaaGreatDoor
open Go.RowKit
set_option linter.unusedVariables false
/-- the value of the first one's operation is tied to the second one's -/
abbrev Lk := Nat × Nat × (Value → Value → Prop)
def allL (lk : List Lk) (u : Nat → Value) : Prop := ∀ k ∈ lk, k.2.2 (u k.2.1) (u k.1)
section
variable {P : Program} {Q : Exit → Act → World → Prop}
theorem wp_skip {o : Oper} {a : Act} {w : World} {K K' : Act → World → Prop} {G : World → Prop} (h : o.wp P a w K Q) (hr : ∀ nx w', (execOp a.eval o).run P w = .ok nx w' → nx = .skip ∧ G w') (hk : ∀ w', K (a.put o.dst undef) w' → G w' → K' (a.put o.dst undef) w') : o.wp P a w K' Q := by
  unfold Oper.wp at *
  generalize (execOp a.eval o).run P w = r at *
  unfold Oper.upon at *
  cases r with
  | ok n w' =>
    obtain ⟨rfl, hg⟩ := hr n w' rfl
    exact hk w' h hg
  | halt x w' => cases x <;> exact h
theorem wp_link {o : Oper} {a : Act} {w : World} {K K' : Act → World → Prop} {G : Value → World → Prop} (h : o.wp P a w K Q) (hr : ∀ nx w', (execOp a.eval o).run P w = .ok nx w' → ∃ v, nx = .value v ∧ G v w') (hk : ∀ v w', K (a.put o.dst v) w' → G v w' → K' (a.put o.dst v) w') : o.wp P a w K' Q := by
  unfold Oper.wp at *
  generalize (execOp a.eval o).run P w = r at *
  unfold Oper.upon at *
  cases r with
  | ok n w' =>
    obtain ⟨v, rfl, hg⟩ := hr n w' rfl
    exact hk v w' h hg
  | halt x w' => cases x <;> exact h
theorem run_value {s : Sem Value} {w w' : World} {nx : Next} (h : (do pure (Next.value (← s)) : Sem Next).run P w = .ok nx w') : ∃ v, nx = .value v ∧ s.run P w = .ok v w' := by
  rw [Sem.run_bind] at h
  cases hs : s.run P w with
  | ok v w2 =>
    rw [hs] at h
    simp only [Result.andThen_ok, Sem.run_pure] at h
    cases h
    exact ⟨v, rfl, rfl⟩
  | halt x w2 => rw [hs] at h; cases h
theorem store_skip {ρ : Operand → Value} {o : Oper} {t : TypeId} {a x : Operand} {w w' : World} {nx : Next} (hop : o.op = .store t a x) (h : (execOp ρ o).run P w = .ok nx w') : nx = .skip := by
  unfold execOp at h
  rw [hop] at h
  simp only [] at h
  rw [Sem.run_bind] at h
  cases hs : (Instr.storeAt t (ρ a) (ρ x)).run P w with
  | ok v w2 =>
    rw [hs] at h
    simp only [Result.andThen_ok, Sem.run_pure] at h
    cases h
    rfl
  | halt x w2 => rw [hs] at h; cases h
theorem extract_two {ρ : Operand → Value} {o : Oper} {t : Operand} {ix : Nat} {w w' : World} {nx : Next} (hop : o.op = .extract t ix) (h : (execOp ρ o).run P w = .ok nx w') : ∃ v, nx = .value v ∧ w' = w ∧ ∀ x y, ρ t = .tuple #[x, y] → (ix = 0 → v = x) ∧ (ix = 1 → v = y) := by
  unfold execOp at h
  rw [hop] at h
  simp only [] at h
  obtain ⟨v, rfl, h2⟩ := run_value h
  refine ⟨v, rfl, ?_, fun x y e => ⟨fun h0 => ?_, fun h0 => ?_⟩⟩
  · cases hv : ρ t <;> rw [hv] at h2 <;> simp [Instr.extract] at h2
    rename_i vs
    cases he : vs[ix]? <;> simp [he] at h2
    exact h2.2.symm
  · subst h0; rw [e] at h2; simp [Instr.extract] at h2; exact h2.1.symm
  · subst h0; rw [e] at h2; simp [Instr.extract] at h2; exact h2.1.symm
/-- a box of two strings stays one -/
def BoxR (T : TypeId) (n : Nat) (W W2 : World) : Prop := ∀ g x y, n ≤ g → W.heap[g]? = some (.cells #[.string x, .string y] T (0, 0)) → ∃ x' y', W2.heap[g]? = some (.cells #[.string x', .string y'] T (0, 0))
theorem boxR_refl (T : TypeId) (n : Nat) (W : World) : BoxR T n W W := fun g x y _ h => ⟨x, y, h⟩
theorem boxR_grown {T : TypeId} {n B : Nat} {W W2 : World} (hg : W.grownBy W2 (some B)) (hB : B < n) : BoxR T n W W2 := fun g x y hn h => ⟨x, y, (hg.block g (Array.getElem?_eq_some_iff.1 h).1 (fun e => by have := Option.some.inj e; omega)).trans h⟩
theorem boxR_set (T : TypeId) (n : Nat) (W : World) (g : Nat) (u v : ByteArray) : BoxR T n W ((W.setCell ⟨g, 0, none⟩ (.string u)).setCell ⟨g, 1, none⟩ (.string v)) := fun g' x y _ h => by
  by_cases e : g = g'
  · subst e
    refine ⟨u, v, ?_⟩
    unfold World.setCell
    simp [Array.getElem?_modify, h]
  · refine ⟨x, y, ?_⟩
    unfold World.setCell
    rw [Array.getElem?_modify, if_neg e, Array.getElem?_modify, if_neg e]
    exact h
theorem fPut_size : ∀ (l : List Oper) (k : Nat) (a : Act) (u : Nat → Value), (fPut l k a u).tmps.size = a.tmps.size
  | [], _, _, _ => rfl
  | o :: l, k, a, u => by
    unfold fPut
    rw [fPut_size l (k + 1)]
    cases o.dst with
    | none => rfl
    | some d => show (a.tmps.setIfInBounds d (u k)).size = _; simp
theorem put_inj {a : Act} {d : Tmp} {v v' : Value} (hd : d < a.tmps.size) (h : a.put (some d) v = a.put (some d) v') : v = v' := by
  have h1 : (a.put (some d) v).tmps[d]? = (a.put (some d) v').tmps[d]? := by rw [h]
  have e : ∀ x, (a.put (some d) x).tmps[d]? = some x := fun x => by
    show (a.tmps.setIfInBounds d x)[d]? = some x
    simp [hd]
  rw [e, e] at h1
  exact Option.some.inj h1
/-- the operations one by one, what is known of each value told in a list -/
def eachV (P : Program) (Q : Exit → Act → World → Prop) (ops : List Oper) (F : (Nat → Value) → Act) (C : World → Prop) (R : World → World → Prop) : List Oper → List Vp → List Vp → Prop
  | [], [], acc => ∀ u w, C w → allOf acc 0 u w → Q .normal (F u) w
  | o :: l, V :: Vs, acc => (∀ v w w', C w' → R w w' → V v w → V v w') ∧ stepOf P Q ops F C R acc o V ∧ eachV P Q ops F C R l Vs (acc ++ [V])
  | _, _, _ => False
theorem each_outV {Fr : (Nat → Value) → Act} {C : World → Prop} {R : World → World → Prop} {opsL : List Oper} : ∀ (l : List Oper) (Vs acc : List Vp), backB l acc.length = true → (∀ V ∈ acc, ∀ v w w', C w' → R w w' → V v w → V v w') → eachV P Q opsL Fr C R l Vs acc →
    Vs.length = l.length ∧ (∀ V ∈ acc ++ Vs, ∀ v w w', C w' → R w w' → V v w → V v w') ∧
      (∀ i o, l[i]? = some o → stepOf P Q opsL Fr C R (acc ++ Vs) o ((acc ++ Vs).getD (acc.length + i) (fun _ _ => True))) ∧ ∀ u w, C w → allOf (acc ++ Vs) 0 u w → Q .normal (Fr u) w
  | [], [], acc, hb, hm, h => ⟨rfl, by rw [List.append_nil]; exact hm, fun i o h => by simp at h, by rw [List.append_nil]; exact h⟩
  | [], V :: Vs, acc, hb, hm, h => h.elim
  | o :: l, [], acc, hb, hm, h => h.elim
  | o :: l, V :: Vs, acc, hb, hm, h => by
    obtain ⟨hV, hs, hr⟩ := h
    have hb' := hb
    simp only [backB, Bool.and_eq_true] at hb'
    obtain ⟨h2, h3, h4, h5⟩ := each_outV l Vs (acc ++ [V]) (by rw [List.length_append]; exact hb'.2) (fun V' h' => by
      rcases List.mem_append.1 h' with h' | h'
      · exact hm V' h'
      · rw [List.mem_singleton.1 h']; exact hV) hr
    have ea : acc ++ [V] ++ Vs = acc ++ V :: Vs := by simp
    rw [ea] at h3 h4 h5
    refine ⟨by simp [h2], h3, fun i o' hi => ?_, h5⟩
    cases i with
    | zero =>
      simp only [List.getElem?_cons_zero, Option.some.injEq] at hi
      subst hi
      have e : (acc ++ V :: Vs).getD (acc.length + 0) (fun _ _ => True) = V := by simp
      rw [e]
      intro u w hc hf
      exact hs u w hc (facts_mono (n := acc.length) (fun j hj => by rw [List.getD_eq_getElem?_getD, List.getD_eq_getElem?_getD, List.getElem?_append_left hj]) (fun e' he hbi => by
        have := backB_at (o :: l) acc.length 0 o hb rfl e' (by simpa using he) hbi
        omega) hf)
    | succ i =>
      simp only [List.getElem?_cons_succ] at hi
      have := h4 i o' hi
      rw [List.length_append] at this
      rw [show acc.length + (i + 1) = acc.length + [V].length + i by simp; omega]
      exact this
section
variable {Fr : (Nat → Value) → Act} {C : World → Prop} {R : World → World → Prop} {opsL l : List Oper} {Vs acc : List Vp} {o : Oper}
theorem eachV_nil (h : ∀ u w, C w → allOf acc 0 u w → Q .normal (Fr u) w) : eachV P Q opsL Fr C R [] [] acc := h
theorem eachV_do (V : Vp) (hV : ∀ v w w', C w' → R w w' → V v w → V v w') (hg : o.guard = none)
    (h : ∀ u w, C w → factsOf acc o.after.toList u w → ∃ v w', (execOp (Fr u).eval o).run P w = .ok (.value v) w' ∧ C w' ∧ R w w' ∧ V v w') (hn : eachV P Q opsL Fr C R l Vs (acc ++ [V])) : eachV P Q opsL Fr C R (o :: l) (V :: Vs) acc := by
  refine ⟨hV, fun u w hc hf => ?_, hn⟩
  have hw : Region.wanted o (yielded opsL.toArray (Fr u).tmps) = true := by simp [Region.wanted, hg]
  rw [if_pos hw]
  intro K hK
  obtain ⟨v, w', h1, h2, h3, h4⟩ := h u w hc hf
  unfold Oper.wp
  rw [h1]
  exact hK v w' h2 h3 h4
theorem eachV_read {c : Value} (hR : ∀ w, R w w) (hg : o.guard = none) (h : ∀ u w, C w → factsOf acc o.after.toList u w → (execOp (Fr u).eval o).run P w = .ok (.value c) w)
    (hn : eachV P Q opsL Fr C R l Vs (acc ++ [fun v _ => v = c])) : eachV P Q opsL Fr C R (o :: l) ((fun v _ => v = c) :: Vs) acc :=
  eachV_do (fun v _ => v = c) (fun _ _ _ _ _ h => h) hg (fun u w hc hf => ⟨c, w, h u w hc hf, hc, hR w, rfl⟩) hn
theorem eachV_skip (hg : o.guard = none) (h : ∀ u w, C w → factsOf acc o.after.toList u w → ∃ w', (execOp (Fr u).eval o).run P w = .ok .skip w' ∧ C w' ∧ R w w')
    (hn : eachV P Q opsL Fr C R l Vs (acc ++ [fun _ _ => True])) : eachV P Q opsL Fr C R (o :: l) ((fun _ _ => True) :: Vs) acc := by
  refine ⟨fun _ _ _ _ _ h => h, fun u w hc hf => ?_, hn⟩
  have hw : Region.wanted o (yielded opsL.toArray (Fr u).tmps) = true := by simp [Region.wanted, hg]
  rw [if_pos hw]
  intro K hK
  obtain ⟨w', h1, h2, h3⟩ := h u w hc hf
  unfold Oper.wp
  rw [h1]
  exact hK undef w' h2 h3 trivial
theorem eachV_call (V : Vp) (hV : ∀ v w w', C w' → R w w' → V v w → V v w') (hg : o.guard = none)
    (h : ∀ u w, C w → factsOf acc o.after.toList u w → ∃ f args, (execOp (Fr u).eval o).run P w = .ok (.enter f args) w ∧ Calls P f args w fun e w' => ∃ v, e = .returned v ∧ C w' ∧ R w w' ∧ V v w') (hn : eachV P Q opsL Fr C R l Vs (acc ++ [V])) : eachV P Q opsL Fr C R (o :: l) (V :: Vs) acc := by
  refine ⟨hV, fun u w hc hf => ?_, hn⟩
  have hw : Region.wanted o (yielded opsL.toArray (Fr u).tmps) = true := by simp [Region.wanted, hg]
  rw [if_pos hw]
  intro K hK
  obtain ⟨f, args, h1, h2⟩ := h u w hc hf
  unfold Oper.wp
  rw [h1]
  exact h2.mono fun e w' ⟨v, he, h3, h4, h5⟩ => by subst he; exact hK v w' h3 h4 h5
end
/-- the walk of a region that draws its order, ends in a forced tail, has tied values and a store, behind which operations may come that leave the world -/
theorem region_link {id : Nat} {a : Act} {w : World} {l : List Oper} {Fr : (Nat → Value) → Act} (n : Nat) (C : World → Prop) (R : World → World → Prop) (lk : List Lk) (s : Nat) (os : Oper) (D : (Nat → Value) → World → Prop) (hF : ∀ u, fPut (l.take n) 0 a u = Fr u) (hm : P.follows .mixedOrders = true) (hd : dstsB (l.take n) = true) (hb : backB (l.take n) 0 = true)
    (hn : decide (n < l.length) = true) (hs : Region.sinkB .any l.toArray n = true) (hch : Region.chainB .any l.toArray n = true) (hq : Region.seqB .any l.toArray (l.length - n) n (List.replicate n true ++ List.replicate (l.length - n) false).toArray = true)
    (hC : C { w with drawn := w.drawn + 1 })
    (hlk : ∀ k ∈ lk, ∃ o d, l[k.1]? = some o ∧ o.dst = some d ∧ d < a.tmps.size ∧ (k.1 < n ∧ o.guard = none ∧ ∃ e ∈ o.after.toList, Region.binds .any e = true ∧ e.on = k.2.1) ∧ ∀ u w, C w → ∀ nx w', (execOp (Fr u).eval o).run P w = .ok nx w' → ∃ v, nx = .value v ∧ k.2.2 (u k.2.1) v)
    (hsg : os.guard = none) (hso : l[s]? = some os ∧ s < n ∧ (∀ k ∈ lk, k.1 ≠ s) ∧ ∀ u w, C w → ∀ nx w', (execOp (Fr u).eval os).run P w = .ok nx w' → nx = .skip)
    (hlate : ∀ i o, i < n → l[i]? = some o → i ≠ s → (∃ e ∈ os.after.toList, Region.binds .any e = true ∧ e.on = i) ∨ (∃ d, o.dst = some d ∧ d < a.tmps.size ∧ ∀ u w, C w → ∀ nx w', (execOp (Fr u).eval o).run P w = .ok nx w' → (∃ v, nx = .value v) ∧ w' = w))
    (hDu : ∀ u u' w, (∀ e ∈ os.after.toList, Region.binds .any e = true → u e.on = u' e.on) → D u w → D u' w)
    (h : ∃ Vs, eachV P (endQ Q (fun a' w' => ∀ u, a' = Fr u → allL lk u → D u w' → wpList P l.toArray Q (l.drop n) a' w')) l Fr C R (l.take n) Vs [] ∧ ∀ u w, C w → factsOf Vs os.after.toList u w → ∀ w', (execOp (Fr u).eval os).run P w = .ok .skip w' → D u w') : (Code.region id l.toArray true).wp P Q a w := by
  have hFr : Fr = fPut (l.take n) 0 a := funext fun u => (hF u).symm
  have hn' : n < l.length := of_decide_eq_true hn
  subst hFr
  obtain ⟨Vs, h, hD⟩ := h
  obtain ⟨hlen, hmono, hstep, hend⟩ := each_outV (l.take n) Vs [] hb (fun V hV => by cases hV) h
  simp only [List.length_nil, Nat.zero_add, List.nil_append] at hlen hmono hstep hend
  generalize hVs : Vs = F at *
  have htl : (l.take n).length = n := by rw [List.length_take]; omega
  rw [htl] at hlen
  refine wp_region_any hm ?_
  have inv0 : HeadInv .any l.toArray n (Array.replicate l.toArray.size false) :=
    ⟨by simp, fun j oj _ hl => (by rw [getD_replicate_false] at hl; cases hl), fun t _ ht => getD_in (by simpa using ht) (getD_replicate_false _ _)⟩
  have H := wpAny_headTail (P := P) (Q := Q) hn' hs hch hb hq (fun listed a' w' => listed.size = l.length ∧ ∃ u, a' = fPut (l.take n) 0 a u ∧ C w' ∧ (∀ i, i < n → listed.getD i false = true → F.getD i (fun _ _ => True) (u i) w') ∧ (∀ k ∈ lk, listed.getD k.1 false = true → listed.getD k.2.1 false = true ∧ k.2.2 (u k.2.1) (u k.1)) ∧ (listed.getD s false = true → (∀ e ∈ os.after.toList, Region.binds .any e = true → listed.getD e.on false = true) ∧ D u w')) ?_ ?_ n (Array.replicate l.toArray.size false) a { w with drawn := w.drawn + 1 } inv0 ?_ ?_
  · rw [show n + (l.length - n) = l.length by omega] at H
    simpa using H
  · rintro listed a' w' i ⟨hs, u, rfl, hc, hk, hL, hT⟩ hin hi
    obtain ⟨hun, o, ho, hall⟩ := mem_ready.1 hi
    have ho' : l[i]? = some o := by simpa using ho
    have hot : (l.take n)[i]? = some o := by rw [List.getElem?_take, if_pos hin]; exact ho'
    have hlt : i < listed.size := by rw [hs]; exact (List.getElem?_eq_some_iff.1 ho').1
    have hfi : listed.getD i false ≠ true := fun e => by
      simp [hlt] at hun e
      rw [e] at hun
      cases hun
    have hst := hstep i o hot u w' hc (factsOf_mk F _ u w' fun e he hbi => hk _ (by
      have := backB_at (l.take n) 0 i o hb hot e (by simpa using he) hbi
      omega) (hall e (by simpa using he) hbi))
    have hup : ∀ v, (fPut (l.take n) 0 a u).put o.dst v = fPut (l.take n) 0 a (updV u i v) := fun v => by
      have := fPut_upd (l.take n) 0 a u i o v hd hot
      rwa [Nat.zero_add] at this
    have hold : ∀ (v : Value), (∀ k ∈ lk, k.1 = i → k.2.2 (u k.2.1) v) → ∀ k ∈ lk, (listed.setIfInBounds i true).getD k.1 false = true → (listed.setIfInBounds i true).getD k.2.1 false = true ∧ k.2.2 (updV u i v k.2.1) (updV u i v k.1) := fun v hv k hkm hkl => by
      by_cases hki : k.1 = i
      · obtain ⟨o2, d2, ho2, _, _, ⟨_, _, e, he, hbi, heo⟩, _⟩ := hlk k hkm
        rw [hki, ho'] at ho2
        obtain rfl := Option.some.inj ho2
        have hjl : listed.getD k.2.1 false = true := by rw [← heo]; exact hall e (by simpa using he) hbi
        have hne : k.2.1 ≠ i := fun e2 => hfi (by rw [← e2]; exact hjl)
        refine ⟨getD_set_true hjl, ?_⟩
        unfold updV
        rw [if_neg hne, if_pos hki]
        exact hv k hkm hki
      · rw [getD_set_ne false (fun e => hki e.symm)] at hkl
        obtain ⟨hjl, hr⟩ := hL k hkm hkl
        have hne : k.2.1 ≠ i := fun e2 => hfi (by rw [← e2]; exact hjl)
        refine ⟨getD_set_true hjl, ?_⟩
        unfold updV
        rw [if_neg hne, if_neg hki]
        exact hr
    have hput : ∀ (v : Value) (w2 : World), C w2 → R w' w2 → F.getD i (fun _ _ => True) v w2 → (∀ k ∈ lk, k.1 = i → k.2.2 (u k.2.1) v) → ((listed.setIfInBounds i true).getD s false = true → (∀ e ∈ os.after.toList, Region.binds .any e = true → (listed.setIfInBounds i true).getD e.on false = true) ∧ D (updV u i v) w2) → (listed.setIfInBounds i true).size = l.length ∧ ∃ u', (fPut (l.take n) 0 a u).put o.dst v = fPut (l.take n) 0 a u' ∧ C w2 ∧ (∀ j, j < n → (listed.setIfInBounds i true).getD j false = true → F.getD j (fun _ _ => True) (u' j) w2) ∧ (∀ k ∈ lk, (listed.setIfInBounds i true).getD k.1 false = true → (listed.setIfInBounds i true).getD k.2.1 false = true ∧ k.2.2 (u' k.2.1) (u' k.1)) ∧ ((listed.setIfInBounds i true).getD s false = true → (∀ e ∈ os.after.toList, Region.binds .any e = true → (listed.setIfInBounds i true).getD e.on false = true) ∧ D u' w2) := fun v w2 hc2 hr hv hlv hTv => by
      refine ⟨by simpa using hs, updV u i v, hup v, hc2, fun j hjn hj => ?_, hold v hlv, hTv⟩
      by_cases hji : j = i
      · subst hji; unfold updV; rw [if_pos rfl]; exact hv
      · rw [getD_set_ne false (fun e => hji e.symm)] at hj
        unfold updV; rw [if_neg hji]
        have hjk := hk j hjn hj
        have hjl : j < F.length := by omega
        rw [List.getD_eq_getElem?_getD, List.getElem?_eq_getElem hjl] at hjk ⊢
        exact hmono _ (List.getElem_mem hjl) _ _ _ hc2 hr hjk
    unfold wpOp
    rw [ho]
    simp only
    split at hst
    · rename_i hw
      rw [if_pos hw]
      refine .inl (wp_endQ (E := fun a' w' => ∀ u, a' = fPut (l.take n) 0 a u → allL lk u → D u w' → wpList P l.toArray Q (l.drop n) a' w') ?_)
      -- what is known of the store, once it has come up, stays behind an operation that leaves the world
      have hkeep : i ≠ s → ∀ v, (listed.setIfInBounds i true).getD s false = true → (∀ e ∈ os.after.toList, Region.binds .any e = true → (listed.setIfInBounds i true).getD e.on false = true) ∧ D (updV u i v) w' := fun his v h1 => by
        rw [getD_set_ne false his] at h1
        obtain ⟨h2, h3⟩ := hT h1
        refine ⟨fun e he hbi => getD_set_true (h2 e he hbi), hDu u _ _ (fun e he hbi => ?_) h3⟩
        unfold updV
        rw [if_neg (fun e2 => hfi (by rw [← e2]; exact h2 e he hbi))]
      have hnol : i ≠ s → listed.getD s false ≠ true → ∀ v w2, (listed.setIfInBounds i true).getD s false = true → (∀ e ∈ os.after.toList, Region.binds .any e = true → (listed.setIfInBounds i true).getD e.on false = true) ∧ D (updV u i v) w2 := fun his hsl v w2 h1 => by
        rw [getD_set_ne false his] at h1
        exact absurd h1 hsl
      have h0 := hst (fun a' w2 => ∃ v, a' = (fPut (l.take n) 0 a u).put o.dst v ∧ C w2 ∧ R w' w2 ∧ F.getD i (fun _ _ => True) v w2) (fun v w2 h1 h2 h3 => ⟨v, rfl, h1, h2, h3⟩)
      by_cases his : i = s
      · subst his
        obtain ⟨hs1, _, hs3, hs4⟩ := hso
        rw [ho'] at hs1
        obtain rfl := Option.some.inj hs1
        refine wp_skip (G := fun w2 => (execOp (fPut (l.take n) 0 a u).eval o).run P w' = .ok .skip w2) h0 (fun nx w2 hrun => ?_) (fun w2 ⟨v', e, h1, h2, h3⟩ hg => ?_)
        · obtain rfl := hs4 u w' hc nx w2 hrun
          exact ⟨rfl, hrun⟩
        · rw [e]
          refine hput v' w2 h1 h2 h3 (fun k hkm hki => absurd hki (hs3 k hkm)) fun _ => ⟨fun e2 he hbi => getD_set_true (hall e2 (by simpa using he) hbi), hDu u _ _ (fun e2 he hbi => ?_) (hD u w' hc (factsOf_mk F _ u w' fun e he hbi => hk _ (by
            have := backB_at (l.take n) 0 i o hb hot e (by simpa using he) hbi
            omega) (hall e (by simpa using he) hbi)) w2 hg)⟩
          unfold updV
          rw [if_neg (fun e3 => hfi (by rw [← e3]; exact hall e2 (by simpa using he) hbi))]
      · by_cases hsl : listed.getD s false = true
        · rcases hlate i o hin ho' his with ⟨e, he, hbi, heo⟩ | ⟨d, hd2, hsz2, hrun0⟩
          · exact absurd (by rw [← heo]; exact (hT hsl).1 e he hbi) hfi
          · refine wp_link (G := fun v w2 => w2 = w' ∧ ∀ k ∈ lk, k.1 = i → k.2.2 (u k.2.1) v) h0 (fun nx w2 hrun => ?_) (fun v w2 ⟨v', e, h1, h2, h3⟩ ⟨hw2, hg⟩ => ?_)
            · obtain ⟨⟨v, rfl⟩, hw2⟩ := hrun0 u w' hc nx w2 hrun
              refine ⟨v, rfl, hw2, fun k hkm hki => ?_⟩
              obtain ⟨_, _, ho4, _, _, _, hr4⟩ := hlk k hkm
              rw [hki, ho'] at ho4
              obtain rfl := Option.some.inj ho4
              obtain ⟨v2, e2, h2⟩ := hr4 u w' hc _ w2 hrun
              cases e2
              exact h2
            · rw [hd2] at e
              have := put_inj (by rw [fPut_size]; exact hsz2) e
              subst this
              subst hw2
              exact hput v _ h1 h2 h3 hg (hkeep his v)
        · by_cases hex : ∃ k ∈ lk, k.1 = i
          · obtain ⟨k0, hk0, hki0⟩ := hex
            obtain ⟨o2, d2, ho2, hd2, hsz2, _, _⟩ := hlk k0 hk0
            rw [hki0, ho'] at ho2
            obtain rfl := Option.some.inj ho2
            refine wp_link (G := fun v _ => ∀ k ∈ lk, k.1 = i → k.2.2 (u k.2.1) v) h0 (fun nx w2 hrun => ?_) (fun v w2 ⟨v', e, h1, h2, h3⟩ hg => ?_)
            · obtain ⟨_, _, ho3, _, _, _, hr3⟩ := hlk k0 hk0
              rw [hki0, ho'] at ho3
              obtain rfl := Option.some.inj ho3
              obtain ⟨v, rfl, _⟩ := hr3 u w' hc nx w2 hrun
              refine ⟨v, rfl, fun k hkm hki => ?_⟩
              obtain ⟨_, _, ho4, _, _, _, hr4⟩ := hlk k hkm
              rw [hki, ho'] at ho4
              obtain rfl := Option.some.inj ho4
              obtain ⟨v2, e2, h2⟩ := hr4 u w' hc _ w2 hrun
              cases e2
              exact h2
            · rw [hd2] at e
              have := put_inj (by rw [fPut_size]; exact hsz2) e
              subst this
              exact hput v w2 h1 h2 h3 hg (hnol his hsl v w2)
          · exact hst _ (fun v w2 h1 h2 h3 => hput v w2 h1 h2 h3 (fun k hkm hki => absurd ⟨k, hkm, hki⟩ hex) (hnol his hsl v w2))
    · rename_i hw
      rw [if_neg hw]
      have hno : ∀ k ∈ lk, k.1 = i → k.2.2 (u k.2.1) undef := fun k hkm hki => by
        obtain ⟨o2, _, ho2, _, _, ⟨_, hg2, _⟩, _⟩ := hlk k hkm
        rw [hki, ho'] at ho2
        obtain rfl := Option.some.inj ho2
        exact absurd (by simp [Region.wanted, hg2]) hw
      have his : i ≠ s := fun e => by
        subst e
        obtain ⟨hs1, _⟩ := hso
        rw [ho'] at hs1
        obtain rfl := Option.some.inj hs1
        exact hw (by simp [Region.wanted, hsg])
      refine ⟨by simpa using hs, updV u i undef, hup undef, hc, fun j hjn hj => ?_, hold undef hno, fun h1 => (by
        rw [getD_set_ne false his] at h1
        obtain ⟨h2, h3⟩ := hT h1
        refine ⟨fun e he hbi => getD_set_true (h2 e he hbi), hDu u _ _ (fun e he hbi => ?_) h3⟩
        unfold updV
        rw [if_neg (fun e2 => hfi (by rw [← e2]; exact h2 e he hbi))])⟩
      by_cases hji : j = i
      · subst hji; unfold updV; rw [if_pos rfl]; exact hst
      · rw [getD_set_ne false (fun e => hji e.symm)] at hj
        unfold updV; rw [if_neg hji]
        exact hk j hjn hj
  · rintro a' w' ⟨_, u, rfl, hc, hk, hL, hT⟩
    refine hend u w' hc (allOf_mk F 0 u w' fun i hi => ?_) u rfl (fun k hkm => ?_) (hT ?_).2
    · rw [Nat.zero_add]
      refine hk i (by omega) ?_
      have hin : i < n := by omega
      simp [Array.getD_eq_getD_getElem?, List.getElem?_append, hin]
    · obtain ⟨_, _, _, _, _, ⟨hkn, _⟩, _⟩ := hlk k hkm
      refine (hL k hkm ?_).2
      simp [Array.getD_eq_getD_getElem?, List.getElem?_append, hkn]
    · have hsn := hso.2.1
      simp [Array.getD_eq_getD_getElem?, List.getElem?_append, hsn]
  · refine ⟨by simp, fun i => match (l.take n)[i]? with | some o => (match o.dst with | some d => a.tmps.getD d undef | none => undef) | none => undef, ?_, hC, fun i _ hi => ?_, fun k _ hi => ?_, fun hi => ?_⟩
    · refine (fPut_self (l.take n) 0 a _ fun i o d hi hd' => ?_).symm
      simp only [Nat.zero_add, hi, hd']
    · rw [getD_replicate_false] at hi; cases hi
    · rw [getD_replicate_false] at hi; cases hi
    · rw [getD_replicate_false] at hi; cases hi
  · simp [List.count_replicate]
end
end Go.Proofs.YtoddpmdjjgnpgaaGreatDoor
