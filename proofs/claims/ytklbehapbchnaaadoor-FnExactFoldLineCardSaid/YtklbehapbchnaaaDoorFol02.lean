/-
  Append of several elements, or of none.
-/
import Derived.Test.YtklbehapbchnaaaDoorFol01
import Derived.Orders
import Derived.Deep.OwnRows
import Derived.Deep.AppendLies
import Derived.Maps.AppendAt
import Derived.Laws.OwnMore
namespace Go.Proofs.YtklbehapbchnaaaDoor
open Go.RowKit
set_option linter.unusedVariables false
section
variable {P : Program} {ops : Array Oper} {Q : Exit → Act → World → Prop}
/-- an invariant over what has come up serves whatever order -/
theorem wpAny_inv {md : Region.Mode} (I : Array Bool → Act → World → Prop)
    (hstep : ∀ listed a w i, I listed a w → i ∈ Region.ready md ops listed → wpOp P ops Q i (fun a' w' => I (listed.setIfInBounds i true) a' w') a w)
    (hend : ∀ listed a w, I listed a w → Region.ready md ops listed = [] → Q .normal a w) :
    ∀ (fuel : Nat) (listed : Array Bool) (a : Act) (w : World), I listed a w → (∀ listed', listed'.size = listed.size → (∀ i, listed.getD i false = true → listed'.getD i false = true) → listed.toList.count true + fuel ≤ listed'.toList.count true → Region.ready md ops listed' = []) → wpAny P md ops Q fuel listed a w
  | 0, listed, a, w, h, hf => by
    have h0 := hf listed rfl (fun _ h => h) (Nat.le_refl _)
    exact ⟨h0, hend _ _ _ h h0⟩
  | fuel + 1, listed, a, w, h, hf => by
    refine ⟨fun h0 => hend _ _ _ h h0, fun i hi => ?_⟩
    have hm := (mem_ready.1 hi).1
    have hlt : i < listed.size := by
      rcases Nat.lt_or_ge i listed.size with h' | h'
      · exact h'
      · simp [Array.getElem?_eq_none h'] at hm
    have hfi : listed[i] = false := by simpa [hlt] using hm
    refine wpOp_mono (fun a' w' h' => wpAny_inv I hstep hend fuel _ a' w' h' fun listed' hs hl hc => hf listed' (by simpa using hs) (fun j hj => hl j (getD_set_true hj)) ?_) (hstep _ _ _ _ h hi)
    have hcnt : (listed.setIfInBounds i true).toList.count true = listed.toList.count true + 1 := by
      rw [Array.toList_setIfInBounds, List.set_eq_take_append_cons_drop, if_pos (by simpa using hlt)]
      conv => rhs; rw [← List.take_append_drop i listed.toList, List.drop_eq_getElem_cons (by simpa using hlt)]
      rw [List.count_append, List.count_append, List.count_cons, List.count_cons]
      have e : listed.toList[i]'(by simpa using hlt) = false := by simpa using hfi
      rw [e]
      simp
      omega
    omega
/-- the frame, once the operations from number k on have yielded u -/
def fPut : List Oper → Nat → Act → (Nat → Value) → Act
  | [], _, a, _ => a
  | o :: l, k, a, u => fPut l (k + 1) (a.put o.dst (u k)) u
def updV (u : Nat → Value) (i : Nat) (v : Value) : Nat → Value := fun j => if j = i then v else u j
theorem fPut_congr : ∀ (l : List Oper) (k : Nat) (a : Act) (u u' : Nat → Value), (∀ j, k ≤ j → u j = u' j) → fPut l k a u = fPut l k a u'
  | [], _, _, _, _, _ => rfl
  | o :: l, k, a, u, u', h => by
    unfold fPut
    rw [h k (Nat.le_refl _)]
    exact fPut_congr l (k + 1) _ u u' (fun j hj => h j (by omega))
theorem put_put (a : Act) (d : Tmp) (u v : Value) : (a.put (some d) u).put (some d) v = a.put (some d) v := by
  unfold Act.put
  simp
theorem put_self (a : Act) (d : Tmp) : a.put (some d) (a.tmps.getD d undef) = a := by
  have h : a.tmps.setIfInBounds d (a.tmps.getD d undef) = a.tmps := by
    apply Array.ext_getElem?
    intro i
    rw [Array.getElem?_setIfInBounds]
    split
    · rename_i h
      subst h
      split
      · rename_i h; simp [h]
      · rename_i h; simp [h]
    · rfl
  show ({ a with tmps := a.tmps.setIfInBounds d (a.tmps.getD d undef) } : Act) = a
  rw [h]
theorem fPut_put : ∀ (l : List Oper) (k : Nat) (a : Act) (u : Nat → Value) (d : Tmp) (v : Value), (∀ o ∈ l, o.dst ≠ some d) → fPut l k (a.put (some d) v) u = (fPut l k a u).put (some d) v
  | [], _, _, _, _, _, _ => rfl
  | o :: l, k, a, u, d, v, h => by
    have h0 := h o List.mem_cons_self
    unfold fPut
    rw [Act.put_comm a v (u k) (x := some d) (y := o.dst) (fun d' hd => by cases hd; exact h0)]
    exact fPut_put l (k + 1) _ u d v (fun o' ho => h o' (List.mem_cons_of_mem _ ho))
/-- no two operations have one destination -/
def dstsB : List Oper → Bool
  | [] => true
  | o :: l => (match o.dst with | none => true | some d => l.all fun x => x.dst != some d) && dstsB l
theorem fPut_upd : ∀ (l : List Oper) (k : Nat) (a : Act) (u : Nat → Value) (i : Nat) (o : Oper) (v : Value), dstsB l = true → l[i]? = some o → (fPut l k a u).put o.dst v = fPut l k a (updV u (k + i) v)
  | [], _, _, _, _, _, _, _, h => by simp at h
  | o' :: l, k, a, u, 0, o, v, hd, h => by
    simp only [List.getElem?_cons_zero, Option.some.injEq] at h
    subst h
    simp only [dstsB, Bool.and_eq_true] at hd
    unfold fPut
    have e : updV u (k + 0) v k = v := by simp [updV]
    rw [e]
    have hc : ∀ b, fPut l (k + 1) b u = fPut l (k + 1) b (updV u (k + 0) v) := fun b => fPut_congr l (k + 1) b _ _ (fun j hj => by unfold updV; rw [if_neg (by omega)])
    rw [← hc]
    cases hds : o'.dst with
    | none => rfl
    | some d =>
      have h1 := hd.1
      rw [hds] at h1
      rw [← fPut_put l (k + 1) _ u d v (fun x hx => by have := List.all_eq_true.1 h1 x hx; simpa using this), put_put]
  | o' :: l, k, a, u, i + 1, o, v, hd, h => by
    simp only [List.getElem?_cons_succ] at h
    simp only [dstsB, Bool.and_eq_true] at hd
    unfold fPut
    have e : updV u (k + (i + 1)) v k = u k := by unfold updV; rw [if_neg (by omega)]
    rw [e, fPut_upd l (k + 1) _ u i o v hd.2 h, show k + 1 + i = k + (i + 1) by omega]
theorem fPut_self : ∀ (l : List Oper) (k : Nat) (a : Act) (u : Nat → Value), (∀ i o d, l[i]? = some o → o.dst = some d → u (k + i) = a.tmps.getD d undef) → fPut l k a u = a
  | [], _, _, _, _ => rfl
  | o :: l, k, a, u, h => by
    unfold fPut
    have e : a.put o.dst (u k) = a := by
      cases hd : o.dst with
      | none => rfl
      | some d => rw [show u k = a.tmps.getD d undef from h 0 o d rfl hd, put_self]
    rw [e]
    exact fPut_self l (k + 1) a u (fun i o' d hi hd => by rw [show k + 1 + i = k + (i + 1) by omega]; exact h (i + 1) o' d hi hd)
/-- what is known of a value -/
abbrev Vp := Value → World → Prop
/-- what is known of the values on which an operation waits -/
def factsOf (acc : List Vp) : List Edge → (Nat → Value) → World → Prop
  | [], _, _ => True
  | e :: l, u, w => (Region.binds .any e = true → acc.getD e.on (fun _ _ => True) (u e.on) w) ∧ factsOf acc l u w
/-- what is known of all values from number k on -/
def allOf : List Vp → Nat → (Nat → Value) → World → Prop
  | [], _, _, _ => True
  | V :: l, k, u, w => V (u k) w ∧ allOf l (k + 1) u w
/-- one operation: whatever world of the class it finds, its value is one of which V is known, and the world behind it is one of the class -/
def stepOf (P : Program) (Q : Exit → Act → World → Prop) (ops : List Oper) (F : (Nat → Value) → Act) (C : World → Prop) (R : World → World → Prop) (acc : List Vp) (o : Oper) (V : Vp) : Prop :=
  ∀ u w, C w → factsOf acc o.after.toList u w →
    if Region.wanted o (yielded ops.toArray (F u).tmps) = true then
      ∀ K : Act → World → Prop, (∀ v w', C w' → R w w' → V v w' → K ((F u).put o.dst v) w') → o.wp P (F u) w K Q
    else V undef w
/-- the operations one by one -/
def eachOf (P : Program) (Q : Exit → Act → World → Prop) (ops : List Oper) (F : (Nat → Value) → Act) (C : World → Prop) (R : World → World → Prop) : List Oper → List Vp → Prop
  | [], acc => ∀ u w, C w → allOf acc 0 u w → Q .normal (F u) w
  | o :: l, acc => ∃ V : Vp, (∀ v w w', C w' → R w w' → V v w → V v w') ∧ stepOf P Q ops F C R acc o V ∧ eachOf P Q ops F C R l (acc ++ [V])
/-- each operation waits for earlier ones alone -/
def backB : List Oper → Nat → Bool
  | [], _ => true
  | o :: l, k => o.after.all (fun e => !Region.binds .any e || decide (e.on < k)) && backB l (k + 1)
theorem backB_at : ∀ (l : List Oper) (k i : Nat) (o : Oper), backB l k = true → l[i]? = some o → ∀ e ∈ o.after, Region.binds .any e = true → e.on < k + i
  | [], _, _, _, _, h => by simp at h
  | o' :: l, k, 0, o, hb, h => by
    simp only [List.getElem?_cons_zero, Option.some.injEq] at h
    subst h
    simp only [backB, Bool.and_eq_true, Array.all_eq_true_iff_forall_mem] at hb
    intro e he hbi
    have := hb.1 e he
    simpa [hbi] using this
  | o' :: l, k, i + 1, o, hb, h => by
    simp only [List.getElem?_cons_succ] at h
    simp only [backB, Bool.and_eq_true] at hb
    have := backB_at l (k + 1) i o hb.2 h
    intro e he hbi
    have := this e he hbi
    omega
theorem facts_mono {acc acc' : List Vp} {n : Nat} (hp : ∀ j, j < n → acc'.getD j (fun _ _ => True) = acc.getD j (fun _ _ => True)) : ∀ {l : List Edge} {u : Nat → Value} {w : World}, (∀ e ∈ l, Region.binds .any e = true → e.on < n) → factsOf acc' l u w → factsOf acc l u w
  | [], _, _, _, _ => trivial
  | e :: l, u, w, he, h => ⟨fun hb => by rw [← hp _ (he e List.mem_cons_self hb)]; exact h.1 hb, facts_mono hp (fun e' h' => he e' (List.mem_cons_of_mem _ h')) h.2⟩
theorem each_out {Fr : (Nat → Value) → Act} {C : World → Prop} {R : World → World → Prop} {opsL : List Oper} : ∀ (l : List Oper) (acc : List Vp), backB l acc.length = true → (∀ V ∈ acc, ∀ v w w', C w' → R w w' → V v w → V v w') → eachOf P Q opsL Fr C R l acc →
    ∃ F : List Vp, (∀ j, j < acc.length → F.getD j (fun _ _ => True) = acc.getD j (fun _ _ => True)) ∧ F.length = acc.length + l.length ∧ (∀ V ∈ F, ∀ v w w', C w' → R w w' → V v w → V v w') ∧
      (∀ i o, l[i]? = some o → stepOf P Q opsL Fr C R F o (F.getD (acc.length + i) (fun _ _ => True))) ∧ ∀ u w, C w → allOf F 0 u w → Q .normal (Fr u) w
  | [], acc, _, hm, h => ⟨acc, fun _ _ => rfl, by simp, hm, fun i o h => by simp at h, h⟩
  | o :: l, acc, hb, hm, h => by
    obtain ⟨V, hV, hs, hr⟩ := h
    have hb' := hb
    simp only [backB, Bool.and_eq_true] at hb'
    obtain ⟨F, h1, h2, h3, h4, h5⟩ := each_out l (acc ++ [V]) (by rw [List.length_append]; exact hb'.2) (fun V' h' => by
      rcases List.mem_append.1 h' with h' | h'
      · exact hm V' h'
      · rw [List.mem_singleton.1 h']; exact hV) hr
    have hacc : ∀ j, j < acc.length → F.getD j (fun _ _ => True) = acc.getD j (fun _ _ => True) := fun j hj => by
      rw [h1 j (by rw [List.length_append]; omega)]
      rw [List.getD_eq_getElem?_getD, List.getD_eq_getElem?_getD, List.getElem?_append_left hj]
    refine ⟨F, hacc, by rw [h2, List.length_append]; simp; omega, h3, fun i o' hi => ?_, h5⟩
    cases i with
    | zero =>
      simp only [List.getElem?_cons_zero, Option.some.injEq] at hi
      subst hi
      have e : F.getD (acc.length + 0) (fun _ _ => True) = V := by
        rw [h1 _ (by rw [List.length_append]; simp)]
        simp
      rw [e]
      intro u w hc hf
      exact hs u w hc (facts_mono hacc (fun e' he hbi => by
        have := backB_at (o :: l) acc.length 0 o hb rfl e' (by simpa using he) hbi
        omega) hf)
    | succ i =>
      simp only [List.getElem?_cons_succ] at hi
      have := h4 i o' hi
      rw [List.length_append] at this
      rw [show acc.length + (i + 1) = acc.length + [V].length + i by simp; omega]
      exact this
theorem allOf_mk : ∀ (F : List Vp) (k : Nat) (u : Nat → Value) (w : World), (∀ i, i < F.length → F.getD i (fun _ _ => True) (u (k + i)) w) → allOf F k u w
  | [], _, _, _, _ => trivial
  | V :: l, k, u, w, h => ⟨by have := h 0 (by simp); simpa using this, allOf_mk l (k + 1) u w (fun i hi => by have := h (i + 1) (by simpa using hi); rw [show k + 1 + i = k + (i + 1) by omega]; simpa using this)⟩
theorem factsOf_mk (F : List Vp) : ∀ (l : List Edge) (u : Nat → Value) (w : World), (∀ e ∈ l, Region.binds .any e = true → F.getD e.on (fun _ _ => True) (u e.on) w) → factsOf F l u w
  | [], _, _, _ => trivial
  | e :: l, u, w, h => ⟨fun hb => h e List.mem_cons_self hb, factsOf_mk F l u w (fun e' he => h e' (List.mem_cons_of_mem _ he))⟩
/-- the walk of a region that draws its order -/
theorem region_each {id : Nat} {a : Act} {w : World} {l : List Oper} {Fr : (Nat → Value) → Act} (C : World → Prop) (R : World → World → Prop) (hF : ∀ u, fPut l 0 a u = Fr u) (hm : P.follows .mixedOrders = true) (hd : dstsB l = true) (hb : backB l 0 = true)
    (hC : C { w with drawn := w.drawn + 1 }) (h : eachOf P Q l Fr C R l []) : (Code.region id l.toArray true).wp P Q a w := by
  have hFr : Fr = fPut l 0 a := funext fun u => (hF u).symm
  subst hFr
  obtain ⟨F, _, hlen, hmono, hstep, hend⟩ := each_out l [] hb (fun V hV => by cases hV) h
  simp only [List.length_nil, Nat.zero_add] at hlen hstep
  refine wp_region_any hm ?_
  refine wpAny_inv (fun listed a' w' => listed.size = l.length ∧ ∃ u, a' = fPut l 0 a u ∧ C w' ∧ ∀ i, listed.getD i false = true → F.getD i (fun _ _ => True) (u i) w') ?_ ?_ _ _ _ _ ?_ ?_
  · rintro listed a' w' i ⟨hs, u, rfl, hc, hk⟩ hi
    obtain ⟨hun, o, ho, hall⟩ := mem_ready.1 hi
    have ho' : l[i]? = some o := by simpa using ho
    have hlt : i < listed.size := by rw [hs]; exact (List.getElem?_eq_some_iff.1 ho').1
    have hst := hstep i o ho' u w' hc (factsOf_mk F _ u w' fun e he hbi => hk _ (hall e (by simpa using he) hbi))
    have hput : ∀ (v : Value) (w2 : World), C w2 → R w' w2 → F.getD i (fun _ _ => True) v w2 → (listed.setIfInBounds i true).size = l.length ∧ ∃ u', (fPut l 0 a u).put o.dst v = fPut l 0 a u' ∧ C w2 ∧ ∀ j, (listed.setIfInBounds i true).getD j false = true → F.getD j (fun _ _ => True) (u' j) w2 := fun v w2 hc2 hr hv => by
      refine ⟨by simpa using hs, updV u i v, ?_, hc2, fun j hj => ?_⟩
      · have := fPut_upd l 0 a u i o v hd ho'
        rwa [Nat.zero_add] at this
      · by_cases hji : j = i
        · subst hji; unfold updV; rw [if_pos rfl]; exact hv
        · rw [getD_set_ne false (fun e => hji e.symm)] at hj
          unfold updV; rw [if_neg hji]
          have hjk := hk j hj
          by_cases hjl : j < F.length
          · rw [List.getD_eq_getElem?_getD, List.getElem?_eq_getElem hjl] at hjk ⊢
            exact hmono _ (List.getElem_mem hjl) _ _ _ hc2 hr hjk
          · rw [List.getD_eq_getElem?_getD, List.getElem?_eq_none (by omega)]
            trivial
    unfold wpOp
    rw [ho]
    simp only
    split at hst
    · rename_i hw
      rw [if_pos hw]
      exact .inl (hst _ hput)
    · rename_i hw
      rw [if_neg hw]
      have hk2 : ∀ j, (listed.setIfInBounds i true).getD j false = true → F.getD j (fun _ _ => True) (updV u i undef j) w' := fun j hj => by
        by_cases hji : j = i
        · subst hji; unfold updV; rw [if_pos rfl]; exact hst
        · rw [getD_set_ne false (fun e => hji e.symm)] at hj
          unfold updV; rw [if_neg hji]
          exact hk j hj
      have hup := fPut_upd l 0 a u i o undef hd ho'
      rw [Nat.zero_add] at hup
      exact ⟨by simpa using hs, updV u i undef, hup, hc, hk2⟩
  · rintro listed a' w' ⟨hs, u, rfl, hc, hk⟩ h0
    refine hend u w' hc (allOf_mk F 0 u w' fun i hi => ?_)
    rw [Nat.zero_add]
    refine hk i ?_
    -- all have come up: else the first that has not could
    refine Classical.byContradiction fun hn => ?_
    have key : ∀ n i, i < n → i < l.length → listed.getD i false ≠ true → False := fun n => by
      induction n with
      | zero => intro i hi; omega
      | succ n ih =>
        intro i hi hil hni
        have hmem : i ∈ Region.ready .any l.toArray listed := by
          refine mem_ready.2 ⟨?_, l[i], by simp [hil], fun e he hbi => ?_⟩
          · have : i < listed.size := by omega
            simp [this] at hni ⊢
            exact hni
          · refine Classical.byContradiction fun hne => ?_
            have := backB_at l 0 i l[i] hb (List.getElem?_eq_getElem hil) e he hbi
            exact ih e.on (by omega) (by omega) hne
        rw [h0] at hmem
        cases hmem
    exact key (i + 1) i (by omega) (by omega) hn
  · refine ⟨by simp, fun i => match l[i]? with | some o => (match o.dst with | some d => a.tmps.getD d undef | none => undef) | none => undef, ?_, hC, fun i hi => ?_⟩
    · refine (fPut_self l 0 a _ fun i o d hi hd' => ?_).symm
      simp [hi, hd']
    · simp [Array.getElem?_replicate] at hi
      split at hi <;> simp at hi
  · intro listed' hs _ hc
    have hs' : listed'.toList.length = l.length := by simpa using hs
    have hrep : (Array.replicate l.toArray.size false).toList.count true = 0 := by simp [List.count_replicate]
    rw [hrep, Nat.zero_add] at hc
    have hall : listed'.toList.count true = listed'.toList.length := Nat.le_antisymm List.count_le_length (by rw [hs']; simpa using hc)
    rw [List.count_eq_length] at hall
    apply List.eq_nil_iff_forall_not_mem.2
    intro j hj
    obtain ⟨h1, o, ho, _⟩ := mem_ready.1 hj
    have hjl : j < listed'.size := by
      have : j < l.toArray.size := (Array.getElem?_eq_some_iff.1 ho).1
      simp at this hs'
      omega
    have h2 := hall listed'[j] (by simp [Array.getElem_mem])
    simp [hjl] at h1
    rw [h1] at h2
    cases h2
section
variable {Fr : (Nat → Value) → Act} {C : World → Prop} {R : World → World → Prop} {opsL l : List Oper} {acc : List Vp} {o : Oper}
/-- an operation that hands back a value, in a world of the class -/
theorem each_do (V : Vp) (hV : ∀ v w w', C w' → R w w' → V v w → V v w') (hg : o.guard = none)
    (h : ∀ u w, C w → factsOf acc o.after.toList u w → ∃ v w', (execOp (Fr u).eval o).run P w = .ok (.value v) w' ∧ C w' ∧ R w w' ∧ V v w') (hn : eachOf P Q opsL Fr C R l (acc ++ [V])) : eachOf P Q opsL Fr C R (o :: l) acc := by
  refine ⟨V, hV, fun u w hc hf => ?_, hn⟩
  have hw : Region.wanted o (yielded opsL.toArray (Fr u).tmps) = true := by simp [Region.wanted, hg]
  rw [if_pos hw]
  intro K hK
  obtain ⟨v, w', h1, h2, h3, h4⟩ := h u w hc hf
  unfold Oper.wp
  rw [h1]
  exact hK v w' h2 h3 h4
/-- an operation that hands back one value and leaves the world -/
theorem each_read {c : Value} (hR : ∀ w, R w w) (hg : o.guard = none) (h : ∀ u w, C w → factsOf acc o.after.toList u w → (execOp (Fr u).eval o).run P w = .ok (.value c) w)
    (hn : eachOf P Q opsL Fr C R l (acc ++ [fun v _ => v = c])) : eachOf P Q opsL Fr C R (o :: l) acc :=
  each_do (fun v _ => v = c) (fun _ _ _ _ _ h => h) hg (fun u w hc hf => ⟨c, w, h u w hc hf, hc, hR w, rfl⟩) hn
/-- a call of a Go function -/
theorem each_call (V : Vp) (hV : ∀ v w w', C w' → R w w' → V v w → V v w') (hg : o.guard = none)
    (h : ∀ u w, C w → factsOf acc o.after.toList u w → ∃ f args, (execOp (Fr u).eval o).run P w = .ok (.enter f args) w ∧ Calls P f args w fun e w' => ∃ v, e = .returned v ∧ C w' ∧ R w w' ∧ V v w') (hn : eachOf P Q opsL Fr C R l (acc ++ [V])) : eachOf P Q opsL Fr C R (o :: l) acc := by
  refine ⟨V, hV, fun u w hc hf => ?_, hn⟩
  have hw : Region.wanted o (yielded opsL.toArray (Fr u).tmps) = true := by simp [Region.wanted, hg]
  rw [if_pos hw]
  intro K hK
  obtain ⟨f, args, h1, h2⟩ := h u w hc hf
  unfold Oper.wp
  rw [h1]
  exact h2.mono fun e w' ⟨v, he, h3, h4, h5⟩ => by subst he; exact hK v w' h3 h4 h5
/-- a call that hands back one value -/
theorem each_callR {c : Value} (hg : o.guard = none)
    (h : ∀ u w, C w → factsOf acc o.after.toList u w → ∃ f args, (execOp (Fr u).eval o).run P w = .ok (.enter f args) w ∧ Calls P f args w fun e w' => e = .returned c ∧ C w' ∧ R w w') (hn : eachOf P Q opsL Fr C R l (acc ++ [fun v _ => v = c])) : eachOf P Q opsL Fr C R (o :: l) acc :=
  each_call (fun v _ => v = c) (fun _ _ _ _ _ h => h) hg (fun u w hc hf => by
    obtain ⟨f, args, h1, h2⟩ := h u w hc hf
    exact ⟨f, args, h1, h2.mono fun e w' ⟨he, h3, h4⟩ => ⟨c, he, h3, h4, rfl⟩⟩) hn
/-- a guard's answer, from the value of the operation that it names -/
theorem wanted_at {ops : List Oper} {tmps : Array Value} {o : Oper} {j d : Nat} {b c : Bool} {v : Value} (hg : o.guard = some (j, b)) (hd : (ops[j]?).bind (·.dst) = some d) (ht : tmps[d]? = some v) (hv : v = .bool c) {r : Bool} (hr : (c == b) = r) : Region.wanted o (yielded ops.toArray tmps) = r := by
  subst hv
  have h1 : (ops.toArray[j]?).bind (·.dst) = some d := by simpa using hd
  have h2 : yielded ops.toArray tmps j = some c := by
    unfold yielded
    rw [h1]
    show (match tmps[d]? with | some (.bool b) => some b | _ => none) = some c
    rw [ht]
  rw [← hr]; simp [Region.wanted, hg, h2]
/-- an operation whose guard is not met -/
theorem each_off (h : ∀ u w, C w → factsOf acc o.after.toList u w → Region.wanted o (yielded opsL.toArray (Fr u).tmps) = false)
    (hn : eachOf P Q opsL Fr C R l (acc ++ [fun v _ => v = undef])) : eachOf P Q opsL Fr C R (o :: l) acc :=
  ⟨_, fun _ _ _ _ _ h => h, fun u w hc hf => by rw [if_neg (by rw [h u w hc hf]; simp)], hn⟩
/-- a guarded operation that hands back one value and leaves the world -/
theorem each_readG {c : Value} (hR : ∀ w, R w w) (h : ∀ u w, C w → factsOf acc o.after.toList u w → Region.wanted o (yielded opsL.toArray (Fr u).tmps) = true ∧ (execOp (Fr u).eval o).run P w = .ok (.value c) w)
    (hn : eachOf P Q opsL Fr C R l (acc ++ [fun v _ => v = c])) : eachOf P Q opsL Fr C R (o :: l) acc := by
  refine ⟨fun v _ => v = c, fun _ _ _ _ _ h => h, fun u w hc hf => ?_, hn⟩
  obtain ⟨hw, h1⟩ := h u w hc hf
  rw [if_pos hw]
  intro K hK
  unfold Oper.wp
  rw [h1]
  exact hK c w hc (hR w) rfl
/-- a guarded call of a Go function -/
theorem each_callG (V : Vp) (hV : ∀ v w w', C w' → R w w' → V v w → V v w')
    (h : ∀ u w, C w → factsOf acc o.after.toList u w → Region.wanted o (yielded opsL.toArray (Fr u).tmps) = true ∧ ∃ f args, (execOp (Fr u).eval o).run P w = .ok (.enter f args) w ∧ Calls P f args w fun e w' => ∃ v, e = .returned v ∧ C w' ∧ R w w' ∧ V v w') (hn : eachOf P Q opsL Fr C R l (acc ++ [V])) : eachOf P Q opsL Fr C R (o :: l) acc := by
  refine ⟨V, hV, fun u w hc hf => ?_, hn⟩
  obtain ⟨hw, f, args, h1, h2⟩ := h u w hc hf
  rw [if_pos hw]
  intro K hK
  unfold Oper.wp
  rw [h1]
  exact h2.mono fun e w' ⟨v, he, h3, h4, h5⟩ => by subst he; exact hK v w' h3 h4 h5
theorem each_callRG {c : Value}
    (h : ∀ u w, C w → factsOf acc o.after.toList u w → Region.wanted o (yielded opsL.toArray (Fr u).tmps) = true ∧ ∃ f args, (execOp (Fr u).eval o).run P w = .ok (.enter f args) w ∧ Calls P f args w fun e w' => e = .returned c ∧ C w' ∧ R w w') (hn : eachOf P Q opsL Fr C R l (acc ++ [fun v _ => v = c])) : eachOf P Q opsL Fr C R (o :: l) acc :=
  each_callG (fun v _ => v = c) (fun _ _ _ _ _ h => h) (fun u w hc hf => by
    obtain ⟨hw, f, args, h1, h2⟩ := h u w hc hf
    exact ⟨hw, f, args, h1, h2.mono fun e w' ⟨he, h3, h4⟩ => ⟨c, he, h3, h4, rfl⟩⟩) hn
end
end
end Go.Proofs.YtklbehapbchnaaaDoor
namespace Go.Proofs.YtklbehapbchnaaaDoor
open Go.RowKit
set_option linter.unusedVariables false
/-- what a call hands back that makes a slice: n elements, the cells xs, in memory of its own -/
def RetSl (T : TypeId) (size : Nat) (n : Nat) (xs : List Value) (w : World) (e : Ending) (w' : World) : Prop :=
  ∃ a cap, e = .returned (.slice a n cap) ∧ w'.ownsRow w.heap.size T size (.slice a n cap) n xs ∧ Below w.heap.size w w'
theorem owns_cells {w : World} {base : Nat} {T : TypeId} {size : Nat} {a : Option Addr} {n m cap : Nat} {xs : List Value} (h : w.ownsRow base T size (.slice a m cap) n xs) : CellsIn w a xs := by
  rcases h.2 with ⟨hv, h0⟩ | ⟨g, cap', cur, hv, hb, hg, hn, hc, hs, ht⟩
  · left
    have := h.1
    rw [h0] at this
    simpa using this
  · right
    simp only [Value.slice.injEq] at hv
    refine ⟨g, 0, hv.1, fun i hi => ?_⟩
    have := cell_of_row w g i cur T (0, 0) hg
    rw [Nat.zero_add, this]
    have h2 : xs[i]? = some xs[i] := List.getElem?_eq_getElem hi
    rw [← h2, ← ht, List.getElem?_take]
    have h1 := h.1
    rw [if_pos (by omega)]
    simp
theorem owns_ints {w : World} {base : Nat} {T : TypeId} {size : Nat} {a : Option Addr} {n m cap : Nat} {l : List Int} (h : w.ownsRow base T size (.slice a m cap) n (l.map (Value.int .i64))) : IntsIn w a l := owns_cells h
theorem owns_later {w w' : World} {base : Nat} {T : TypeId} {size : Nat} {v : Value} {n : Nat} {xs : List Value} (h : w.ownsRow base T size v n xs) (hb : Below w.heap.size w w') : w'.ownsRow base T size v n xs :=
  h.kept (row := none) ⟨hb.os, hb.tape, hb.output, hb.size, fun k hk _ => hb.block k hk⟩ (by cases h : v.ownBlock <;> simp)
theorem owns_mono {w : World} {base base' : Nat} {T : TypeId} {size : Nat} {v : Value} {n : Nat} {xs : List Value} (h : w.ownsRow base T size v n xs) (hb : base' ≤ base) : w.ownsRow base' T size v n xs := by
  refine ⟨h.1, ?_⟩
  rcases h.2 with h' | ⟨g, cap', cur, hv, hb', r⟩
  · exact .inl h'
  · exact .inr ⟨g, cap', cur, hv, by omega, r⟩
theorem fill_step {xs tgt : List Value} {j : Nat} (hl : xs.length = tgt.length) (h : xs.take j = tgt.take j) (hj : j < tgt.length) : (xs.set j tgt[j]).take (j + 1) = tgt.take (j + 1) := by
  rw [List.take_succ_eq_append_getElem (by simpa using by omega), List.take_succ_eq_append_getElem hj, List.take_set_of_le (Nat.le_refl _), h]
  simp
theorem fill_done {xs tgt : List Value} {j : Nat} (hl : xs.length = tgt.length) (h : xs.take j = tgt.take j) (hj : ¬ j < tgt.length) : xs = tgt := by
  rwa [List.take_of_length_le (by omega), List.take_of_length_le (by omega)] at h
/-- a row that is being filled -/
def Filling (w wr : World) (T : TypeId) (g n : Nat) (tgt : List Value) (j : Nat) : Prop :=
  ∃ xs, wr.ownsRow g T 1 (.slice (some ⟨g, 0, none⟩) n n) n xs ∧ xs.take j = tgt.take j ∧ Below w.heap.size w wr ∧ w.heap.size ≤ g ∧ tgt.length = n
theorem Filling.cell {w wr : World} {T : TypeId} {g n : Nat} {tgt : List Value} {j : Nat} (h : Filling w wr T g n tgt j) (hj : j < n) : ∃ v, wr.cell? ⟨g, j, none⟩ = some v := by
  obtain ⟨xs, ho, ht, hb, hg, hl⟩ := h
  have := ho.cellAt j (by omega)
  have h1 := ho.1
  exact ⟨xs[j]'(by omega), by rw [this, List.getElem?_eq_getElem]⟩
theorem Filling.frozen {w wr : World} {T : TypeId} {g n : Nat} {tgt : List Value} {j : Nat} (h : Filling w wr T g n tgt j) (i : Nat) : wr.frozen? ⟨g, i, none⟩ = false := by
  obtain ⟨xs, ho, ht, hb, hg, hl⟩ := h
  exact ho.frozenAt i
theorem Filling.store {w wr : World} {T : TypeId} {g n : Nat} {tgt : List Value} {j : Nat} (h : Filling w wr T g n tgt j) (hj : j < n) {u : Value} (hu : tgt[j]? = some u) : Filling w (wr.setCell ⟨g, j, none⟩ u) T g n tgt (j + 1) := by
  obtain ⟨xs, ho, ht, hb, hg, hl⟩ := h
  have h1 := ho.1
  have hu' : tgt[j]'(by omega) = u := by rw [List.getElem?_eq_getElem (by omega)] at hu; simpa using hu
  refine ⟨xs.set j u, (ho.stored j u).1, ?_, hb.setCell hg u, hg, hl⟩
  rw [← hu']
  exact fill_step (by omega) ht (by omega)
theorem Filling.done {w wr : World} {T : TypeId} {g n : Nat} {tgt : List Value} {j : Nat} (h : Filling w wr T g n tgt j) (hj : ¬ j < n) : RetSl T 1 n tgt w (.returned (.slice (some ⟨g, 0, none⟩) n n)) wr := by
  obtain ⟨xs, ho, ht, hb, hg, hl⟩ := h
  have h1 := ho.1
  have : xs = tgt := fill_done (by omega) ht (by omega)
  subst this
  exact ⟨_, _, rfl, owns_mono ho hg, hb⟩
theorem Filling.start (w : World) (T : TypeId) (cs : Array Value) (n : Nat) (tgt : List Value) (hs : cs.size = n) (hn : n ≤ maxLen) (hl : tgt.length = n) : Filling w (w.alloc (.cells cs T)) T w.heap.size n tgt 0 :=
  ⟨cs.toList, World.ownsRow_lit w cs n (Nat.le_refl _) hn (by omega), by simp, (Below.refl _ _).alloc (Nat.le_refl _) _, Nat.le_refl _, hl⟩
theorem Tryd.infoInt : (Tryd.prog.info? 3).map (fun i => (i.zero, i.size, i.bytes)) = some (some (.int .i64 0), 1, 8) := by kernel_rfl
end Go.Proofs.YtklbehapbchnaaaDoor
namespace Go.Proofs.YtklbehapbchnaaaDoor
open Go.RowKit
set_option linter.unusedVariables false
/-- a slice of n elements (size cells each) that is being built since w -/
def Bld (T : TypeId) (size : Nat) (w wr : World) (v : Value) (n : Nat) (xs : List Value) : Prop := wr.ownsRow w.heap.size T size v n xs ∧ Below w.heap.size w wr
/-- the slice that a variable holds, whatever it is made of -/
theorem owns_form {w : World} {base : Nat} {T : TypeId} {size : Nat} {v : Value} {n : Nat} {xs : List Value} (h : w.ownsRow base T size v n xs) : ∃ a cap, v = .slice a n cap := by
  rcases h.2 with ⟨hv, h0⟩ | ⟨g, cap, cur, hv, _⟩
  · exact ⟨none, 0, by rw [hv, h0]⟩
  · exact ⟨_, _, hv⟩
theorem owns_block {w : World} {base : Nat} {T : TypeId} {size : Nat} {v : Value} {n : Nat} {xs : List Value} (h : w.ownsRow base T size v n xs) : ∀ k, v.ownBlock = some k → base ≤ k := fun k hk => (h.lt k hk).1
theorem Bld.ret {T : TypeId} {size : Nat} {w wr : World} {v : Value} {n : Nat} {xs : List Value} (h : Bld T size w wr v n xs) : RetSl T size n xs w (.returned v) wr := by
  obtain ⟨a, cap, rfl⟩ := owns_form h.1
  exact ⟨a, cap, rfl, h.1, h.2⟩
theorem Bld.later {T : TypeId} {size : Nat} {w wr wr' : World} {v : Value} {n : Nat} {xs : List Value} (h : Bld T size w wr v n xs) (hb : Below wr.heap.size wr wr') : Bld T size w wr' v n xs := ⟨owns_later h.1 hb, Below.now h.2 hb⟩
theorem Bld.empty (T : TypeId) (size : Nat) (w : World) : Bld T size w (w.alloc (.cells #[] T)) (.slice (some ⟨w.heap.size, 0, none⟩) 0 0) 0 [] :=
  ⟨World.ownsRow_made w #[] 0 (Nat.le_refl _) (by unfold maxLen; omega) (by simp), (Below.refl _ _).alloc (Nat.le_refl _) _⟩
theorem Bld.nil (T : TypeId) (size : Nat) {w wr : World} (h : Below w.heap.size w wr) : Bld T size w wr (.slice none 0 0) 0 [] := ⟨World.ownsRow_nil _ _ _ _, h⟩
theorem Bld.since {T : TypeId} {size : Nat} {w w0 wr : World} {v : Value} {n : Nat} {xs : List Value} (h : Bld T size w wr v n xs) (hb : Below w0.heap.size w0 w) : Bld T size w0 wr v n xs :=
  ⟨owns_mono h.1 hb.size, hb.trans (h.2.mono hb.size)⟩
section
variable {P : Program}
theorem wpList_app1 {ops : Array Oper} {rest : List Oper} {o : Oper} {a : Act} {Q : Exit → Act → World → Prop} {T tsl : TypeId} {z : Value} {size bytes : Nat} (hg : o.guard = none) (s x : Operand)
    (ho : o.op = .call { callee := .builtin .append, args := #[s, x], argTypes := #[tsl, tsl] }) (ht : P.underlying tsl = some (.slice T)) (hinfo : (P.info? T).map (fun i => (i.zero, i.size, i.bytes)) = some (some z, size, bytes))
    (hzs : z.cells.size = size) (hpos : 0 < size) {w wr : World} {v : Value} {n : Nat} {xs news : List Value} (hs : a.eval s = v) (hb : Bld T size w wr v n xs) (hx : a.eval x = .slice (some ⟨wr.heap.size, 0, none⟩) 1 1)
    (hn : news.length = size) (h1 : ∀ u ∈ news, u.oneCell' = true) (h63 : n + 1 ≤ maxLen) (hbytes : (n + 1) * bytes ≤ 140737488355328)
    (hK : ∀ v' w', Bld T size w w' v' (n + 1) (xs ++ news) → wpList P ops Q rest (a.put o.dst v') w') : wpList P ops Q (o :: rest) a (wr.alloc (.cells news.toArray T)) := by
  obtain ⟨i0, hi, hz0, hz1, hz2⟩ := info_parts hinfo
  refine wpList_append_own _ hg s x tsl ho w.heap.size T i0 z size bytes ht hi hz0 hz1 hz2 hzs hpos v n xs hs (hb.1.alloc _) ⟨wr.heap.size, 0, none⟩ 1 1 news hx (by omega) ?_ h1 h63 hbytes ?_ ?_
  · intro j u hu
    have hadd : (⟨wr.heap.size, 0, none⟩ : Addr).add j = ⟨wr.heap.size, j, none⟩ := by unfold Addr.add; split <;> simp_all
    rw [hadd, World.cell?_alloc_new]
    simpa using hu
  · have := hb.2.size
    simp; omega
  · intro v' w' hown hgr _
    refine hK v' w' ⟨hown, ?_⟩
    have h2 : Below w.heap.size w (wr.alloc (.cells news.toArray T)) := hb.2.alloc hb.2.size _
    exact h2.grown hgr h2.size (owns_block hb.1)
end
end Go.Proofs.YtklbehapbchnaaaDoor
namespace Go.Proofs.YtklbehapbchnaaaDoor
open Go.RowKit
set_option linter.unusedVariables false
/-- a row of n elements of k cells that is being filled; c cells are done -/
def FillK (w wr : World) (T : TypeId) (k g n : Nat) (tgt : List Value) (c : Nat) : Prop :=
  ∃ xs, wr.ownsRow g T k (.slice (some ⟨g, 0, none⟩) n n) n xs ∧ xs.take c = tgt.take c ∧ Below w.heap.size w wr ∧ w.heap.size ≤ g ∧ tgt.length = n * k
theorem FillK.start (w : World) (T : TypeId) (cs : Array Value) (k n : Nat) (tgt : List Value) (hs : cs.size = n * k) (hn : n ≤ maxLen) (hl : tgt.length = n * k) : FillK w (w.alloc (.cells cs T)) T k w.heap.size n tgt 0 :=
  ⟨cs.toList, World.ownsRow_lit w cs n (Nat.le_refl _) hn hs, by simp, (Below.refl _ _).alloc (Nat.le_refl _) _, Nat.le_refl _, hl⟩
theorem FillK.cell {w wr : World} {T : TypeId} {k g n : Nat} {tgt : List Value} {c : Nat} (h : FillK w wr T k g n tgt c) {i : Nat} (hi : i < n * k) : ∃ v, wr.cell? ⟨g, i, none⟩ = some v := by
  obtain ⟨xs, ho, ht, hb, hg, hl⟩ := h
  have := ho.cellAt i hi
  have h1 := ho.1
  exact ⟨xs[i]'(by omega), by rw [this, List.getElem?_eq_getElem]⟩
theorem FillK.frozen {w wr : World} {T : TypeId} {k g n : Nat} {tgt : List Value} {c : Nat} (h : FillK w wr T k g n tgt c) (i : Nat) : wr.frozen? ⟨g, i, none⟩ = false := by
  obtain ⟨xs, ho, ht, hb, hg, hl⟩ := h
  exact ho.frozenAt i
theorem FillK.below {w wr : World} {T : TypeId} {k g n : Nat} {tgt : List Value} {c : Nat} (h : FillK w wr T k g n tgt c) : Below w.heap.size w wr := by
  obtain ⟨xs, ho, ht, hb, hg, hl⟩ := h
  exact hb
theorem FillK.later {w wr wr' : World} {T : TypeId} {k g n : Nat} {tgt : List Value} {c : Nat} (h : FillK w wr T k g n tgt c) (hb' : Below wr.heap.size wr wr') : FillK w wr' T k g n tgt c := by
  obtain ⟨xs, ho, ht, hb, hg, hl⟩ := h
  exact ⟨xs, owns_later ho hb', ht, Below.now hb hb', hg, hl⟩
theorem FillK.lt {w wr : World} {T : TypeId} {k g n : Nat} {tgt : List Value} {c : Nat} (h : FillK w wr T k g n tgt c) : g < wr.heap.size := by
  obtain ⟨xs, ho, ht, hb, hg, hl⟩ := h
  exact (ho.lt g rfl).2
theorem FillK.store {w wr : World} {T : TypeId} {k g n : Nat} {tgt : List Value} {c : Nat} (h : FillK w wr T k g n tgt c) (hc : c < n * k) {u : Value} (hu : tgt[c]? = some u) : FillK w (wr.setCell ⟨g, c, none⟩ u) T k g n tgt (c + 1) := by
  obtain ⟨xs, ho, ht, hb, hg, hl⟩ := h
  have h1 := ho.1
  have hu' : tgt[c]'(by omega) = u := by rw [List.getElem?_eq_getElem (by omega)] at hu; simpa using hu
  refine ⟨xs.set c u, (ho.stored c u).1, ?_, hb.setCell hg u, hg, hl⟩
  rw [← hu']
  exact fill_step (by omega) ht (by omega)
theorem FillK.done {w wr : World} {T : TypeId} {k g n : Nat} {tgt : List Value} {c : Nat} (h : FillK w wr T k g n tgt c) (hc : ¬ c < n * k) : RetSl T k n tgt w (.returned (.slice (some ⟨g, 0, none⟩) n n)) wr := by
  obtain ⟨xs, ho, ht, hb, hg, hl⟩ := h
  have h1 := ho.1
  have : xs = tgt := fill_done (by omega) ht (by omega)
  subst this
  exact ⟨_, _, rfl, owns_mono ho hg, hb⟩
section
variable {P : Program}
end
end Go.Proofs.YtklbehapbchnaaaDoor
namespace Go.Proofs.YtklbehapbchnaaaDoor
open Go.RowKit
set_option linter.unusedVariables false
/-- a slice from which elements are taken -/
def Src (w : World) (x : Value) (m : Nat) (news : List Value) : Prop :=
  (x = .slice none 0 0 ∧ m = 0 ∧ news = []) ∨ ∃ ad c, x = .slice (some ad) m c ∧ ∀ j u, news[j]? = some u → w.cell? (ad.add j) = some u
theorem add_off (b o j : Nat) : (⟨b, o, none⟩ : Addr).add j = ⟨b, o + j, none⟩ := by unfold Addr.add; split <;> simp_all
theorem Src.of_cells {w : World} {ad : Addr} {m c : Nat} {news : List Value} (h : CellsIn w (some ad) news) : Src w (.slice (some ad) m c) m news := by
  refine .inr ⟨ad, c, rfl, fun j u hu => ?_⟩
  rcases h with h | ⟨b, off, ha, hc⟩
  · subst h; simp at hu
  · obtain rfl := Option.some.inj ha
    obtain ⟨hj, rfl⟩ := List.getElem?_eq_some_iff.1 hu
    rw [add_off]
    exact hc j hj
theorem Src.lit {w : World} {T : TypeId} {c m : Nat} (news : List Value) : Src (w.alloc (.cells news.toArray T)) (.slice (some ⟨w.heap.size, 0, none⟩) m c) m news := by
  refine .inr ⟨_, _, rfl, fun j u hu => ?_⟩
  rw [add_off, Nat.zero_add, World.cell?_alloc_new]
  simpa using hu
theorem Src.later {w w' : World} {x : Value} {m : Nat} {news : List Value} (h : Src w x m news) (hb : Below w.heap.size w w') : Src w' x m news := by
  rcases h with h | ⟨ad, c, hx, hc⟩
  · exact .inl h
  · refine .inr ⟨ad, c, hx, fun j u hu => ?_⟩
    have h1 := hc j u hu
    rw [hb.cell (World.block_lt_of_cell? w _ h1)]
    exact h1
section
variable {P : Program}
theorem run_appM {tsl ty T : TypeId} {z : Value} {size bytes : Nat} (ht : P.underlying tsl = some (.slice T)) (hinfo : (P.info? T).map (fun i => (i.zero, i.size, i.bytes)) = some (some z, size, bytes))
    (hzs : z.cells.size = size) (hpos : 0 < size) {w wr : World} {v x : Value} {n m : Nat} {xs news : List Value} (hb : Bld T size w wr v n xs) (hx : Src wr x m news)
    (hn : news.length = m * size) (h1 : ∀ u ∈ news, u.oneCell' = true) (h63 : n + m ≤ maxLen) (hbytes : (n + m) * bytes ≤ 140737488355328) :
    ∃ v' w', (Builtin.append_ #[tsl, tsl] ty #[v, x]).run P wr = .ok v' w' ∧ Bld T size w w' v' (n + m) (xs ++ news) ∧ wr.grownBy w' v.ownBlock ∧ (v'.ownBlock = v.ownBlock ∨ v'.ownBlock = some wr.heap.size) := by
  obtain ⟨i0, hi, hz0, hz1, hz2⟩ := info_parts hinfo
  rcases hx with ⟨rfl, rfl, rfl⟩ | ⟨ad, c, rfl, hc⟩
  · refine ⟨v, wr, run_append_owned_none wr w.heap.size tsl ty T i0 size ht hi v n xs hb.1, by simpa using hb, ⟨rfl, rfl, rfl, Nat.le_refl _, fun _ _ _ => rfl⟩, .inl rfl⟩
  · obtain ⟨v', w', hr, h2, h3, h4, h5⟩ := run_append_own_at (P := P) wr w.heap.size tsl ty T i0 z size bytes ht hi hz0 hz1 hz2 hzs hpos v n xs hb.1 ad m c news hn hc h1 h63 hbytes hb.2.size
    exact ⟨v', w', hr, ⟨h2, hb.2.grown h3 hb.2.size (owns_block hb.1)⟩, h3, h5⟩
/-- the same at a plain region's list -/
theorem wpList_appM {ops : Array Oper} {rest : List Oper} {o : Oper} {a : Act} {Q : Exit → Act → World → Prop} {T tsl : TypeId} {z : Value} {size bytes : Nat} (hg : o.guard = none) (s x : Operand)
    (ho : o.op = .call { callee := .builtin .append, args := #[s, x], argTypes := #[tsl, tsl] }) (ht : P.underlying tsl = some (.slice T)) (hinfo : (P.info? T).map (fun i => (i.zero, i.size, i.bytes)) = some (some z, size, bytes))
    (hzs : z.cells.size = size) (hpos : 0 < size) {w wr : World} {v u : Value} {n m : Nat} {xs news : List Value} (hs : a.eval s = v) (hb : Bld T size w wr v n xs) (hx : a.eval x = u) (hsrc : Src wr u m news)
    (hn : news.length = m * size) (h1 : ∀ u ∈ news, u.oneCell' = true) (h63 : n + m ≤ maxLen) (hbytes : (n + m) * bytes ≤ 140737488355328)
    (hK : ∀ v' w', Bld T size w w' v' (n + m) (xs ++ news) → wr.grownBy w' v.ownBlock → (v'.ownBlock = v.ownBlock ∨ v'.ownBlock = some wr.heap.size) → wpList P ops Q rest (a.put o.dst v') w') : wpList P ops Q (o :: rest) a wr := by
  refine wpList_plain hg fun K hK' => ?_
  obtain ⟨v', w', hr, h2, h3, h4⟩ := run_appM (ty := o.type) ht hinfo hzs hpos hb hsrc hn h1 h63 hbytes
  unfold Oper.wp execOp
  simp only [ho, resolve, invoke, builtin, Sem.run_bind, Sem.run_pure, Result.andThen_ok, List.map_toArray, List.map_cons, List.map_nil, hs, hx, hr]
  exact hK' _ _ (hK _ _ h2 h3 h4)
end
end Go.Proofs.YtklbehapbchnaaaDoor
