/-
  Append, at a plain list of operations, to a row that lies from a base on, out of any source.
-/
import Derived.Test.YtoddpmdjjgnpgaaGreatDoorTxt01
import Derived.Orders
import Derived.StillTail
import Derived.Deep.AppendLies
namespace Go.Proofs.YtoddpmdjjgnpgaaGreatDoor
open Go.RowKit
set_option linter.unusedVariables false
section
variable {P : Program} {ops : Array Oper} {Q : Exit → Act → World → Prop}
/-- the frame, once the operations from number k on have yielded u -/
def fPut : List Oper → Nat → Act → (Nat → Value) → Act
  | [], _, a, _ => a
  | o :: l, k, a, u => fPut l (k + 1) (a.put o.dst (u k)) u
def updV (u : Nat → Value) (i : Nat) (v : Value) : Nat → Value := fun j => if j = i then v else u j
theorem fPut_congr : ∀ (l : List Oper) (k : Nat) (a : Act) (u u' : Nat → Value), (∀ j, k ≤ j → u j = u' j) → fPut l k a u = fPut l k a u'
  | [], _, _, _, _, _ => rfl
  | o :: l, k, a, u, u', h => by
    unfold fPut
    rw [h k (Nat.le_refl _)]
    exact fPut_congr l (k + 1) _ u u' (fun j hj => h j (by omega))
theorem put_put (a : Act) (d : Tmp) (u v : Value) : (a.put (some d) u).put (some d) v = a.put (some d) v := by
  unfold Act.put
  simp
theorem put_self (a : Act) (d : Tmp) : a.put (some d) (a.tmps.getD d undef) = a := by
  have h : a.tmps.setIfInBounds d (a.tmps.getD d undef) = a.tmps := by
    apply Array.ext_getElem?
    intro i
    rw [Array.getElem?_setIfInBounds]
    split
    · rename_i h
      subst h
      split
      · rename_i h; simp [h]
      · rename_i h; simp [h]
    · rfl
  show ({ a with tmps := a.tmps.setIfInBounds d (a.tmps.getD d undef) } : Act) = a
  rw [h]
theorem fPut_put : ∀ (l : List Oper) (k : Nat) (a : Act) (u : Nat → Value) (d : Tmp) (v : Value), (∀ o ∈ l, o.dst ≠ some d) → fPut l k (a.put (some d) v) u = (fPut l k a u).put (some d) v
  | [], _, _, _, _, _, _ => rfl
  | o :: l, k, a, u, d, v, h => by
    have h0 := h o List.mem_cons_self
    unfold fPut
    rw [Act.put_comm a v (u k) (x := some d) (y := o.dst) (fun d' hd => by cases hd; exact h0)]
    exact fPut_put l (k + 1) _ u d v (fun o' ho => h o' (List.mem_cons_of_mem _ ho))
/-- no two operations have one destination -/
def dstsB : List Oper → Bool
  | [] => true
  | o :: l => (match o.dst with | none => true | some d => l.all fun x => x.dst != some d) && dstsB l
theorem fPut_upd : ∀ (l : List Oper) (k : Nat) (a : Act) (u : Nat → Value) (i : Nat) (o : Oper) (v : Value), dstsB l = true → l[i]? = some o → (fPut l k a u).put o.dst v = fPut l k a (updV u (k + i) v)
  | [], _, _, _, _, _, _, _, h => by simp at h
  | o' :: l, k, a, u, 0, o, v, hd, h => by
    simp only [List.getElem?_cons_zero, Option.some.injEq] at h
    subst h
    simp only [dstsB, Bool.and_eq_true] at hd
    unfold fPut
    have e : updV u (k + 0) v k = v := by simp [updV]
    rw [e]
    have hc : ∀ b, fPut l (k + 1) b u = fPut l (k + 1) b (updV u (k + 0) v) := fun b => fPut_congr l (k + 1) b _ _ (fun j hj => by unfold updV; rw [if_neg (by omega)])
    rw [← hc]
    cases hds : o'.dst with
    | none => rfl
    | some d =>
      have h1 := hd.1
      rw [hds] at h1
      rw [← fPut_put l (k + 1) _ u d v (fun x hx => by have := List.all_eq_true.1 h1 x hx; simpa using this), put_put]
  | o' :: l, k, a, u, i + 1, o, v, hd, h => by
    simp only [List.getElem?_cons_succ] at h
    simp only [dstsB, Bool.and_eq_true] at hd
    unfold fPut
    have e : updV u (k + (i + 1)) v k = u k := by unfold updV; rw [if_neg (by omega)]
    rw [e, fPut_upd l (k + 1) _ u i o v hd.2 h, show k + 1 + i = k + (i + 1) by omega]
theorem fPut_self : ∀ (l : List Oper) (k : Nat) (a : Act) (u : Nat → Value), (∀ i o d, l[i]? = some o → o.dst = some d → u (k + i) = a.tmps.getD d undef) → fPut l k a u = a
  | [], _, _, _, _ => rfl
  | o :: l, k, a, u, h => by
    unfold fPut
    have e : a.put o.dst (u k) = a := by
      cases hd : o.dst with
      | none => rfl
      | some d => rw [show u k = a.tmps.getD d undef from h 0 o d rfl hd, put_self]
    rw [e]
    exact fPut_self l (k + 1) a u (fun i o' d hi hd => by rw [show k + 1 + i = k + (i + 1) by omega]; exact h (i + 1) o' d hi hd)
/-- what is known of a value -/
abbrev Vp := Value → World → Prop
/-- what is known of the values on which an operation waits -/
def factsOf (acc : List Vp) : List Edge → (Nat → Value) → World → Prop
  | [], _, _ => True
  | e :: l, u, w => (Region.binds .any e = true → acc.getD e.on (fun _ _ => True) (u e.on) w) ∧ factsOf acc l u w
/-- what is known of all values from number k on -/
def allOf : List Vp → Nat → (Nat → Value) → World → Prop
  | [], _, _, _ => True
  | V :: l, k, u, w => V (u k) w ∧ allOf l (k + 1) u w
/-- one operation: whatever world of the class it finds, its value is one of which V is known, and the world behind it is one of the class -/
def stepOf (P : Program) (Q : Exit → Act → World → Prop) (ops : List Oper) (F : (Nat → Value) → Act) (C : World → Prop) (R : World → World → Prop) (acc : List Vp) (o : Oper) (V : Vp) : Prop :=
  ∀ u w, C w → factsOf acc o.after.toList u w →
    if Region.wanted o (yielded ops.toArray (F u).tmps) = true then
      ∀ K : Act → World → Prop, (∀ v w', C w' → R w w' → V v w' → K ((F u).put o.dst v) w') → o.wp P (F u) w K Q
    else V undef w
/-- the operations one by one -/
def eachOf (P : Program) (Q : Exit → Act → World → Prop) (ops : List Oper) (F : (Nat → Value) → Act) (C : World → Prop) (R : World → World → Prop) : List Oper → List Vp → Prop
  | [], acc => ∀ u w, C w → allOf acc 0 u w → Q .normal (F u) w
  | o :: l, acc => ∃ V : Vp, (∀ v w w', C w' → R w w' → V v w → V v w') ∧ stepOf P Q ops F C R acc o V ∧ eachOf P Q ops F C R l (acc ++ [V])
/-- each operation waits for earlier ones alone -/
def backB : List Oper → Nat → Bool
  | [], _ => true
  | o :: l, k => o.after.all (fun e => !Region.binds .any e || decide (e.on < k)) && backB l (k + 1)
theorem backB_at : ∀ (l : List Oper) (k i : Nat) (o : Oper), backB l k = true → l[i]? = some o → ∀ e ∈ o.after, Region.binds .any e = true → e.on < k + i
  | [], _, _, _, _, h => by simp at h
  | o' :: l, k, 0, o, hb, h => by
    simp only [List.getElem?_cons_zero, Option.some.injEq] at h
    subst h
    simp only [backB, Bool.and_eq_true, Array.all_eq_true_iff_forall_mem] at hb
    intro e he hbi
    have := hb.1 e he
    simpa [hbi] using this
  | o' :: l, k, i + 1, o, hb, h => by
    simp only [List.getElem?_cons_succ] at h
    simp only [backB, Bool.and_eq_true] at hb
    have := backB_at l (k + 1) i o hb.2 h
    intro e he hbi
    have := this e he hbi
    omega
theorem facts_mono {acc acc' : List Vp} {n : Nat} (hp : ∀ j, j < n → acc'.getD j (fun _ _ => True) = acc.getD j (fun _ _ => True)) : ∀ {l : List Edge} {u : Nat → Value} {w : World}, (∀ e ∈ l, Region.binds .any e = true → e.on < n) → factsOf acc' l u w → factsOf acc l u w
  | [], _, _, _, _ => trivial
  | e :: l, u, w, he, h => ⟨fun hb => by rw [← hp _ (he e List.mem_cons_self hb)]; exact h.1 hb, facts_mono hp (fun e' h' => he e' (List.mem_cons_of_mem _ h')) h.2⟩
theorem each_out {Fr : (Nat → Value) → Act} {C : World → Prop} {R : World → World → Prop} {opsL : List Oper} : ∀ (l : List Oper) (acc : List Vp), backB l acc.length = true → (∀ V ∈ acc, ∀ v w w', C w' → R w w' → V v w → V v w') → eachOf P Q opsL Fr C R l acc →
    ∃ F : List Vp, (∀ j, j < acc.length → F.getD j (fun _ _ => True) = acc.getD j (fun _ _ => True)) ∧ F.length = acc.length + l.length ∧ (∀ V ∈ F, ∀ v w w', C w' → R w w' → V v w → V v w') ∧
      (∀ i o, l[i]? = some o → stepOf P Q opsL Fr C R F o (F.getD (acc.length + i) (fun _ _ => True))) ∧ ∀ u w, C w → allOf F 0 u w → Q .normal (Fr u) w
  | [], acc, _, hm, h => ⟨acc, fun _ _ => rfl, by simp, hm, fun i o h => by simp at h, h⟩
  | o :: l, acc, hb, hm, h => by
    obtain ⟨V, hV, hs, hr⟩ := h
    have hb' := hb
    simp only [backB, Bool.and_eq_true] at hb'
    obtain ⟨F, h1, h2, h3, h4, h5⟩ := each_out l (acc ++ [V]) (by rw [List.length_append]; exact hb'.2) (fun V' h' => by
      rcases List.mem_append.1 h' with h' | h'
      · exact hm V' h'
      · rw [List.mem_singleton.1 h']; exact hV) hr
    have hacc : ∀ j, j < acc.length → F.getD j (fun _ _ => True) = acc.getD j (fun _ _ => True) := fun j hj => by
      rw [h1 j (by rw [List.length_append]; omega)]
      rw [List.getD_eq_getElem?_getD, List.getD_eq_getElem?_getD, List.getElem?_append_left hj]
    refine ⟨F, hacc, by rw [h2, List.length_append]; simp; omega, h3, fun i o' hi => ?_, h5⟩
    cases i with
    | zero =>
      simp only [List.getElem?_cons_zero, Option.some.injEq] at hi
      subst hi
      have e : F.getD (acc.length + 0) (fun _ _ => True) = V := by
        rw [h1 _ (by rw [List.length_append]; simp)]
        simp
      rw [e]
      intro u w hc hf
      exact hs u w hc (facts_mono hacc (fun e' he hbi => by
        have := backB_at (o :: l) acc.length 0 o hb rfl e' (by simpa using he) hbi
        omega) hf)
    | succ i =>
      simp only [List.getElem?_cons_succ] at hi
      have := h4 i o' hi
      rw [List.length_append] at this
      rw [show acc.length + (i + 1) = acc.length + [V].length + i by simp; omega]
      exact this
theorem allOf_mk : ∀ (F : List Vp) (k : Nat) (u : Nat → Value) (w : World), (∀ i, i < F.length → F.getD i (fun _ _ => True) (u (k + i)) w) → allOf F k u w
  | [], _, _, _, _ => trivial
  | V :: l, k, u, w, h => ⟨by have := h 0 (by simp); simpa using this, allOf_mk l (k + 1) u w (fun i hi => by have := h (i + 1) (by simpa using hi); rw [show k + 1 + i = k + (i + 1) by omega]; simpa using this)⟩
theorem factsOf_mk (F : List Vp) : ∀ (l : List Edge) (u : Nat → Value) (w : World), (∀ e ∈ l, Region.binds .any e = true → F.getD e.on (fun _ _ => True) (u e.on) w) → factsOf F l u w
  | [], _, _, _ => trivial
  | e :: l, u, w, h => ⟨fun hb => h e List.mem_cons_self hb, factsOf_mk F l u w (fun e' he => h e' (List.mem_cons_of_mem _ he))⟩
section
variable {Fr : (Nat → Value) → Act} {C : World → Prop} {R : World → World → Prop} {opsL l : List Oper} {acc : List Vp} {o : Oper}
/-- an operation that hands back a value, in a world of the class -/
theorem each_do (V : Vp) (hV : ∀ v w w', C w' → R w w' → V v w → V v w') (hg : o.guard = none)
    (h : ∀ u w, C w → factsOf acc o.after.toList u w → ∃ v w', (execOp (Fr u).eval o).run P w = .ok (.value v) w' ∧ C w' ∧ R w w' ∧ V v w') (hn : eachOf P Q opsL Fr C R l (acc ++ [V])) : eachOf P Q opsL Fr C R (o :: l) acc := by
  refine ⟨V, hV, fun u w hc hf => ?_, hn⟩
  have hw : Region.wanted o (yielded opsL.toArray (Fr u).tmps) = true := by simp [Region.wanted, hg]
  rw [if_pos hw]
  intro K hK
  obtain ⟨v, w', h1, h2, h3, h4⟩ := h u w hc hf
  unfold Oper.wp
  rw [h1]
  exact hK v w' h2 h3 h4
/-- an operation that hands back one value and leaves the world -/
theorem each_read {c : Value} (hR : ∀ w, R w w) (hg : o.guard = none) (h : ∀ u w, C w → factsOf acc o.after.toList u w → (execOp (Fr u).eval o).run P w = .ok (.value c) w)
    (hn : eachOf P Q opsL Fr C R l (acc ++ [fun v _ => v = c])) : eachOf P Q opsL Fr C R (o :: l) acc :=
  each_do (fun v _ => v = c) (fun _ _ _ _ _ h => h) hg (fun u w hc hf => ⟨c, w, h u w hc hf, hc, hR w, rfl⟩) hn
/-- a call of a Go function -/
theorem each_call (V : Vp) (hV : ∀ v w w', C w' → R w w' → V v w → V v w') (hg : o.guard = none)
    (h : ∀ u w, C w → factsOf acc o.after.toList u w → ∃ f args, (execOp (Fr u).eval o).run P w = .ok (.enter f args) w ∧ Calls P f args w fun e w' => ∃ v, e = .returned v ∧ C w' ∧ R w w' ∧ V v w') (hn : eachOf P Q opsL Fr C R l (acc ++ [V])) : eachOf P Q opsL Fr C R (o :: l) acc := by
  refine ⟨V, hV, fun u w hc hf => ?_, hn⟩
  have hw : Region.wanted o (yielded opsL.toArray (Fr u).tmps) = true := by simp [Region.wanted, hg]
  rw [if_pos hw]
  intro K hK
  obtain ⟨f, args, h1, h2⟩ := h u w hc hf
  unfold Oper.wp
  rw [h1]
  exact h2.mono fun e w' ⟨v, he, h3, h4, h5⟩ => by subst he; exact hK v w' h3 h4 h5
/-- a call that hands back one value -/
theorem each_callR {c : Value} (hg : o.guard = none)
    (h : ∀ u w, C w → factsOf acc o.after.toList u w → ∃ f args, (execOp (Fr u).eval o).run P w = .ok (.enter f args) w ∧ Calls P f args w fun e w' => e = .returned c ∧ C w' ∧ R w w') (hn : eachOf P Q opsL Fr C R l (acc ++ [fun v _ => v = c])) : eachOf P Q opsL Fr C R (o :: l) acc :=
  each_call (fun v _ => v = c) (fun _ _ _ _ _ h => h) hg (fun u w hc hf => by
    obtain ⟨f, args, h1, h2⟩ := h u w hc hf
    exact ⟨f, args, h1, h2.mono fun e w' ⟨he, h3, h4⟩ => ⟨c, he, h3, h4, rfl⟩⟩) hn
end
end
end Go.Proofs.YtoddpmdjjgnpgaaGreatDoor
namespace Go.Proofs.YtoddpmdjjgnpgaaGreatDoor
open Go.RowKit
set_option linter.unusedVariables false
/-- another end -/
def endQ (Q : Exit → Act → World → Prop) (E : Act → World → Prop) : Exit → Act → World → Prop := fun e a w => match e with
  | .normal => E a w
  | e => Q e a w
section
variable {P : Program} {Q : Exit → Act → World → Prop} {E : Act → World → Prop}
theorem wp_endQ {o : Oper} {a : Act} {w : World} {K : Act → World → Prop} (h : o.wp P a w K (endQ Q E)) : o.wp P a w K Q := by
  unfold Oper.wp at *
  generalize (execOp a.eval o).run P w = r at *
  unfold Oper.upon at *
  cases r with
  | ok n w' => cases n <;> exact h
  | halt x w' => cases x <;> exact h
theorem count_all {n g : Nat} {L : List Bool} (hlen : L.length = n + g) (hc : L.count true = n) (ht : ∀ t, n ≤ t → t < n + g → L.getD t true = false) : L = List.replicate n true ++ List.replicate g false := by
  have e0 := List.take_append_drop n L
  have e2 : L.drop n = List.replicate g false := by
    rw [List.eq_replicate_iff]
    refine ⟨by rw [List.length_drop]; omega, fun b hb => ?_⟩
    obtain ⟨j, hj, rfl⟩ := List.getElem_of_mem hb
    rw [List.length_drop] at hj
    have := ht (n + j) (by omega) (by omega)
    rw [List.getD_eq_getElem?_getD, List.getElem?_eq_getElem (by omega)] at this
    simpa using this
  have e1 : L.take n = List.replicate n true := by
    have h1 : (L.take n).count true + (L.drop n).count true = n := by rw [← List.count_append, e0, hc]
    have h2 : (L.drop n).count true = 0 := by rw [e2, List.count_replicate]; simp
    have h3 : (L.take n).length = n := by rw [List.length_take]; omega
    have h4 : (L.take n).count true = (L.take n).length := by omega
    rw [List.count_eq_length] at h4
    exact List.eq_replicate_iff.2 ⟨h3, fun b hb => (h4 b hb).symm⟩
  rw [← e0, e1, e2]
theorem count_set {listed : Array Bool} {i : Nat} (hlt : i < listed.size) (hf : listed[i] = false) : (listed.setIfInBounds i true).toList.count true = listed.toList.count true + 1 := by
  rw [Array.toList_setIfInBounds, List.set_eq_take_append_cons_drop, if_pos (by simpa using hlt)]
  conv => rhs; rw [← List.take_append_drop i listed.toList, List.drop_eq_getElem_cons (by simpa using hlt)]
  rw [List.count_append, List.count_append, List.count_cons, List.count_cons]
  have e : listed.toList[i]'(by simpa using hlt) = false := by simpa using hf
  rw [e]
  simp
  omega
/-- a head, then a forced tail -/
theorem wpAny_headTail {l : List Oper} {n : Nat} (hn : n < l.length) (hs : Region.sinkB .any l.toArray n = true) (hch : Region.chainB .any l.toArray n = true) (hb : backB (l.take n) 0 = true)
    (hq : Region.seqB .any l.toArray (l.length - n) n (List.replicate n true ++ List.replicate (l.length - n) false).toArray = true)
    (I : Array Bool → Act → World → Prop)
    (hstep : ∀ listed a w i, I listed a w → i < n → i ∈ Region.ready .any l.toArray listed → wpOp P l.toArray Q i (fun a' w' => I (listed.setIfInBounds i true) a' w') a w)
    (hend : ∀ a w, I (List.replicate n true ++ List.replicate (l.length - n) false).toArray a w → wpList P l.toArray Q (l.drop n) a w) :
    ∀ (f : Nat) (listed : Array Bool) (a : Act) (w : World), HeadInv .any l.toArray n listed → I listed a w → listed.toList.count true + f = n → wpAny P .any l.toArray Q (f + (l.length - n)) listed a w
  | 0, listed, a, w, inv, h, hc => by
    have hsz : listed.toList.length = n + (l.length - n) := by have := inv.size; simp at this ⊢; omega
    have e : listed = (List.replicate n true ++ List.replicate (l.length - n) false).toArray := by
      have := count_all hsz (by omega) (fun t h1 h2 => by have := inv.tail t h1 (by simp; omega); simpa [List.getD_eq_getElem?_getD, Array.getD_eq_getD_getElem?] using this)
      rw [← this]
    rw [e] at h ⊢
    have h2 := hend a w h
    have hdl : (l.drop n).length = l.length - n := by rw [List.length_drop]
    have := wpAny_of_seq (md := .any) (Q' := Q) (ops := l.toArray) (P := P) (l.drop n) n _ a w (fun j => by simp [List.getElem?_drop]) (by rw [hdl]; exact hq) h2
    rw [hdl] at this
    rwa [Nat.zero_add]
  | f + 1, listed, a, w, inv, h, hc => by
    have hsz : listed.size = l.length := by have := inv.size; simpa using this
    -- one of the head has not come up; the first of those can
    have hex : ∃ i, i < n ∧ listed.getD i true = false := by
      refine Classical.byContradiction fun hno => ?_
      have h1 : ∀ i, i < n → listed.toList[i]? = some true := fun i hi => by
        have hil : i < listed.size := by omega
        have h2 : listed.getD i true ≠ false := fun e => hno ⟨i, hi, e⟩
        simp [hil] at h2
        simp [hil, h2]
      have h3 : (listed.toList.take n).count true = n := by
        have h4 : (listed.toList.take n).length = n := by rw [List.length_take]; simp; omega
        have h5 : (listed.toList.take n).count true = (listed.toList.take n).length := by
          rw [List.count_eq_length]
          intro b hb
          obtain ⟨j, hj, rfl⟩ := List.getElem_of_mem hb
          have h6 := h1 j (by omega)
          rw [List.getElem_take]
          rw [List.getElem?_eq_getElem (by rw [List.length_take] at hj; omega)] at h6
          exact (Option.some.inj h6).symm
        omega
      have h7 : (listed.toList.take n).count true ≤ listed.toList.count true := (List.take_sublist _ _).count_le _
      omega
    have hready : ∃ i, i < n ∧ listed.getD i true = false ∧ ∀ j, j < i → listed.getD j true = true := by
      obtain ⟨i, hi, hf⟩ := hex
      induction i using Nat.strongRecOn with
      | _ i ih =>
        by_cases hj : ∃ j, j < i ∧ listed.getD j true = false
        · obtain ⟨j, hji, hjf⟩ := hj
          exact ih j hji (by omega) hjf
        · refine ⟨i, hi, hf, fun j hji => ?_⟩
          cases e : listed.getD j true
          · exact absurd ⟨j, hji, e⟩ hj
          · rfl
    obtain ⟨i0, hi0, hf0, hmin⟩ := hready
    have hr0 : i0 ∈ Region.ready .any l.toArray listed := by
      have hil : i0 < l.length := by omega
      refine mem_ready.2 ⟨hf0, l[i0], by simp [hil], fun e he hbi => ?_⟩
      have h1 := backB_at (l.take n) 0 i0 l[i0] hb (by rw [List.getElem?_take, if_pos hi0, List.getElem?_eq_getElem hil]) e he hbi
      have h2 := hmin e.on (by omega)
      have hel : e.on < listed.size := by omega
      simp [hel] at h2 ⊢
      exact h2
    rw [show f + 1 + (l.length - n) = (f + (l.length - n)) + 1 by omega]
    refine ⟨fun h0 => (by rw [h0] at hr0; cases hr0), fun i hi => ?_⟩
    have hin : i < n := by
      rcases Nat.lt_or_ge i n with h' | h'
      · exact h'
      · exact absurd hi (tail_waits hs hch (by simpa using hn) inv _ i0 rfl hi0 hf0 i h')
    have hilt : i < listed.size := by omega
    have hfi : listed[i] = false := by have := (mem_ready.1 hi).1; simpa [hilt] using this
    refine wpOp_mono (fun a' w' h' => wpAny_headTail hn hs hch hb hq I hstep hend f _ a' w' (inv.set hi hin) h' ?_) (hstep _ _ _ _ h hin hi)
    rw [count_set hilt hfi]
    omega
/-- the walk of a region that draws its order and ends in a forced tail of operations, from number n on -/
theorem region_tail {id : Nat} {a : Act} {w : World} {l : List Oper} {Fr : (Nat → Value) → Act} (n : Nat) (C : World → Prop) (R : World → World → Prop) (hF : ∀ u, fPut (l.take n) 0 a u = Fr u) (hm : P.follows .mixedOrders = true) (hd : dstsB (l.take n) = true) (hb : backB (l.take n) 0 = true)
    (hn : decide (n < l.length) = true) (hs : Region.sinkB .any l.toArray n = true) (hch : Region.chainB .any l.toArray n = true) (hq : Region.seqB .any l.toArray (l.length - n) n (List.replicate n true ++ List.replicate (l.length - n) false).toArray = true)
    (hC : C { w with drawn := w.drawn + 1 }) (h : eachOf P (endQ Q (wpList P l.toArray Q (l.drop n))) l Fr C R (l.take n) []) : (Code.region id l.toArray true).wp P Q a w := by
  have hFr : Fr = fPut (l.take n) 0 a := funext fun u => (hF u).symm
  have hn' : n < l.length := of_decide_eq_true hn
  subst hFr
  obtain ⟨F, _, hlen, hmono, hstep, hend⟩ := each_out (l.take n) [] hb (fun V hV => by cases hV) h
  simp only [List.length_nil, Nat.zero_add] at hlen hstep
  have htl : (l.take n).length = n := by rw [List.length_take]; omega
  rw [htl] at hlen
  refine wp_region_any hm ?_
  have inv0 : HeadInv .any l.toArray n (Array.replicate l.toArray.size false) :=
    ⟨by simp, fun j oj _ hl => (by rw [getD_replicate_false] at hl; cases hl), fun t _ ht => getD_in (by simpa using ht) (getD_replicate_false _ _)⟩
  have H := wpAny_headTail (P := P) (Q := Q) hn' hs hch hb hq (fun listed a' w' => listed.size = l.length ∧ ∃ u, a' = fPut (l.take n) 0 a u ∧ C w' ∧ ∀ i, i < n → listed.getD i false = true → F.getD i (fun _ _ => True) (u i) w') ?_ ?_ n (Array.replicate l.toArray.size false) a { w with drawn := w.drawn + 1 } inv0 ?_ ?_
  · rw [show n + (l.length - n) = l.length by omega] at H
    simpa using H
  · rintro listed a' w' i ⟨hs, u, rfl, hc, hk⟩ hin hi
    obtain ⟨hun, o, ho, hall⟩ := mem_ready.1 hi
    have ho' : l[i]? = some o := by simpa using ho
    have hot : (l.take n)[i]? = some o := by rw [List.getElem?_take, if_pos hin]; exact ho'
    have hlt : i < listed.size := by rw [hs]; exact (List.getElem?_eq_some_iff.1 ho').1
    have hst := hstep i o hot u w' hc (factsOf_mk F _ u w' fun e he hbi => hk _ (by
      have := backB_at (l.take n) 0 i o hb hot e (by simpa using he) hbi
      omega) (hall e (by simpa using he) hbi))
    have hup : ∀ v, (fPut (l.take n) 0 a u).put o.dst v = fPut (l.take n) 0 a (updV u i v) := fun v => by
      have := fPut_upd (l.take n) 0 a u i o v hd hot
      rwa [Nat.zero_add] at this
    have hput : ∀ (v : Value) (w2 : World), C w2 → R w' w2 → F.getD i (fun _ _ => True) v w2 → (listed.setIfInBounds i true).size = l.length ∧ ∃ u', (fPut (l.take n) 0 a u).put o.dst v = fPut (l.take n) 0 a u' ∧ C w2 ∧ ∀ j, j < n → (listed.setIfInBounds i true).getD j false = true → F.getD j (fun _ _ => True) (u' j) w2 := fun v w2 hc2 hr hv => by
      refine ⟨by simpa using hs, updV u i v, hup v, hc2, fun j hjn hj => ?_⟩
      by_cases hji : j = i
      · subst hji; unfold updV; rw [if_pos rfl]; exact hv
      · rw [getD_set_ne false (fun e => hji e.symm)] at hj
        unfold updV; rw [if_neg hji]
        have hjk := hk j hjn hj
        have hjl : j < F.length := by omega
        rw [List.getD_eq_getElem?_getD, List.getElem?_eq_getElem hjl] at hjk ⊢
        exact hmono _ (List.getElem_mem hjl) _ _ _ hc2 hr hjk
    unfold wpOp
    rw [ho]
    simp only
    split at hst
    · rename_i hw
      rw [if_pos hw]
      exact .inl (wp_endQ (hst _ hput))
    · rename_i hw
      rw [if_neg hw]
      refine ⟨by simpa using hs, updV u i undef, hup undef, hc, fun j hjn hj => ?_⟩
      by_cases hji : j = i
      · subst hji; unfold updV; rw [if_pos rfl]; exact hst
      · rw [getD_set_ne false (fun e => hji e.symm)] at hj
        unfold updV; rw [if_neg hji]
        exact hk j hjn hj
  · rintro a' w' ⟨_, u, rfl, hc, hk⟩
    refine hend u w' hc (allOf_mk F 0 u w' fun i hi => ?_)
    rw [Nat.zero_add]
    refine hk i (by omega) ?_
    have hin : i < n := by omega
    simp [Array.getD_eq_getD_getElem?, List.getElem?_append, hin]
  · refine ⟨by simp, fun i => match (l.take n)[i]? with | some o => (match o.dst with | some d => a.tmps.getD d undef | none => undef) | none => undef, ?_, hC, fun i _ hi => ?_⟩
    · refine (fPut_self (l.take n) 0 a _ fun i o d hi hd' => ?_).symm
      simp only [Nat.zero_add, hi, hd']
    · rw [getD_replicate_false] at hi; cases hi
  · simp [List.count_replicate]
end
end Go.Proofs.YtoddpmdjjgnpgaaGreatDoor
namespace Go.Proofs.YtoddpmdjjgnpgaaGreatDoor
open Go.RowKit
set_option linter.unusedVariables false
theorem wpList_appB {P : Program} {ops : Array Oper} {rest : List Oper} {o : Oper} {a : Act} {Q : Exit → Act → World → Prop} {T tsl : TypeId} {z : Value} {size bytes : Nat} (hg : o.guard = none) (s x : Operand)
    (ho : o.op = .call { callee := .builtin .append, args := #[s, x], argTypes := #[tsl, tsl] }) (ht : P.underlying tsl = some (.slice T)) (hinfo : (P.info? T).map (fun i => (i.zero, i.size, i.bytes)) = some (some z, size, bytes))
    (hzs : z.cells.size = size) (hpos : 0 < size) {H : Nat} {wr : World} {v : Value} {n : Nat} {xs : List Value} (hs : a.eval s = v) (hb : wr.ownsRow H T size v n xs) (hH : H ≤ wr.heap.size) {ad : Addr} {c m : Nat} {news : List Value} (hx : a.eval x = .slice (some ad) m c)
    (hsrc : ∀ j u, news[j]? = some u → wr.cell? (ad.add j) = some u) (hn : news.length = m * size) (hm : 0 < m) (h1 : ∀ u ∈ news, u.oneCell' = true) (h63 : n + m ≤ maxLen) (hbytes : (n + m) * bytes ≤ 140737488355328)
    (hK : ∀ g cap w', w'.ownsRow H T size (.slice (some ⟨g, 0, none⟩) (n + m) cap) (n + m) (xs ++ news) → wr.grownBy w' v.ownBlock → (v.ownBlock = some g ∨ g = wr.heap.size) → wpList P ops Q rest (a.put o.dst (.slice (some ⟨g, 0, none⟩) (n + m) cap)) w') :
    wpList P ops Q (o :: rest) a wr := by
  obtain ⟨i0, hi, hz0, hz1, hz2⟩ := info_parts hinfo
  exact wpList_append_lies (w := wr) hg s x tsl ho H T i0 z size bytes ht hi hz0 hz1 hz2 hzs hpos v n xs hs hb ad m c news hx hn hsrc h1 hm h63 hbytes hH _ rfl fun g cap w' h2 h3 h4 _ => hK g cap w' h2 h3 h4
end Go.Proofs.YtoddpmdjjgnpgaaGreatDoor
