/-
  A region that draws its order, with one operation that turns memory which others have made: what is known before it, and what is known behind it.
-/
import Derived.Test.YtgoeadgpbidgiaaGreatDoorCpl04
import Derived.Deep.AppendLies
import Derived.Test.YtgoeadgpbidgiaaGreatDoorCpl19
namespace Go.Proofs.YtgoeadgpbidgiaaGreatDoor
open Go.RowKit
set_option linter.unusedVariables false
theorem wpList_appB {P : Program} {ops : Array Oper} {rest : List Oper} {o : Oper} {a : Act} {Q : Exit → Act → World → Prop} {T tsl : TypeId} {z : Value} {size bytes : Nat} (hg : o.guard = none) (s x : Operand)
    (ho : o.op = .call { callee := .builtin .append, args := #[s, x], argTypes := #[tsl, tsl] }) (ht : P.underlying tsl = some (.slice T)) (hinfo : (P.info? T).map (fun i => (i.zero, i.size, i.bytes)) = some (some z, size, bytes))
    (hzs : z.cells.size = size) (hpos : 0 < size) {H : Nat} {wr : World} {v : Value} {n : Nat} {xs : List Value} (hs : a.eval s = v) (hb : wr.ownsRow H T size v n xs) (hH : H ≤ wr.heap.size) {ad : Addr} {c m : Nat} {news : List Value} (hx : a.eval x = .slice (some ad) m c)
    (hsrc : ∀ j u, news[j]? = some u → wr.cell? (ad.add j) = some u) (hn : news.length = m * size) (hm : 0 < m) (h1 : ∀ u ∈ news, u.oneCell' = true) (h63 : n + m ≤ maxLen) (hbytes : (n + m) * bytes ≤ 140737488355328)
    (hK : ∀ g cap w', w'.ownsRow H T size (.slice (some ⟨g, 0, none⟩) (n + m) cap) (n + m) (xs ++ news) → wr.grownBy w' v.ownBlock → (v.ownBlock = some g ∨ g = wr.heap.size) → wpList P ops Q rest (a.put o.dst (.slice (some ⟨g, 0, none⟩) (n + m) cap)) w') :
    wpList P ops Q (o :: rest) a wr := by
  obtain ⟨i0, hi, hz0, hz1, hz2⟩ := info_parts hinfo
  exact wpList_append_lies (w := wr) hg s x tsl ho H T i0 z size bytes ht hi hz0 hz1 hz2 hzs hpos v n xs hs hb ad m c news hx hn hsrc h1 hm h63 hbytes hH _ rfl fun g cap w' h2 h3 h4 _ => hK g cap w' h2 h3 h4
end Go.Proofs.YtgoeadgpbidgiaaGreatDoor
namespace Go.Proofs.YtgoeadgpbidgiaaGreatDoor
open Go.RowKit
set_option linter.unusedVariables false
/-- the operations on which number m waits -/
def depsN (l : List Oper) (m : Nat) : List Nat := match l[m]? with
  | some o => (o.after.toList.filter (Region.binds .any)).map (·.on)
  | none => []
/-- i must have come up where m has -/
def ancB (l : List Oper) : Nat → Nat → Nat → Bool
  | 0, _, _ => false
  | f + 1, i, m => (depsN l m).any fun d => d == i || ancB l f i d
def ClosedN (l : List Oper) (listed : Array Bool) : Prop := ∀ m, listed.getD m false = true → ∀ d ∈ depsN l m, listed.getD d false = true
theorem anc_listed {l : List Oper} {listed : Array Bool} (hc : ClosedN l listed) : ∀ (f i m : Nat), ancB l f i m = true → listed.getD m false = true → listed.getD i false = true
  | 0, _, _, h, _ => by cases h
  | f + 1, i, m, h, hm => by
    unfold ancB at h
    obtain ⟨d, hd, h2⟩ := List.any_eq_true.1 h
    have h3 := hc m hm d hd
    rcases Bool.or_eq_true_iff.1 h2 with h4 | h4
    · rw [← beq_iff_eq.1 h4]; exact h3
    · exact anc_listed hc f i d h4 h3
section
variable {P : Program} {Q : Exit → Act → World → Prop}
/-- one operation of such a region -/
def opTwo (P : Program) (Q : Exit → Act → World → Prop) (ops : List Oper) (F : (Nat → Value) → Act) (C C' : World → Prop) (R R' RS : World → World → Prop) (s k : Nat) (o : Oper) (V V' : Vp) (accA accB : List Vp) : Prop :=
  (k = s ∧ o.guard = none ∧ ∀ u w, C w → factsOf accA o.after.toList u w → ∀ K : Act → World → Prop, (∀ v w', C' w' → RS w w' → V' v w' → K ((F u).put o.dst v) w') → o.wp P (F u) w K Q) ∨
  (k ≠ s ∧ (∀ v w w', C w → C' w' → RS w w' → V v w → V' v w') ∧ (ancB ops ops.length s k = true ∨ stepOf P Q ops F C R accA o V) ∧ (ancB ops ops.length k s = true ∨ stepOf P Q ops F C' R' accB o V'))
def eachTwo (P : Program) (Q : Exit → Act → World → Prop) (ops : List Oper) (F : (Nat → Value) → Act) (C C' : World → Prop) (R R' RS : World → World → Prop) (s : Nat) : List Oper → Nat → List Vp → List Vp → Prop
  | [], _, _, accB => ∀ u w, C' w → allOf accB 0 u w → Q .normal (F u) w
  | o :: l, k, accA, accB => ∃ V V' : Vp, (∀ v w w', C w' → R w w' → V v w → V v w') ∧ (∀ v w w', C' w' → R' w w' → V' v w → V' v w') ∧ opTwo P Q ops F C C' R R' RS s k o V V' accA accB ∧ eachTwo P Q ops F C C' R R' RS s l (k + 1) (accA ++ [V]) (accB ++ [V'])
theorem getD_app_left {acc : List Vp} {V : Vp} {F : List Vp} (h : ∀ j, j < (acc ++ [V]).length → F.getD j (fun _ _ => True) = (acc ++ [V]).getD j (fun _ _ => True)) : (∀ j, j < acc.length → F.getD j (fun _ _ => True) = acc.getD j (fun _ _ => True)) ∧ F.getD acc.length (fun _ _ => True) = V := by
  constructor
  · intro j hj
    rw [h j (by rw [List.length_append]; omega), List.getD_eq_getElem?_getD, List.getD_eq_getElem?_getD, List.getElem?_append_left hj]
  · rw [h _ (by rw [List.length_append]; simp)]
    simp
theorem stepOf_facts {ops : List Oper} {F : (Nat → Value) → Act} {C : World → Prop} {R : World → World → Prop} {acc acc' : List Vp} {o : Oper} {V : Vp} {n : Nat} (hp : ∀ j, j < n → acc'.getD j (fun _ _ => True) = acc.getD j (fun _ _ => True)) (he : ∀ e ∈ o.after.toList, Region.binds .any e = true → e.on < n) (h : stepOf P Q ops F C R acc o V) : stepOf P Q ops F C R acc' o V :=
  fun u w hc hf => h u w hc (facts_mono hp he hf)
theorem eachTwo_out {ops : List Oper} {Fr : (Nat → Value) → Act} {C C' : World → Prop} {R R' RS : World → World → Prop} {s : Nat} : ∀ (l : List Oper) (accA accB : List Vp), accA.length = accB.length → backB l accA.length = true →
    (∀ V ∈ accA, ∀ v w w', C w' → R w w' → V v w → V v w') → (∀ V ∈ accB, ∀ v w w', C' w' → R' w w' → V v w → V v w') → eachTwo P Q ops Fr C C' R R' RS s l accA.length accA accB →
    ∃ FA FB : List Vp, (∀ j, j < accA.length → FA.getD j (fun _ _ => True) = accA.getD j (fun _ _ => True)) ∧ (∀ j, j < accA.length → FB.getD j (fun _ _ => True) = accB.getD j (fun _ _ => True)) ∧ FA.length = accA.length + l.length ∧ FB.length = accA.length + l.length ∧
      (∀ V ∈ FA, ∀ v w w', C w' → R w w' → V v w → V v w') ∧ (∀ V ∈ FB, ∀ v w w', C' w' → R' w w' → V v w → V v w') ∧
      (∀ i o, l[i]? = some o → opTwo P Q ops Fr C C' R R' RS s (accA.length + i) o (FA.getD (accA.length + i) (fun _ _ => True)) (FB.getD (accA.length + i) (fun _ _ => True)) FA FB) ∧ ∀ u w, C' w → allOf FB 0 u w → Q .normal (Fr u) w
  | [], accA, accB, hl, _, hA, hB, h => ⟨accA, accB, fun _ _ => rfl, fun _ _ => rfl, by simp, by simp [hl], hA, hB, fun i o h => by simp at h, h⟩
  | o :: l, accA, accB, hl, hb, hA, hB, h => by
    obtain ⟨V, V', hV, hV', hop, hr⟩ := h
    have hb' := hb
    simp only [backB, Bool.and_eq_true] at hb'
    obtain ⟨FA, FB, p1, p2, l1, l2, m1, m2, hs, hend⟩ := eachTwo_out l (accA ++ [V]) (accB ++ [V']) (by simp [hl]) (by rw [List.length_append]; exact hb'.2) (fun W hW => by
      rcases List.mem_append.1 hW with h' | h'
      · exact hA W h'
      · rw [List.mem_singleton.1 h']; exact hV) (fun W hW => by
      rcases List.mem_append.1 hW with h' | h'
      · exact hB W h'
      · rw [List.mem_singleton.1 h']; exact hV') (by rw [List.length_append]; exact hr)
    obtain ⟨q1, e1⟩ := getD_app_left p1
    have p2' : ∀ j, j < (accB ++ [V']).length → FB.getD j (fun _ _ => True) = (accB ++ [V']).getD j (fun _ _ => True) := fun j hj => p2 j (by simp [hl] at hj ⊢; omega)
    obtain ⟨q2, e2⟩ := getD_app_left p2'
    rw [← hl] at q2 e2
    refine ⟨FA, FB, q1, q2, by rw [l1]; simp; omega, by rw [l2]; simp; omega, m1, m2, fun i o' hi => ?_, hend⟩
    cases i with
    | zero =>
      simp only [List.getElem?_cons_zero, Option.some.injEq] at hi
      subst hi
      rw [Nat.add_zero, e1, e2]
      have he : ∀ e ∈ o.after.toList, Region.binds .any e = true → e.on < accA.length := fun e he hbi => by
        have := backB_at (o :: l) accA.length 0 o hb rfl e (by simpa using he) hbi
        omega
      rcases hop with ⟨h1, h2, h3⟩ | ⟨h1, h2, h3, h4⟩
      · exact .inl ⟨h1, h2, fun u w hc hf => h3 u w hc (facts_mono q1 he hf)⟩
      · exact .inr ⟨h1, h2, h3.imp id (stepOf_facts q1 he), h4.imp id (stepOf_facts q2 he)⟩
    | succ i =>
      simp only [List.getElem?_cons_succ] at hi
      have := hs i o' hi
      rw [List.length_append] at this
      rw [show accA.length + (i + 1) = accA.length + [V].length + i by simp; omega]
      exact this
/-- the walk of such a region -/
theorem region_two {id : Nat} {a : Act} {w : World} {l : List Oper} {Fr : (Nat → Value) → Act} (s : Nat) (C C' : World → Prop) (R R' RS : World → World → Prop) (hF : ∀ u, fPut l 0 a u = Fr u) (hm : P.follows .mixedOrders = true) (hd : dstsB l = true) (hb : backB l 0 = true) (hs : s < l.length)
    (hC : C { w with drawn := w.drawn + 1 }) (h : eachTwo P Q l Fr C C' R R' RS s l 0 [] []) : (Code.region id l.toArray true).wp P Q a w := by
  have hFr : Fr = fPut l 0 a := funext fun u => (hF u).symm
  subst hFr
  obtain ⟨FA, FB, _, _, lenA, lenB, mA, mB, hstep, hend⟩ := eachTwo_out l [] [] rfl hb (fun V hV => by cases hV) (fun V hV => by cases hV) h
  simp only [List.length_nil, Nat.zero_add] at lenA lenB hstep
  have getM : ∀ {F : List Vp} {i : Nat} {v : Value} {w w' : World} {D : World → Prop} {T : World → World → Prop}, (∀ V ∈ F, ∀ v w w', D w' → T w w' → V v w → V v w') → D w' → T w w' → F.getD i (fun _ _ => True) v w → F.getD i (fun _ _ => True) v w' := fun {F i v w w' D T} hmo hD hT hv => by
    by_cases hi : i < F.length
    · rw [List.getD_eq_getElem?_getD, List.getElem?_eq_getElem hi] at hv ⊢
      exact hmo _ (List.getElem_mem hi) _ _ _ hD hT hv
    · rw [List.getD_eq_getElem?_getD, List.getElem?_eq_none (by omega)]
      trivial
  refine wp_region_any hm ?_
  refine wpAny_inv (fun listed a' w' => listed.size = l.length ∧ ClosedN l listed ∧ ∃ u, a' = fPut l 0 a u ∧ ((listed.getD s false = false ∧ C w' ∧ ∀ i, listed.getD i false = true → FA.getD i (fun _ _ => True) (u i) w') ∨ (listed.getD s false = true ∧ C' w' ∧ ∀ i, listed.getD i false = true → FB.getD i (fun _ _ => True) (u i) w'))) ?_ ?_ _ _ _ _ ?_ ?_
  · rintro listed a' w' i ⟨hsz, hcl, u, rfl, hph⟩ hi
    obtain ⟨hun, o, ho, hall⟩ := mem_ready.1 hi
    have ho' : l[i]? = some o := by simpa using ho
    have hlt : i < listed.size := by rw [hsz]; exact (List.getElem?_eq_some_iff.1 ho').1
    have hnl : listed.getD i false = false := by simpa [hlt] using hun
    have hcl2 : ClosedN l (listed.setIfInBounds i true) := fun m hm d hdm => by
      by_cases hmi : m = i
      · subst hmi
        unfold depsN at hdm
        rw [ho'] at hdm
        obtain ⟨e, he, rfl⟩ := List.mem_map.1 hdm
        obtain ⟨he1, he2⟩ := List.mem_filter.1 he
        exact getD_set_true (hall e (by simpa using he1) he2)
      · rw [getD_set_ne false (fun e => hmi e.symm)] at hm
        exact getD_set_true (hcl m hm d hdm)
    have hput : ∀ v, (fPut l 0 a u).put o.dst v = fPut l 0 a (updV u i v) := fun v => by
      have := fPut_upd l 0 a u i o v hd ho'
      rwa [Nat.zero_add] at this
    have hnew : ∀ {F : List Vp} {v : Value} {wx : World} (hv : F.getD i (fun _ _ => True) v wx) (hk : ∀ j, listed.getD j false = true → F.getD j (fun _ _ => True) (u j) wx), ∀ j, (listed.setIfInBounds i true).getD j false = true → F.getD j (fun _ _ => True) (updV u i v j) wx := fun {F v wx} hv hk j hj => by
      by_cases hji : j = i
      · subst hji; unfold updV; rw [if_pos rfl]; exact hv
      · rw [getD_set_ne false (fun e => hji e.symm)] at hj
        unfold updV; rw [if_neg hji]
        exact hk j hj
    have hop := hstep i o ho'
    -- a step that stays in its phase
    have plain : ∀ (D : World → Prop) (T : World → World → Prop) (F : List Vp) (W : Vp), W = F.getD i (fun _ _ => True) → D w' → (∀ V ∈ F, ∀ v w w', D w' → T w w' → V v w → V v w') → (∀ j, listed.getD j false = true → F.getD j (fun _ _ => True) (u j) w') → stepOf P Q l (fPut l 0 a) D T F o W →
        wpOp P l.toArray Q i (fun a'' w'' => ∃ u', a'' = fPut l 0 a u' ∧ D w'' ∧ ∀ j, (listed.setIfInBounds i true).getD j false = true → F.getD j (fun _ _ => True) (u' j) w'') (fPut l 0 a u) w' := fun D T F W hW hD hmo hk hst => by
      subst hW
      have hst := hst u w' hD (factsOf_mk F _ u w' fun e he hbi => hk _ (hall e (by simpa using he) hbi))
      unfold wpOp
      rw [ho]
      simp only
      split at hst
      · rename_i hw
        rw [if_pos hw]
        refine .inl (hst _ fun v w2 hc2 hr hv => ⟨updV u i v, hput v, hc2, hnew hv fun j hj => getM hmo hc2 hr (hk j hj)⟩)
      · rename_i hw
        rw [if_neg hw]
        have hup := hput undef
        exact ⟨updV u i undef, hup, hD, hnew hst hk⟩
    rcases hph with ⟨hs0, hc, hk⟩ | ⟨hs1, hc, hk⟩
    · rcases hop with ⟨rfl, hg, hS⟩ | ⟨hne, htr, hA, _⟩
      · have hS := hS u w' hc (factsOf_mk FA _ u w' fun e he hbi => hk _ (hall e (by simpa using he) hbi))
        unfold wpOp
        rw [ho]
        simp only
        have hw : Region.wanted o (yielded l.toArray (fPut l 0 a u).tmps) = true := by simp [Region.wanted, hg]
        rw [if_pos hw]
        refine .inl (hS _ fun v w2 hc2 hrs hv => ⟨by simpa using hsz, hcl2, updV u i v, hput v, .inr ⟨by simp [hlt], hc2, hnew hv fun j hj => ?_⟩⟩)
        -- what was known is turned into what is known behind it
        have hji : j ≠ i := fun e => by subst e; rw [hnl] at hj; cases hj
        have hjl : j < l.length := by
          rcases Nat.lt_or_ge j listed.size with h' | h'
          · omega
          · simp [Array.getElem?_eq_none h'] at hj
        rcases hstep j l[j] (List.getElem?_eq_getElem hjl) with ⟨e, _⟩ | ⟨_, htr, _⟩
        · exact absurd e hji
        · exact htr _ _ _ hc hc2 hrs (hk j hj)
      · rcases hA with hA | hA
        · -- s is waited for: it has come up
          exfalso
          cases hll : l.length with
          | zero => omega
          | succ f =>
            rw [hll] at hA
            replace hA : ((depsN l i).any fun d => d == s || ancB l f s d) = true := hA
            obtain ⟨d, hdm, h2⟩ := List.any_eq_true.1 hA
            have hdl : listed.getD d false = true := by
              unfold depsN at hdm
              rw [ho'] at hdm
              obtain ⟨e, he, rfl⟩ := List.mem_map.1 hdm
              obtain ⟨he1, he2⟩ := List.mem_filter.1 he
              exact hall e (by simpa using he1) he2
            rcases Bool.or_eq_true_iff.1 h2 with h4 | h4
            · rw [beq_iff_eq.1 h4, hs0] at hdl; cases hdl
            · rw [anc_listed hcl f s d h4 hdl] at hs0; cases hs0
        · refine wpOp_mono (fun a'' w'' => ?_) (plain C R FA _ rfl hc mA hk hA)
          rintro ⟨u', e, hD, hk'⟩
          exact ⟨by simpa using hsz, hcl2, u', e, .inl ⟨by rw [getD_set_ne false hne]; exact hs0, hD, hk'⟩⟩
    · rcases hop with ⟨rfl, _⟩ | ⟨hne, _, _, hB⟩
      · rw [hnl] at hs1; cases hs1
      · rcases hB with hB | hB
        · exfalso
          rw [anc_listed hcl _ i s hB hs1] at hnl
          cases hnl
        · refine wpOp_mono (fun a'' w'' => ?_) (plain C' R' FB _ rfl hc mB hk hB)
          rintro ⟨u', e, hD, hk'⟩
          exact ⟨by simpa using hsz, hcl2, u', e, .inr ⟨by rw [getD_set_ne false hne]; exact hs1, hD, hk'⟩⟩
  · rintro listed a' w' ⟨hsz, hcl, u, rfl, hph⟩ h0
    have key : ∀ n i, i < n → i < l.length → listed.getD i false ≠ true → False := fun n => by
      induction n with
      | zero => intro i hi; omega
      | succ n ih =>
        intro i hi hil hni
        have hmem : i ∈ Region.ready .any l.toArray listed := by
          refine mem_ready.2 ⟨?_, l[i], by simp [hil], fun e he hbi => ?_⟩
          · have : i < listed.size := by omega
            simp [this] at hni ⊢
            exact hni
          · refine Classical.byContradiction fun hne => ?_
            have := backB_at l 0 i l[i] hb (List.getElem?_eq_getElem hil) e he hbi
            exact ih e.on (by omega) (by omega) hne
        rw [h0] at hmem
        cases hmem
    have hall : ∀ i, i < l.length → listed.getD i false = true := fun i hi => Classical.byContradiction fun hn => key (i + 1) i (by omega) hi hn
    rcases hph with ⟨hs0, _⟩ | ⟨_, hc, hk⟩
    · rw [hall s hs] at hs0; cases hs0
    · exact hend u w' hc (allOf_mk FB 0 u w' fun i hi => by rw [Nat.zero_add]; exact hk i (hall i (by omega)))
  · refine ⟨by simp, fun m hm => by simp [Array.getElem?_replicate] at hm; split at hm <;> simp at hm, fun i => match l[i]? with | some o => (match o.dst with | some d => a.tmps.getD d undef | none => undef) | none => undef, ?_, .inl ⟨?_, hC, fun i hi => ?_⟩⟩
    · refine (fPut_self l 0 a _ fun i o d hi hd' => ?_).symm
      simp [hi, hd']
    · simp [Array.getElem?_replicate]
      split <;> simp
    · simp [Array.getElem?_replicate] at hi
      split at hi <;> simp at hi
  · intro listed' hs' _ hc
    have hs2 : listed'.toList.length = l.length := by simpa using hs'
    have hrep : (Array.replicate l.toArray.size false).toList.count true = 0 := by simp [List.count_replicate]
    rw [hrep, Nat.zero_add] at hc
    have hall : listed'.toList.count true = listed'.toList.length := Nat.le_antisymm List.count_le_length (by rw [hs2]; simpa using hc)
    rw [List.count_eq_length] at hall
    apply List.eq_nil_iff_forall_not_mem.2
    intro j hj
    obtain ⟨h1, o, ho, _⟩ := mem_ready.1 hj
    have hjl : j < listed'.size := by
      have : j < l.toArray.size := (Array.getElem?_eq_some_iff.1 ho).1
      simp at this hs2
      omega
    have h2 := hall listed'[j] (by simp [Array.getElem_mem])
    simp [hjl] at h1
    rw [h1] at h2
    cases h2
/-- the like, with a forced tail of operations from number n on -/
theorem region_twoT {id : Nat} {a : Act} {w : World} {l : List Oper} {Fr : (Nat → Value) → Act} (n s : Nat) (C C' : World → Prop) (R R' RS : World → World → Prop) (hF : ∀ u, fPut (l.take n) 0 a u = Fr u) (hm : P.follows .mixedOrders = true) (hd : dstsB (l.take n) = true) (hb : backB (l.take n) 0 = true)
    (hn : decide (n < l.length) = true) (hsk : Region.sinkB .any l.toArray n = true) (hch : Region.chainB .any l.toArray n = true) (hq : Region.seqB .any l.toArray (l.length - n) n (List.replicate n true ++ List.replicate (l.length - n) false).toArray = true) (hs : decide (s < n) = true)
    (hC : C { w with drawn := w.drawn + 1 }) (h : eachTwo P (endQ Q (wpList P l.toArray Q (l.drop n))) l Fr C C' R R' RS s (l.take n) 0 [] []) : (Code.region id l.toArray true).wp P Q a w := by
  have hFr : Fr = fPut (l.take n) 0 a := funext fun u => (hF u).symm
  have hn' : n < l.length := of_decide_eq_true hn
  have hs' : s < n := of_decide_eq_true hs
  subst hFr
  obtain ⟨FA, FB, _, _, lenA, lenB, mA, mB, hstep, hend⟩ := eachTwo_out (l.take n) [] [] rfl hb (fun V hV => by cases hV) (fun V hV => by cases hV) h
  simp only [List.length_nil, Nat.zero_add] at lenA lenB hstep
  have htl : (l.take n).length = n := by rw [List.length_take]; omega
  rw [htl] at lenA lenB
  have getM : ∀ {F : List Vp} {i : Nat} {v : Value} {w w' : World} {D : World → Prop} {T : World → World → Prop}, (∀ V ∈ F, ∀ v w w', D w' → T w w' → V v w → V v w') → D w' → T w w' → F.getD i (fun _ _ => True) v w → F.getD i (fun _ _ => True) v w' := fun {F i v w w' D T} hmo hD hT hv => by
    by_cases hi : i < F.length
    · rw [List.getD_eq_getElem?_getD, List.getElem?_eq_getElem hi] at hv ⊢
      exact hmo _ (List.getElem_mem hi) _ _ _ hD hT hv
    · rw [List.getD_eq_getElem?_getD, List.getElem?_eq_none (by omega)]
      trivial
  refine wp_region_any hm ?_
  have inv0 : HeadInv .any l.toArray n (Array.replicate l.toArray.size false) :=
    ⟨by simp, fun j oj _ hl => (by rw [getD_replicate_false] at hl; cases hl), fun t _ ht => getD_in (by simpa using ht) (getD_replicate_false _ _)⟩
  have H := wpAny_headTail (P := P) (Q := Q) hn' hsk hch hb hq (fun listed a' w' => listed.size = l.length ∧ ClosedN l listed ∧ ∃ u, a' = fPut (l.take n) 0 a u ∧ ((listed.getD s false = false ∧ C w' ∧ ∀ i, i < n → listed.getD i false = true → FA.getD i (fun _ _ => True) (u i) w') ∨ (listed.getD s false = true ∧ C' w' ∧ ∀ i, i < n → listed.getD i false = true → FB.getD i (fun _ _ => True) (u i) w'))) ?_ ?_ n (Array.replicate l.toArray.size false) a { w with drawn := w.drawn + 1 } inv0 ?_ ?_
  · rw [show n + (l.length - n) = l.length by omega] at H
    simpa using H
  · rintro listed a' w' i ⟨hsz, hcl, u, rfl, hph⟩ hin hi
    obtain ⟨hun, o, ho, hall⟩ := mem_ready.1 hi
    have ho' : l[i]? = some o := by simpa using ho
    have hot : (l.take n)[i]? = some o := by rw [List.getElem?_take, if_pos hin]; exact ho'
    have hlt : i < listed.size := by rw [hsz]; exact (List.getElem?_eq_some_iff.1 ho').1
    have hnl : listed.getD i false = false := by simpa [hlt] using hun
    have hdn : ∀ e ∈ o.after.toList, Region.binds .any e = true → e.on < n := fun e he hbi => by
      have := backB_at (l.take n) 0 i o hb hot e (by simpa using he) hbi
      omega
    have hcl2 : ClosedN l (listed.setIfInBounds i true) := fun m hm d hdm => by
      by_cases hmi : m = i
      · subst hmi
        unfold depsN at hdm
        rw [ho'] at hdm
        obtain ⟨e, he, rfl⟩ := List.mem_map.1 hdm
        obtain ⟨he1, he2⟩ := List.mem_filter.1 he
        exact getD_set_true (hall e (by simpa using he1) he2)
      · rw [getD_set_ne false (fun e => hmi e.symm)] at hm
        exact getD_set_true (hcl m hm d hdm)
    have hput : ∀ v, (fPut (l.take n) 0 a u).put o.dst v = fPut (l.take n) 0 a (updV u i v) := fun v => by
      have := fPut_upd (l.take n) 0 a u i o v hd hot
      rwa [Nat.zero_add] at this
    have hnew : ∀ {F : List Vp} {v : Value} {wx : World} (hv : F.getD i (fun _ _ => True) v wx) (hk : ∀ j, j < n → listed.getD j false = true → F.getD j (fun _ _ => True) (u j) wx), ∀ j, j < n → (listed.setIfInBounds i true).getD j false = true → F.getD j (fun _ _ => True) (updV u i v j) wx := fun {F v wx} hv hk j hjn hj => by
      by_cases hji : j = i
      · subst hji; unfold updV; rw [if_pos rfl]; exact hv
      · rw [getD_set_ne false (fun e => hji e.symm)] at hj
        unfold updV; rw [if_neg hji]
        exact hk j hjn hj
    have hop := hstep i o hot
    have plain : ∀ (D : World → Prop) (T : World → World → Prop) (F : List Vp) (W : Vp), W = F.getD i (fun _ _ => True) → D w' → (∀ V ∈ F, ∀ v w w', D w' → T w w' → V v w → V v w') → (∀ j, j < n → listed.getD j false = true → F.getD j (fun _ _ => True) (u j) w') → stepOf P (endQ Q (wpList P l.toArray Q (l.drop n))) l (fPut (l.take n) 0 a) D T F o W →
        wpOp P l.toArray Q i (fun a'' w'' => ∃ u', a'' = fPut (l.take n) 0 a u' ∧ D w'' ∧ ∀ j, j < n → (listed.setIfInBounds i true).getD j false = true → F.getD j (fun _ _ => True) (u' j) w'') (fPut (l.take n) 0 a u) w' := fun D T F W hW hD hmo hk hst => by
      subst hW
      have hst := hst u w' hD (factsOf_mk F _ u w' fun e he hbi => hk _ (hdn e he hbi) (hall e (by simpa using he) hbi))
      unfold wpOp
      rw [ho]
      simp only
      split at hst
      · rename_i hw
        rw [if_pos hw]
        refine .inl (wp_endQ (hst _ fun v w2 hc2 hr hv => ⟨updV u i v, hput v, hc2, hnew hv fun j hjn hj => getM hmo hc2 hr (hk j hjn hj)⟩))
      · rename_i hw
        rw [if_neg hw]
        have hup := hput undef
        exact ⟨updV u i undef, hup, hD, hnew hst hk⟩
    rcases hph with ⟨hs0, hc, hk⟩ | ⟨hs1, hc, hk⟩
    · rcases hop with ⟨rfl, hg, hS⟩ | ⟨hne, htr, hA, _⟩
      · have hS := hS u w' hc (factsOf_mk FA _ u w' fun e he hbi => hk _ (hdn e he hbi) (hall e (by simpa using he) hbi))
        unfold wpOp
        rw [ho]
        simp only
        have hw : Region.wanted o (yielded l.toArray (fPut (l.take n) 0 a u).tmps) = true := by simp [Region.wanted, hg]
        rw [if_pos hw]
        refine .inl (wp_endQ (hS _ fun v w2 hc2 hrs hv => ⟨by simpa using hsz, hcl2, updV u i v, hput v, .inr ⟨by simp [hlt], hc2, hnew hv fun j hjn hj => ?_⟩⟩))
        have hji : j ≠ i := fun e => by subst e; rw [hnl] at hj; cases hj
        rcases hstep j (l.take n)[j] (List.getElem?_eq_getElem (by omega)) with ⟨e, _⟩ | ⟨_, htr, _⟩
        · exact absurd e hji
        · exact htr _ _ _ hc hc2 hrs (hk j hjn hj)
      · rcases hA with hA | hA
        · exfalso
          cases hll : l.length with
          | zero => omega
          | succ f =>
            rw [hll] at hA
            replace hA : ((depsN l i).any fun d => d == s || ancB l f s d) = true := hA
            obtain ⟨d, hdm, h2⟩ := List.any_eq_true.1 hA
            have hdl : listed.getD d false = true := by
              unfold depsN at hdm
              rw [ho'] at hdm
              obtain ⟨e, he, rfl⟩ := List.mem_map.1 hdm
              obtain ⟨he1, he2⟩ := List.mem_filter.1 he
              exact hall e (by simpa using he1) he2
            rcases Bool.or_eq_true_iff.1 h2 with h4 | h4
            · rw [beq_iff_eq.1 h4, hs0] at hdl; cases hdl
            · rw [anc_listed hcl f s d h4 hdl] at hs0; cases hs0
        · refine wpOp_mono (fun a'' w'' => ?_) (plain C R FA _ rfl hc mA hk hA)
          rintro ⟨u', e, hD, hk'⟩
          exact ⟨by simpa using hsz, hcl2, u', e, .inl ⟨by rw [getD_set_ne false hne]; exact hs0, hD, hk'⟩⟩
    · rcases hop with ⟨rfl, _⟩ | ⟨hne, _, _, hB⟩
      · rw [hnl] at hs1; cases hs1
      · rcases hB with hB | hB
        · exfalso
          rw [anc_listed hcl _ i s hB hs1] at hnl
          cases hnl
        · refine wpOp_mono (fun a'' w'' => ?_) (plain C' R' FB _ rfl hc mB hk hB)
          rintro ⟨u', e, hD, hk'⟩
          exact ⟨by simpa using hsz, hcl2, u', e, .inr ⟨by rw [getD_set_ne false hne]; exact hs1, hD, hk'⟩⟩
  · rintro a' w' ⟨_, _, u, rfl, hph⟩
    have hin : ∀ i, i < n → (List.replicate n true ++ List.replicate (l.length - n) false).toArray.getD i false = true := fun i hi => by
      simp [Array.getD_eq_getD_getElem?, List.getElem?_append, hi]
    rcases hph with ⟨hs0, _⟩ | ⟨_, hc, hk⟩
    · rw [hin s hs'] at hs0; cases hs0
    · exact hend u w' hc (allOf_mk FB 0 u w' fun i hi => by rw [Nat.zero_add]; exact hk i (by omega) (hin i (by omega)))
  · refine ⟨by simp, (fun m hm => by rw [getD_replicate_false] at hm; cases hm), (fun i => match (l.take n)[i]? with | some o => (match o.dst with | some d => a.tmps.getD d undef | none => undef) | none => undef), ?_, .inl ⟨getD_replicate_false _ _, hC, fun i _ hi => ?_⟩⟩
    · refine (fPut_self (l.take n) 0 a _ fun i o d hi hd' => ?_).symm
      simp only [Nat.zero_add, hi, hd']
    · rw [getD_replicate_false] at hi; cases hi
  · simp [List.count_replicate]
section
variable {ops l : List Oper} {Fr : (Nat → Value) → Act} {C C' : World → Prop} {R R' RS : World → World → Prop} {s k : Nat} {accA accB : List Vp} {o : Oper}
theorem do_step {C : World → Prop} {R : World → World → Prop} {acc : List Vp} (V : Vp) (hg : o.guard = none) (h : ∀ u w, C w → factsOf acc o.after.toList u w → ∃ v w', (execOp (Fr u).eval o).run P w = .ok (.value v) w' ∧ C w' ∧ R w w' ∧ V v w') : stepOf P Q ops Fr C R acc o V := fun u w hc hf => by
  have hw : Region.wanted o (yielded ops.toArray (Fr u).tmps) = true := by simp [Region.wanted, hg]
  rw [if_pos hw]
  intro K hK
  obtain ⟨v, w', h1, h2, h3, h4⟩ := h u w hc hf
  unfold Oper.wp
  rw [h1]
  exact hK v w' h2 h3 h4
theorem skip_step {C : World → Prop} {R : World → World → Prop} {acc : List Vp} (V : Vp) (hg : o.guard = none) (h : ∀ u w, C w → factsOf acc o.after.toList u w → ∃ w', (execOp (Fr u).eval o).run P w = .ok .skip w' ∧ C w' ∧ R w w' ∧ V undef w') : stepOf P Q ops Fr C R acc o V := fun u w hc hf => by
  have hw : Region.wanted o (yielded ops.toArray (Fr u).tmps) = true := by simp [Region.wanted, hg]
  rw [if_pos hw]
  intro K hK
  obtain ⟨w', h1, h2, h3, h4⟩ := h u w hc hf
  unfold Oper.wp
  rw [h1]
  exact hK undef w' h2 h3 h4
theorem call_step {C : World → Prop} {R : World → World → Prop} {acc : List Vp} (V : Vp) (hg : o.guard = none) (h : ∀ u w, C w → factsOf acc o.after.toList u w → ∃ f args, (execOp (Fr u).eval o).run P w = .ok (.enter f args) w ∧ Calls P f args w fun e w' => ∃ v, e = .returned v ∧ C w' ∧ R w w' ∧ V v w') : stepOf P Q ops Fr C R acc o V := fun u w hc hf => by
  have hw : Region.wanted o (yielded ops.toArray (Fr u).tmps) = true := by simp [Region.wanted, hg]
  rw [if_pos hw]
  intro K hK
  obtain ⟨f, args, h1, h2⟩ := h u w hc hf
  unfold Oper.wp
  rw [h1]
  exact h2.mono fun e w' ⟨v, he, h3, h4, h5⟩ => by subst he; exact hK v w' h3 h4 h5
/-- a value that is read ahead of s -/
theorem two_preR {c : Value} (hR : ∀ w, R w w) (hk : k ≠ s) (hg : o.guard = none) (ha : ancB ops ops.length k s = true) (hA : ∀ u w, C w → factsOf accA o.after.toList u w → (execOp (Fr u).eval o).run P w = .ok (.value c) w)
    (hn : eachTwo P Q ops Fr C C' R R' RS s l (k + 1) (accA ++ [fun v _ => v = c]) (accB ++ [fun v _ => v = c])) : eachTwo P Q ops Fr C C' R R' RS s (o :: l) k accA accB :=
  ⟨fun v _ => v = c, fun v _ => v = c, fun _ _ _ _ _ h => h, fun _ _ _ _ _ h => h, .inr ⟨hk, fun _ _ _ _ _ _ h => h, .inr (do_step _ hg fun u w hc hf => ⟨c, w, hA u w hc hf, hc, hR w, rfl⟩), .inl ha⟩, hn⟩
/-- a value that is read behind s -/
theorem two_postR {c : Value} (hR : ∀ w, R' w w) (hk : k ≠ s) (hg : o.guard = none) (ha : ancB ops ops.length s k = true) (hB : ∀ u w, C' w → factsOf accB o.after.toList u w → (execOp (Fr u).eval o).run P w = .ok (.value c) w)
    (hn : eachTwo P Q ops Fr C C' R R' RS s l (k + 1) (accA ++ [fun v _ => v = c]) (accB ++ [fun v _ => v = c])) : eachTwo P Q ops Fr C C' R R' RS s (o :: l) k accA accB :=
  ⟨fun v _ => v = c, fun v _ => v = c, fun _ _ _ _ _ h => h, fun _ _ _ _ _ h => h, .inr ⟨hk, fun _ _ _ _ _ _ h => h, .inl ha, .inr (do_step _ hg fun u w hc hf => ⟨c, w, hB u w hc hf, hc, hR w, rfl⟩)⟩, hn⟩
/-- a value that may be read on either side of s -/
theorem two_bothR {c : Value} (hR : ∀ w, R w w) (hR' : ∀ w, R' w w) (hk : k ≠ s) (hg : o.guard = none) (hA : ∀ u w, C w → factsOf accA o.after.toList u w → (execOp (Fr u).eval o).run P w = .ok (.value c) w) (hB : ∀ u w, C' w → factsOf accB o.after.toList u w → (execOp (Fr u).eval o).run P w = .ok (.value c) w)
    (hn : eachTwo P Q ops Fr C C' R R' RS s l (k + 1) (accA ++ [fun v _ => v = c]) (accB ++ [fun v _ => v = c])) : eachTwo P Q ops Fr C C' R R' RS s (o :: l) k accA accB :=
  ⟨fun v _ => v = c, fun v _ => v = c, fun _ _ _ _ _ h => h, fun _ _ _ _ _ h => h, .inr ⟨hk, fun _ _ _ _ _ _ h => h, .inr (do_step _ hg fun u w hc hf => ⟨c, w, hA u w hc hf, hc, hR w, rfl⟩), .inr (do_step _ hg fun u w hc hf => ⟨c, w, hB u w hc hf, hc, hR' w, rfl⟩)⟩, hn⟩
/-- an operation ahead of s: what is known of it serves until s -/
theorem two_pre (V : Vp) (hV : ∀ v w w', C w' → R w w' → V v w → V v w') (hk : k ≠ s) (ha : ancB ops ops.length k s = true) (hA : stepOf P Q ops Fr C R accA o V)
    (hn : eachTwo P Q ops Fr C C' R R' RS s l (k + 1) (accA ++ [V]) (accB ++ [fun _ _ => True])) : eachTwo P Q ops Fr C C' R R' RS s (o :: l) k accA accB :=
  ⟨V, fun _ _ => True, hV, fun _ _ _ _ _ h => h, .inr ⟨hk, fun _ _ _ _ _ _ _ => trivial, .inr hA, .inl ha⟩, hn⟩
/-- an operation behind s -/
theorem two_post (V : Vp) (hV : ∀ v w w', C' w' → R' w w' → V v w → V v w') (hk : k ≠ s) (ha : ancB ops ops.length s k = true) (hB : stepOf P Q ops Fr C' R' accB o V)
    (hn : eachTwo P Q ops Fr C C' R R' RS s l (k + 1) (accA ++ [fun _ _ => False]) (accB ++ [V])) : eachTwo P Q ops Fr C C' R R' RS s (o :: l) k accA accB :=
  ⟨fun _ _ => False, V, fun _ _ _ _ _ h => h, hV, .inr ⟨hk, fun _ _ _ _ _ _ h => h.elim, .inl ha, .inr hB⟩, hn⟩
/-- an operation on either side of s -/
theorem two_both (V V' : Vp) (hV : ∀ v w w', C w' → R w w' → V v w → V v w') (hV' : ∀ v w w', C' w' → R' w w' → V' v w → V' v w') (hk : k ≠ s) (ht : ∀ v w w', C w → C' w' → RS w w' → V v w → V' v w') (hA : stepOf P Q ops Fr C R accA o V) (hB : stepOf P Q ops Fr C' R' accB o V')
    (hn : eachTwo P Q ops Fr C C' R R' RS s l (k + 1) (accA ++ [V]) (accB ++ [V'])) : eachTwo P Q ops Fr C C' R R' RS s (o :: l) k accA accB :=
  ⟨V, V', hV, hV', .inr ⟨hk, ht, .inr hA, .inr hB⟩, hn⟩
/-- s itself -/
theorem two_s (V : Vp) (hV : ∀ v w w', C' w' → R' w w' → V v w → V v w') (hk : k = s) (hg : o.guard = none) (hS : ∀ u w, C w → factsOf accA o.after.toList u w → ∃ v w', (execOp (Fr u).eval o).run P w = .ok (.value v) w' ∧ C' w' ∧ RS w w' ∧ V v w')
    (hn : eachTwo P Q ops Fr C C' R R' RS s l (k + 1) (accA ++ [fun _ _ => True]) (accB ++ [V])) : eachTwo P Q ops Fr C C' R R' RS s (o :: l) k accA accB :=
  ⟨fun _ _ => True, V, fun _ _ _ _ _ h => h, hV, .inl ⟨hk, hg, fun u w hc hf K hK => by
    obtain ⟨v, w', h1, h2, h3, h4⟩ := hS u w hc hf
    unfold Oper.wp
    rw [h1]
    exact hK v w' h2 h3 h4⟩, hn⟩
end
end
end Go.Proofs.YtgoeadgpbidgiaaGreatDoor
