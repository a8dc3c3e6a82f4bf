/-
  The text of a system, of the reference.
-/
import Derived.Test.YtgoeadgpbidgiaaGreatClp14
import Derived.Test.YtgoeadgpbidgiaaGreatClp23
import Derived.Test.YtgoeadgpbidgiaaGreatClp19
import Derived.Test.YtgoeadgpbidgiaaGreatClp05
import Derived.Test.YtgoeadgpbidgiaaGreatClp10
import Derived.Test.YtgoeadgpbidgiaaGreatClp04
import Derived.Test.YtgoeadgpbidgiaaGreatClp07
import Derived.Deep.DeepCutAuto
namespace Go.Proofs.YtgoeadgpbidgiaaGreat
open Go.RowKit
set_option linter.unusedVariables false
theorem nextF_last (R : List RulD) (r : RulD) : nthR (nextF R r) ((nextF R r).length - 1) = r := by
  have h := nextF_len R r
  have h2 : (mapF R r (keptF R r.1)).length = (keptF R r.1).length := by unfold mapF; rw [List.length_map]
  rw [nthR_lt (by omega)]
  unfold nextF at h ⊢
  rw [List.getElem_append_right (by rw [h]; omega)]
  simp
theorem own_ctx {l x y : List UInt8} (h : l = x ++ (l ++ y)) : x = [] ∧ y = [] := by
  have := congrArg List.length h
  simp only [List.length_append] at this
  exact ⟨List.eq_nil_of_length_eq_zero (by omega), List.eq_nil_of_length_eq_zero (by omega)⟩
theorem turn_old {k : Int} {R Qt : List RulD} {q : RulD} (hs : sysP k R) (hq : wordOkB k q.1 = true ∧ wordOkB k q.2 = true) (he : nfC R q.1 = nfC R q.2) :
    TurnOld (SR R) (SR (q :: Qt)) (SR Qt) q.1.data.toList q.2.data.toList (nfC R q.1).data.toList := by
  refine ⟨sys_dwn hs, ?_, (nfC_red hs.weak hq.1).1, by rw [he]; exact (nfC_red hs.weak hq.2).1⟩
  rintro _ _ ⟨p, hp, rfl, rfl⟩
  rcases List.mem_cons.1 hp with rfl | hp
  · exact .inl ⟨rfl, rfl⟩
  · exact .inr ⟨p, hp, rfl, rfl⟩
theorem turn_new {k : Int} {R Qt : List RulD} {q r : RulD} (hs : sysP k R) (hq : wordOkB k q.1 = true ∧ wordOkB k q.2 = true) (hne : ¬ nfC R q.1 = nfC R q.2) (hor : orF2 (nfC R q.1) (nfC R q.2) = r) (hr : NewR k r) (h12 : ¬ 12 < (nextF R r).length) :
    TurnNew (SR R) (SR (q :: Qt)) (SR (nextF R r)) (SR (Qt ++ goneF R r.1 ++ newQ (nextF R r))) (SR (keptF R r.1)) q.1.data.toList q.2.data.toList r.1.data.toList r.2.data.toList := by
  have hN := nextF_sys hs hr h12
  have hNne := sys_ne hN.1
  have ha := allF_sys hs hr
  have hlast := nextF_last R r
  have hlen := nextF_len R r
  have hll : (nextF R r).length - 1 < (nextF R r).length := by omega
  have hrne := less_ne hr.less
  have inQ : ∀ {i j : Nat} {p : PairD}, i < (nextF R r).length → j < (nextF R r).length → (p ∈ inF (nextF R r) i j ∨ p ∈ acF (nextF R r) i j) → lastP (nextF R r) p = true → SR (Qt ++ goneF R r.1 ++ newQ (nextF R r)) (leftP (nextF R r) p).data.toList (rightP (nextF R r) p).data.toList := fun hi hj hp hl =>
    ⟨sidesF (nextF R r) _, List.mem_append.2 (.inr (List.mem_map.2 ⟨_, List.mem_filter.2 ⟨mem_pairs hi hj hp, hl⟩, rfl⟩)), rfl, rfl⟩
  have redA : ∀ {u : ByteArray}, wordOkB k u = true → Red (AllR (SR (keptF R r.1)) r.1.data.toList r.2.data.toList) u.data.toList (nfC (allF R r) u).data.toList := fun hu =>
    (nfC_red ha hu).1.mono (by
      rintro _ _ ⟨p, hp, rfl, rfl⟩
      rcases List.mem_append.1 hp with hp | hp
      · exact .inl ⟨p, hp, rfl, rfl⟩
      · rw [List.mem_singleton.1 hp]; exact .inr ⟨rfl, rfl⟩)
  refine ⟨sys_dwn hs, ?_, ?_, ?_, lessS_wt hr.less, ?_, ?_, ?_, ?_, ?_, ?_, ?_⟩
  · rintro _ _ ⟨p, hp, rfl, rfl⟩
    exact ⟨p, (List.mem_filter.1 hp).1, rfl, rfl⟩
  · rintro _ _ ⟨p, hp, rfl, rfl⟩
    rcases List.mem_cons.1 hp with rfl | hp
    · exact .inl ⟨rfl, rfl⟩
    · exact .inr ⟨p, List.mem_append.2 (.inl (List.mem_append.2 (.inl hp))), rfl, rfl⟩
  · have h1 := (nfC_red hs.weak hq.1).1
    have h2 := (nfC_red hs.weak hq.2).1
    rcases orF2_cases (nfC R q.1) (nfC R q.2) with e | e <;> rw [e] at hor <;> subst hor
    · exact .inr ⟨h1, h2⟩
    · exact .inl ⟨h1, h2⟩
  · rintro _ _ ⟨p, hp, rfl, rfl⟩
    cases hb : hasB p.1 r.1
    · refine .inr ⟨_, ⟨p, List.mem_filter.2 ⟨hp, by rw [hb]; rfl⟩, rfl, rfl⟩, ⟨(p.1, nfC (allF R r) p.2), nextF_mem.2 (.inl ⟨p, List.mem_filter.2 ⟨hp, by rw [hb]; rfl⟩, rfl⟩), rfl, rfl⟩, redA (hs.1.2 p hp).1.1.2⟩
    · exact .inl ⟨p, List.mem_append.2 (.inl (List.mem_append.2 (.inr (List.mem_filter.2 ⟨hp, hb⟩)))), rfl, rfl⟩
  · exact ⟨r, nextF_mem.2 (.inr rfl), rfl, rfl⟩
  · rintro _ _ ⟨p, hp, rfl, rfl⟩
    rcases nextF_mem.1 hp with ⟨q2, hq2, rfl⟩ | rfl
    · exact .inr ⟨_, ⟨q2, hq2, rfl, rfl⟩, redA (hs.1.2 q2 ((List.mem_filter.1 hq2).1)).1.1.2⟩
    · exact .inl ⟨rfl, rfl⟩
  · rintro _ _ x y ⟨p, hp, rfl, rfl⟩ e
    obtain ⟨j, hj, rfl⟩ := mem_nthR hp
    by_cases hjl : j = (nextF R r).length - 1
    · subst hjl
      rw [hlast] at e ⊢
      obtain ⟨rfl, rfl⟩ := own_ctx e
      exact .inl ⟨rfl, rfl, rfl⟩
    · have e2 : (nthR (nextF R r) ((nextF R r).length - 1)).1.data.toList = x ++ ((nthR (nextF R r) j).1.data.toList ++ y) := by rw [hlast]; exact e
      obtain ⟨h1, h2, h3⟩ := pair_in (R := nextF R r) (fun h => hjl h.symm) (hNne _ hp) e2
      have h4 := inQ hll hj (.inl h1) (by simp [lastP, inP])
      rw [h2, h3, hlast] at h4
      exact .inr h4
  · rintro _ _ x y ⟨p, hp, rfl, rfl⟩ e
    obtain ⟨j, hj, rfl⟩ := mem_nthR hp
    by_cases hjl : j = (nextF R r).length - 1
    · subst hjl
      rw [hlast] at e ⊢
      obtain ⟨rfl, rfl⟩ := own_ctx e
      exact .inl ⟨rfl, rfl, rfl⟩
    · have e2 : (nthR (nextF R r) j).1.data.toList = x ++ ((nthR (nextF R r) ((nextF R r).length - 1)).1.data.toList ++ y) := by rw [hlast]; exact e
      obtain ⟨h1, h2, h3⟩ := pair_in (R := nextF R r) hjl (by rw [hlast]; exact hrne) e2
      have h4 := inQ hj hll (.inl h1) (by simp [lastP, inP])
      rw [h2, h3, hlast] at h4
      exact .inr h4
  · rintro _ _ x t y ⟨p, hp, rfl, rfl⟩ e1 e2 ht hx hy
    obtain ⟨j, hj, rfl⟩ := mem_nthR hp
    have e3 : (nthR (nextF R r) ((nextF R r).length - 1)).1.data.toList = x ++ t := by rw [hlast]; exact e1
    obtain ⟨h1, _, h2, h3⟩ := pair_ac (R := nextF R r) e3 e2 ht hx hy
    have h4 := inQ hll hj (.inr h1) (by simp [lastP, acP])
    rw [h2, h3, hlast] at h4
    exact h4
  · rintro _ _ x t y ⟨p, hp, rfl, rfl⟩ e1 e2 ht hx hy
    obtain ⟨j, hj, rfl⟩ := mem_nthR hp
    have e3 : (nthR (nextF R r) ((nextF R r).length - 1)).1.data.toList = t ++ y := by rw [hlast]; exact e2
    obtain ⟨h1, _, h2, h3⟩ := pair_ac (R := nextF R r) e1 e3 ht hx hy
    have h4 := inQ hj hll (.inr h1) (by simp [lastP, acP])
    rw [h2, h3, hlast] at h4
    exact h4
/-- what a turn keeps: pairs stay connected, and what was connected by rules and equations -/
structure KeepsK (R Q R' Q' : List RulD) : Prop where
  crit : Crit (SR R) (Uni (SR R) (SR Q)) → Crit (SR R') (Uni (SR R') (SR Q'))
  sim : ∀ (n : Nat) (u v : List UInt8), Stp (Uni (SR R) (SR Q)) u v → wt u < n → wt v < n → Conn (Uni (SR R') (SR Q')) n u v
theorem KeepsK.trans {R Q R1 Q1 R2 Q2 : List RulD} (a : KeepsK R Q R1 Q1) (b : KeepsK R1 Q1 R2 Q2) : KeepsK R Q R2 Q2 :=
  ⟨fun h => b.crit (a.crit h), fun n u v s hu hv => (a.sim n u v s hu hv).sim (fun u v s hu hv => b.sim n u v s hu hv)⟩
theorem KeepsK.refl (R Q : List RulD) : KeepsK R Q R Q := ⟨fun h => h, fun n u v s hu hv => .fwd hu hv s (.refl _)⟩
theorem WorkP.keeps {k : Int} {R Q : List RulD} {T : Nat} (h : WorkP k R Q T) (hQ : Q ≠ []) (hc : (turnF R Q T).1 = 0) : KeepsK R Q (turnF R Q T).2.1 (turnF R Q T).2.2.1 := by
  cases Q with
  | nil => exact absurd rfl hQ
  | cons q Qt =>
    have hq := h.word q List.mem_cons_self
    unfold turnF at hc ⊢
    simp only at hc ⊢
    by_cases c1 : T = 200
    · rw [if_pos c1] at hc; cases hc
    rw [if_neg c1] at hc ⊢
    by_cases c2 : nfC R q.1 = nfC R q.2
    · rw [if_pos c2]
      have t := turn_old (Qt := Qt) h.sys hq c2
      exact ⟨t.crit, fun n u v s hu hv => t.sim s hu hv⟩
    rw [if_neg c2] at hc ⊢
    by_cases c3 : 8 < (orF2 (nfC R q.1) (nfC R q.2)).1.size
    · rw [if_pos c3] at hc; cases hc
    rw [if_neg c3] at hc ⊢
    by_cases c4 : 12 < (nextF R (orF2 (nfC R q.1) (nfC R q.2))).length
    · rw [if_pos c4] at hc; cases hc
    rw [if_neg c4] at hc ⊢
    by_cases c5 : 400 < (Qt ++ goneF R (orF2 (nfC R q.1) (nfC R q.2)).1 ++ newQ (nextF R (orF2 (nfC R q.1) (nfC R q.2)))).length
    · rw [if_pos c5] at hc; cases hc
    rw [if_neg c5]
    have t := turn_new (Qt := Qt) h.sys hq c2 rfl (orF2_new h.sys hq c2 c3) c4
    exact ⟨t.crit, fun n u v s hu hv => t.sim s hu hv⟩
theorem RunIs.work {k : Int} {R Q : List RulD} {T c : Nat} {R' Q' : List RulD} {T' : Nat} (r : RunIs R Q T c R' Q' T') (h : WorkP k R Q T) : WorkP k R' Q' T' ∧ KeepsK R Q R' Q' ∧ (c = 0 → Q' = []) := by
  induction r with
  | done => exact ⟨h, .refl _ _, fun _ => rfl⟩
  | fail _ h2 => exact ⟨h, .refl _ _, fun h3 => absurd h3 h2⟩
  | step h1 h2 _ ih =>
    obtain ⟨i1, i2, i3⟩ := ih (h.turn h2)
    exact ⟨i1, (h.keeps h1 h2).trans i2, i3⟩
theorem uni_nil {R : List RulD} {l r : List UInt8} (h : Uni (SR R) (SR []) l r) : SR R l r := by
  rcases h with h | ⟨p, hp, _⟩
  · exact h
  · cases hp
/-- a completion that starts without rules and ends well -/
theorem run_comp {k : Int} {Q R' Q' : List RulD} {T' : Nat} (h : WorkP k [] Q 0) (r : RunIs [] Q 0 0 R' Q' T') :
    ComplP k R' ∧ ∀ q ∈ Q, ∀ x y, NormIs R' q.1 x → NormIs R' q.2 y → x = y := by
  obtain ⟨h1, h2, h3⟩ := r.work h
  obtain rfl := h3 rfl
  have c0 : Crit (SR []) (Uni (SR []) (SR Q)) := ⟨fun l1 r1 l2 r2 x y ⟨p, hp, _⟩ => (by cases hp), fun l1 r1 l2 r2 x t y ⟨p, hp, _⟩ => (by cases hp)⟩
  have toS : ∀ {n : Nat} {u v : List UInt8}, Conn (Uni (SR R') (SR [])) n u v → Conn (SR R') n u v := fun c => c.sim (fun u v s hu hv => .fwd hu hv (s.mono fun l r h => uni_nil h) (.refl _))
  have c1 := h2.crit c0
  have c2 : Crit (SR R') (SR R') := ⟨fun l1 r1 l2 r2 x y a b e => toS (c1.inn l1 r1 l2 r2 x y a b e), fun l1 r1 l2 r2 x t y a b e1 e2 e3 e4 e5 => toS (c1.acr l1 r1 l2 r2 x t y a b e1 e2 e3 e4 e5)⟩
  refine ⟨comp_of_crit h1.sys c2, fun q hq x y hx hy => ?_⟩
  have s : Stp (Uni (SR []) (SR Q)) q.1.data.toList q.2.data.toList := Stp.rule (.inr ⟨q, hq, rfl, rfl⟩)
  have c := toS (h2.sim (max (wt q.1.data.toList) (wt q.2.data.toList) + 1) _ _ s (by omega) (by omega))
  exact ba_lists (conf_conn (sys_dwn h1.sys) c2 c (norm_nf (sys_ne h1.sys.1) hx) (norm_nf (sys_ne h1.sys.1) hy))
end Go.Proofs.YtgoeadgpbidgiaaGreat
namespace Go.Proofs.YtgoeadgpbidgiaaGreat
open Go.RowKit
set_option linter.unusedVariables false
/-- no rule is spare -/
structure InterP (R : List RulD) : Prop where
  left : R.Pairwise fun p q => hasB p.1 q.1 = false ∧ hasB q.1 p.1 = false
  right : ∀ p ∈ R, ∀ q ∈ R, hasB p.2 q.1 = false
theorem InterP.nil : InterP [] := ⟨.nil, fun p hp => by cases hp⟩
theorem irr_has {R : List RulD} {v : ByteArray} (h : Irr (SR R) v.data.toList) {q : RulD} (hq : q ∈ R) (hne : q.1.size ≠ 0) : hasB v q.1 = false := by
  cases hb : hasB v q.1
  · rfl
  · obtain ⟨x, y, e⟩ := (hasB_iff hne).1 hb
    exact absurd ⟨x, q.1.data.toList, q.2.data.toList, y, ⟨q, hq, rfl, rfl⟩, e, rfl⟩ (h (x ++ (q.2.data.toList ++ y)))
theorem less_has {a b : ByteArray} (h : lessS a b = true) : hasB a b = false := by
  cases hb : hasB a b
  · rfl
  · obtain ⟨x, y, e⟩ := (hasB_iff (less_ne h)).1 hb
    have h1 := lessS_size h
    have e1 : a.data.toList.length = a.size := rfl
    have e2 : b.data.toList.length = b.size := rfl
    have e3 := congrArg List.length e
    simp only [List.length_append] at e3
    obtain rfl : x = [] := List.eq_nil_of_length_eq_zero (by omega)
    obtain rfl : y = [] := List.eq_nil_of_length_eq_zero (by omega)
    have e4 : a = b := ba_lists (by simpa using e)
    have h2 := lessS_wt h
    rw [e4] at h2
    omega
theorem InterP.next {k : Int} {R : List RulD} (h : InterP R) (hs : sysP k R) {r : RulD} (hr : NewR k r) (h1 : Irr (SR R) r.1.data.toList) (h2 : Irr (SR R) r.2.data.toList) : InterP (nextF R r) := by
  have ha := allF_sys hs hr
  have hne := sysW_ne ha
  have hneR := sys_ne hs.1
  have hK : ∀ x ∈ keptF R r.1, x ∈ R ∧ hasB x.1 r.1 = false := fun x hx => by
    have := List.mem_filter.1 hx
    exact ⟨this.1, by simpa using this.2⟩
  have inA : ∀ x ∈ keptF R r.1, x ∈ allF R r := fun x hx => List.mem_append.2 (.inl hx)
  have rA : r ∈ allF R r := List.mem_append.2 (.inr (List.mem_singleton.2 rfl))
  refine ⟨?_, fun p hp q hq => ?_⟩
  · unfold nextF mapF
    rw [List.pairwise_append]
    refine ⟨?_, List.pairwise_singleton _ _, fun a hA b hB => ?_⟩
    · rw [List.pairwise_map]
      exact (h.left.filter _)
    · obtain ⟨x, hx, rfl⟩ := List.mem_map.1 hA
      obtain rfl := List.mem_singleton.1 hB
      exact ⟨(hK x hx).2, irr_has (q := x) h1 (hK x hx).1 (hneR x (hK x hx).1)⟩
  · rcases nextF_mem.1 hp with ⟨x, hx, rfl⟩ | rfl
    · have hI := (nfC_red ha (hs.1.2 x (hK x hx).1).1.1.2).2
      rcases nextF_mem.1 hq with ⟨y, hy, rfl⟩ | rfl
      · exact irr_has (q := y) hI (inA y hy) (hne y (inA y hy))
      · exact irr_has hI rA (hne _ rA)
    · rcases nextF_mem.1 hq with ⟨y, hy, rfl⟩ | rfl
      · exact irr_has (q := y) h2 (hK y hy).1 (hneR y (hK y hy).1)
      · exact less_has hr.less
/-- a run there is -/
theorem RunIs.ex {k : Int} : ∀ (n : Nat) (R Q : List RulD) (T : Nat), 200 - T < n → WorkP k R Q T → ∃ c R' Q' T', RunIs R Q T c R' Q' T'
  | 0, R, Q, T, hn, h => by omega
  | n + 1, R, Q, T, hn, h => by
    cases hQ : Q with
    | nil => exact ⟨0, R, [], T, .done⟩
    | cons q Qt =>
      by_cases hc : (turnF R (q :: Qt) T).1 = 0
      · rw [hQ] at h
        have h2 := h.turn hc
        have hne : q :: Qt ≠ [] := by simp
        have hT : (turnF R (q :: Qt) T).2.2.2 = T + 1 ∧ T ≠ 200 := by
          unfold turnF at hc ⊢
          simp only at hc ⊢
          by_cases c1 : T = 200
          · rw [if_pos c1] at hc; cases hc
          refine ⟨?_, c1⟩
          rw [if_neg c1] at hc ⊢
          split
          · rfl
          · rename_i c2
            rw [if_neg c2] at hc
            split
            · rename_i c3; rw [if_pos c3] at hc; cases hc
            · rename_i c3
              rw [if_neg c3] at hc
              split
              · rename_i c4; rw [if_pos c4] at hc; cases hc
              · rename_i c4
                rw [if_neg c4] at hc
                split
                · rename_i c5; rw [if_pos c5] at hc; cases hc
                · rfl
        have ht := h.turns
        obtain ⟨c, R', Q', T', r⟩ := RunIs.ex n _ _ _ (by rw [hT.1]; omega) h2
        exact ⟨c, R', Q', T', .step hne hc r⟩
      · exact ⟨_, _, _, _, .fail (by simp) hc⟩
end Go.Proofs.YtgoeadgpbidgiaaGreat
namespace Go.Proofs.YtgoeadgpbidgiaaGreat
open Go.RowKit
set_option linter.unusedVariables false
theorem ruleCells_strS : ∀ (R : List RulD), ∀ v ∈ ruleCells R, ∃ s, v = .string s
  | [], v, hv => by cases hv
  | p :: l, v, hv => by
    simp only [ruleCells, List.mem_cons] at hv
    rcases hv with rfl | rfl | hv
    · exact ⟨_, rfl⟩
    · exact ⟨_, rfl⟩
    · exact ruleCells_strS l v hv
theorem put4_rules {W : World} {aR : Option Addr} {R : List RulD} {g : Nat} {k t : Int} {a1 a2 : Option Addr} {n1 c1 n2 c2 : Nat} {T : TypeId} (hl : RulesIn W aR R) (hz : W.heap[g]? = some (.cells #[.int .i64 k, .slice a1 n1 c1, .slice a2 n2 c2, .int .i64 t] T (0, 0))) (a b c d : Value) : RulesIn (put4 W g a b c d) aR R := by
  rcases hl with hl | ⟨bb, off, ha, hcs⟩
  · exact .inl hl
  · refine .inr ⟨bb, off, ha, fun i hi => ?_⟩
    have hc := hcs i hi
    have hne : bb ≠ g := by
      rintro rfl
      obtain ⟨s, hs⟩ := ruleCells_strS R _ (List.getElem_mem hi)
      rw [hs, cell_of_row _ _ _ _ _ _ hz] at hc
      match off + i, hc with
      | 0, hc => cases hc
      | 1, hc => cases hc
      | 2, hc => cases hc
      | 3, hc => cases hc
      | n + 4, hc => cases hc
    rw [World.cell?_of_block (w := W) (by
      unfold put4 World.setCell
      rw [Array.getElem?_modify, if_neg (fun e => hne e.symm), Array.getElem?_modify, if_neg (fun e => hne e.symm), Array.getElem?_modify, if_neg (fun e => hne e.symm), Array.getElem?_modify, if_neg (fun e => hne e.symm)])]
    exact hc
/-- what a run hands back -/
def RetRun (k : Int) (E : List RulD) (w : World) (e : Ending) (w' : World) : Prop :=
  (startP k E ∧ ∃ (c : Nat) (R Q : List RulD) (T : Nat) (aR : Option Addr) (cR : Nat) (aQ : Option Addr) (cQ : Nat), RunIs [] E 0 c R Q T ∧ e = .returned (.tuple #[workVal k aR R.length cR aQ Q.length cQ T, .int .i64 (c : Nat)]) ∧ RulesIn w' aR R ∧ RulesIn w' aQ Q ∧ Below w.heap.size w w') ∨
  (¬ startP k E ∧ e = .returned (.tuple #[workVal 0 none 0 0 none 0 0 0, .int .i64 4]) ∧ Below w.heap.size w w')
/-- where a run stands: the record at g -/
structure RunAt (w1 W : World) (g : Nat) (k : Int) (E R Q : List RulD) (T : Nat) (aR : Option Addr) (cR : Nat) (aQ : Option Addr) (cQ : Nat) : Prop where
  blk : W.heap[g]? = some (.cells #[.int .i64 k, .slice aR R.length cR, .slice aQ Q.length cQ, .int .i64 (T : Nat)] 74 (0, 0))
  rules : RulesIn W aR R
  queue : RulesIn W aQ Q
  work : WorkP k R Q T
  run : ∀ {c R' Q' T'}, RunIs R Q T c R' Q' T' → RunIs [] E 0 c R' Q' T'
  bel : Below w1.heap.size w1 W
theorem RunAt.later {w1 W W2 : World} {g : Nat} {k : Int} {E R Q : List RulD} {T : Nat} {aR aQ : Option Addr} {cR cQ : Nat} (h : RunAt w1 W g k E R Q T aR cR aQ cQ) (hb : Below W.heap.size W W2) : RunAt w1 W2 g k E R Q T aR cR aQ cQ :=
  ⟨block_later h.blk _ hb, h.rules.later hb, h.queue.later hb, h.work, h.run, Below.now h.bel hb⟩
theorem RunAt.put {w1 W : World} {g : Nat} {k : Int} {E R Q : List RulD} {T : Nat} {aR aQ : Option Addr} {cR cQ : Nat} (h : RunAt w1 W g k E R Q T aR cR aQ cQ) (hg : w1.heap.size ≤ g) (hQ : Q ≠ []) (hc : (turnF R Q T).1 = 0) {aR2 aQ2 : Option Addr} {cR2 cQ2 : Nat} (hR2 : RulesIn W aR2 (turnF R Q T).2.1) (hQ2 : RulesIn W aQ2 (turnF R Q T).2.2.1) :
    RunAt w1 (put4 W g (.int .i64 k) (.slice aR2 (turnF R Q T).2.1.length cR2) (.slice aQ2 (turnF R Q T).2.2.1.length cQ2) (.int .i64 ((turnF R Q T).2.2.2 : Nat))) g k E (turnF R Q T).2.1 (turnF R Q T).2.2.1 (turnF R Q T).2.2.2 aR2 cR2 aQ2 cQ2 :=
  ⟨(put4_sets h.blk _ _ _ _).2.2.2, put4_rules hR2 h.blk _ _ _ _, put4_rules hQ2 h.blk _ _ _ _, h.work.turn hc, fun r => h.run (.step hQ hc r), put4_below h.bel hg _ _ _ _⟩
theorem RunAt.turns {w1 W : World} {g : Nat} {k : Int} {E R Q : List RulD} {T : Nat} {aR aQ : Option Addr} {cR cQ : Nat} (h : RunAt w1 W g k E R Q T aR cR aQ cQ) (hc : (turnF R Q T).1 = 0) (hQ : Q ≠ []) : (turnF R Q T).2.2.2 = T + 1 ∧ T < 200 := by
  have ht := h.work.turns
  cases hq : Q with
  | nil => exact absurd hq hQ
  | cons q Qt =>
    rw [hq] at hc
    unfold turnF at hc ⊢
    simp only at hc ⊢
    by_cases c1 : T = 200
    · rw [if_pos c1] at hc; cases hc
    refine ⟨?_, by omega⟩
    rw [if_neg c1] at hc ⊢
    split
    · rfl
    · rename_i c2
      rw [if_neg c2] at hc
      split
      · rename_i c3; rw [if_pos c3] at hc; cases hc
      · rename_i c3
        rw [if_neg c3] at hc
        split
        · rename_i c4; rw [if_pos c4] at hc; cases hc
        · rename_i c4
          rw [if_neg c4] at hc
          split
          · rename_i c5; rw [if_pos c5] at hc; cases hc
          · rfl
def turnsLeft (W : World) (g : Nat) : Nat := match W.cell? ⟨g, 3, none⟩ with
  | some (.int _ t) => 201 - t.toNat
  | _ => 0
theorem turnsLeft_at {W : World} {g : Nat} {T : Nat} (h : W.cell? ⟨g, 3, none⟩ = some (.int .i64 (T : Nat))) : turnsLeft W g = 201 - T := by
  unfold turnsLeft
  rw [h]
  simp
set_option maxRecDepth 100000 in
set_option maxHeartbeats 4000000 in
theorem l06Run_any (k : Int) (E : List RulD) (a : Option Addr) (cap : Nat) (w : World) (hl : RulesIn w a E) (hlen : E.length ≤ 2 ^ 40) (hz : SzR E) :
    Calls Tryz.prog 39 #[.int .i64 k, .slice a E.length cap] w (RetRun k E w) := by
  have HL := Lib.hid hl
  have HW1 := Lib.hid (alloc_belowS w (.cells #[.int .i64 0, .slice none 0 0, .slice none 0 0, .int .i64 0] 74))
  have hsz : w.heap.size < (w.alloc (.cells #[.int .i64 0, .slice none 0 0, .slice none 0 0, .int .i64 0] 74)).heap.size := by simp
  have hat := alloc_at w (.cells #[.int .i64 0, .slice none 0 0, .slice none 0 0, .int .i64 0] 74)
  have HBK : Hid (∀ W, Below (w.alloc (.cells #[.int .i64 0, .slice none 0 0, .slice none 0 0, .int .i64 0] 74)).heap.size (w.alloc (.cells #[.int .i64 0, .slice none 0 0, .slice none 0 0, .int .i64 0] 74)) W → W.heap[w.heap.size]? = some (.cells #[.int .i64 0, .slice none 0 0, .slice none 0 0, .int .i64 0] 74 (0, 0))) := Lib.hid (fun W hW => (hW.block _ hsz).trans hat)
  have HSW := Lib.hid (fun W h => specStartWork_any k E a cap W h hlen hz)
  have HTW := Lib.hid (fun R q Qt T aR aQ cR cQ W h1 h2 h3 => specTurnWork_any k R q Qt T aR aQ cR cQ W h1 h2 h3)
  have HS1 := Lib.hid hsz
  clear hl hz hat hsz
  go_enter Tryz.func39, Tryz.ntmps39
  go_wp2_with fail
  generalize w.alloc (.cells #[.int .i64 0, .slice none 0 0, .slice none 0 0, .int .i64 0] 74) = w1 at *
  refine (HSW.out _ (HL.out.later HW1.out)).mono ?_
  rintro e w2 hr
  rcases hr with ⟨hst, aQ0, cQ0, rfl, hq0, hb2⟩ | ⟨hst, rfl, hb2⟩
  · have HB2 := Lib.hid hb2
    have HST := Lib.hid hst
    unfold workVal
    have HRA : Hid (RunAt w1 (w2.alloc (.cells #[.int .i64 k, .slice none ([] : List RulD).length 0, .slice aQ0 E.length cQ0, .int .i64 ((0 : Nat) : Int)] 74)) w2.heap.size k E [] E 0 none 0 aQ0 cQ0) :=
      Lib.hid ⟨alloc_at w2 _, .inl rfl, hq0.later (alloc_belowS w2 _), hst.work, fun r => r, Below.now hb2 (alloc_belowS w2 _)⟩
    have HG : Hid (w1.heap.size ≤ w2.heap.size) := Lib.hid hb2.size
    obtain ⟨q0, q1, q2, q3⟩ := (four_cells HRA.out.blk).1
    clear hst hq0 hb2
    go_wp2_with fail
    generalize hg2 : w2.heap.size = g at *
    go_loopw [] (fun wr => ∃ (R Q : List RulD) (T : Nat) (aR : Option Addr) (cR : Nat) (aQ : Option Addr) (cQ : Nat), Hid (RunAt w1 wr g k E R Q T aR cR aQ cQ)) (fun W => turnsLeft W g)
    case atStart => exact ⟨[], E, 0, none, 0, aQ0, cQ0, HRA⟩
    case round =>
      clear q0 q1 q2 q3 HRA
      obtain ⟨R, Q, T, aR, cR, aQ, cQ, HR⟩ := hrel
      obtain ⟨⟨q0, q1, q2, q3⟩, ff⟩ := four_cells HR.out.blk
      cases hQe : Q with
      | nil =>
        subst hQe
        have HQ0 : Hid (RunIs [] E 0 0 R [] T) := Lib.hid (HR.out.run .done)
        obtain ⟨⟨f0, f1, f2, f3⟩, ⟨u0, u1, u2, u3⟩, ⟨z0, z1, z2, z3⟩, _⟩ := put4_sets (HBK.out _ HR.out.bel) (.int .i64 k) (.slice aR R.length cR) (.slice aQ 0 cQ) (.int .i64 (T : Nat))
        have F : Hid (RetRun k E w (.returned (.tuple #[.agg #[.int .i64 k, .slice aR R.length cR, .slice aQ 0 cQ, .int .i64 (T : Nat)], .int .i64 0])) (put4 wr w.heap.size (.int .i64 k) (.slice aR R.length cR) (.slice aQ 0 cQ) (.int .i64 (T : Nat)))) :=
          Lib.hid (.inl ⟨HST.out, 0, R, [], T, aR, cR, aQ, cQ, HQ0.out, rfl, put4_rules HR.out.rules (HBK.out _ HR.out.bel) _ _ _ _, .inl rfl, put4_below (Below.now HW1.out HR.out.bel) (Nat.le_refl _) _ _ _ _⟩)
        simp only [List.length_nil] at q2
        unfold put4 at F u0 u1 u2 u3
        go_wp2_with fail
        refine bodyPost_ret (v := .tuple #[.agg #[.int .i64 k, .slice aR R.length cR, .slice aQ 0 cQ, .int .i64 (T : Nat)], .int .i64 0]) ?_ rfl F.out
        simp [results, Tryz.results39, go_sem, u0, u1, u2, u3]
      | cons q Qt =>
        subst hQe
        have hne : q :: Qt ≠ [] := by simp
        have HNE := Lib.hid hne
        have hpos : (0 : Int) < ((q :: Qt).length : Int) := by simp only [List.length_cons]; omega
        have HT := Lib.hid (HTW.out R q Qt T aR aQ cR cQ wr HR.out.rules HR.out.queue HR.out.work)
        have HTL := Lib.hid (fun h => HR.out.turns h HNE.out)
        have HM : Hid (turnsLeft wr g = 201 - T) := Lib.hid (turnsLeft_at q3)
        generalize q :: Qt = Q at *
        clear hne
        go_wp2_with fail
        refine HT.out.mono ?_
        rintro e w3 ⟨aR2, cR2, aQ2, cQ2, rfl, hR2, hQ2, hb3⟩
        unfold workVal
        have HB3 := Lib.hid hb3
        have HR3 := Lib.hid (HR.out.later (Below.now hb3 (alloc_belowS w3 (.cells #[.int .i64 k, .slice aR2 (turnF R Q T).2.1.length cR2, .slice aQ2 (turnF R Q T).2.2.1.length cQ2, .int .i64 ((turnF R Q T).2.2.2 : Nat)] 74))))
        have HR2 := Lib.hid (hR2.later (alloc_belowS w3 (.cells #[.int .i64 k, .slice aR2 (turnF R Q T).2.1.length cR2, .slice aQ2 (turnF R Q T).2.2.1.length cQ2, .int .i64 ((turnF R Q T).2.2.2 : Nat)] 74)))
        have HQ2 := Lib.hid (hQ2.later (alloc_belowS w3 (.cells #[.int .i64 k, .slice aR2 (turnF R Q T).2.1.length cR2, .slice aQ2 (turnF R Q T).2.2.1.length cQ2, .int .i64 ((turnF R Q T).2.2.2 : Nat)] 74)))
        have HAT := Lib.hid (alloc_at w3 (.cells #[.int .i64 k, .slice aR2 (turnF R Q T).2.1.length cR2, .slice aQ2 (turnF R Q T).2.2.1.length cQ2, .int .i64 ((turnF R Q T).2.2.2 : Nat)] 74))
        clear q0 q1 q2 q3 ff hb3 hR2 hQ2
        by_cases hc : (turnF R Q T).1 = 0
        · have HC := Lib.hid hc
          have hc2 : (((turnF R Q T).1 : Nat) : Int) = 0 := by omega
          have HTN := Lib.hid (HTL.out hc)
          have HP := Lib.hid (HR3.out.put (by first | exact HG.out | (rw [← hg2]; exact HG.out)) HNE.out hc (cR2 := cR2) (cQ2 := cQ2) HR2.out HQ2.out)
          obtain ⟨⟨f0, f1, f2, f3⟩, ⟨u0, u1, u2, u3⟩, ⟨z0, z1, z2, z3⟩, _⟩ := put4_sets HR3.out.blk (.int .i64 k) (.slice aR2 (turnF R Q T).2.1.length cR2) (.slice aQ2 (turnF R Q T).2.2.1.length cQ2) (.int .i64 ((turnF R Q T).2.2.2 : Nat))
          obtain ⟨⟨y0, y1, y2, y3⟩, _⟩ := four_cells HAT.out
          have HM2 : Hid (turnsLeft (put4 (w3.alloc (.cells #[.int .i64 k, .slice aR2 (turnF R Q T).2.1.length cR2, .slice aQ2 (turnF R Q T).2.2.1.length cQ2, .int .i64 ((turnF R Q T).2.2.2 : Nat)] 74)) g (.int .i64 k) (.slice aR2 (turnF R Q T).2.1.length cR2) (.slice aQ2 (turnF R Q T).2.2.1.length cQ2) (.int .i64 ((turnF R Q T).2.2.2 : Nat))) g = 201 - (turnF R Q T).2.2.2) := Lib.hid (turnsLeft_at u3)
          clear HTW HSW hc u0 u1 u2 u3
          rw [hc2]
          unfold put4 at HP HM2
          generalize (turnF R Q T).2.1 = R2 at *
          generalize (turnF R Q T).2.2.1 = Q2 at *
          generalize (turnF R Q T).2.2.2 = T2 at *
          clear hc2
          go_wp2_with fail
          go_roundw
          case rel => exact ⟨R2, Q2, T2, aR2, cR2, aQ2, cQ2, HP⟩
          case measure => rw [HM.out, HM2.out, HTN.out.1]; have := HTN.out.2; omega
        · have HC : Hid (RunIs R Q T (turnF R Q T).1 R Q T) := Lib.hid (.fail HNE.out hc)
          have hc2 : ((((turnF R Q T).1 : Nat) : Int) == 0) = false := by rw [beq_eq_false_iff_ne]; omega
          have hc3 : ¬ (((turnF R Q T).1 : Nat) : Int) = 0 := by omega
          obtain ⟨⟨f0, f1, f2, f3⟩, ⟨u0, u1, u2, u3⟩, ⟨z0, z1, z2, z3⟩, _⟩ := put4_sets (HBK.out _ HR3.out.bel) (.int .i64 k) (.slice aR R.length cR) (.slice aQ Q.length cQ) (.int .i64 (T : Nat))
          obtain ⟨⟨y0, y1, y2, y3⟩, _⟩ := four_cells HR3.out.blk
          have F : Hid (RetRun k E w (.returned (.tuple #[.agg #[.int .i64 k, .slice aR R.length cR, .slice aQ Q.length cQ, .int .i64 (T : Nat)], .int .i64 ((turnF R Q T).1 : Nat)])) (put4 (w3.alloc (.cells #[.int .i64 k, .slice aR2 (turnF R Q T).2.1.length cR2, .slice aQ2 (turnF R Q T).2.2.1.length cQ2, .int .i64 ((turnF R Q T).2.2.2 : Nat)] 74)) w.heap.size (.int .i64 k) (.slice aR R.length cR) (.slice aQ Q.length cQ) (.int .i64 (T : Nat)))) :=
            Lib.hid (.inl ⟨HST.out, (turnF R Q T).1, R, Q, T, aR, cR, aQ, cQ, HR.out.run HC.out, rfl, put4_rules HR3.out.rules (HBK.out _ HR3.out.bel) _ _ _ _, put4_rules HR3.out.queue (HBK.out _ HR3.out.bel) _ _ _ _, put4_below (Below.now HW1.out HR3.out.bel) (Nat.le_refl _) _ _ _ _⟩)
          clear HTW HSW hc HTL
          unfold put4 at F u0 u1 u2 u3
          generalize (turnF R Q T).2.1 = R2 at *
          generalize (turnF R Q T).2.2.1 = Q2 at *
          generalize (turnF R Q T).2.2.2 = T2 at *
          generalize (turnF R Q T).1 = c2 at *
          go_wp2_with fail
          refine bodyPost_ret (v := .tuple #[.agg #[.int .i64 k, .slice aR R.length cR, .slice aQ Q.length cQ, .int .i64 (T : Nat)], .int .i64 (c2 : Nat)]) ?_ rfl F.out
          simp [results, Tryz.results39, go_sem, u0, u1, u2, u3]
  · have HB2 := Lib.hid (Below.now hb2 (alloc_belowS w2 (.cells #[.int .i64 0, .slice none 0 0, .slice none 0 0, .int .i64 0] 74)))
    obtain ⟨⟨f0, f1, f2, f3⟩, ⟨u0, u1, u2, u3⟩, ⟨z0, z1, z2, z3⟩, _⟩ := put4_sets (HBK.out _ HB2.out) (.int .i64 0) (.slice none 0 0) (.slice none 0 0) (.int .i64 0)
    have F : Hid (RetRun k E w (.returned (.tuple #[.agg #[.int .i64 0, .slice none 0 0, .slice none 0 0, .int .i64 0], .int .i64 4])) (put4 (w2.alloc (.cells #[.int .i64 0, .slice none 0 0, .slice none 0 0, .int .i64 0] 74)) w.heap.size (.int .i64 0) (.slice none 0 0) (.slice none 0 0) (.int .i64 0))) :=
      Lib.hid (.inr ⟨hst, rfl, put4_below (Below.now HW1.out HB2.out) (Nat.le_refl _) _ _ _ _⟩)
    unfold workVal
    unfold put4 at F u0 u1 u2 u3
    clear hst hb2
    go_wp2_with fail
    refine bodyPost_ret (v := .tuple #[.agg #[.int .i64 0, .slice none 0 0, .slice none 0 0, .int .i64 0], .int .i64 4]) ?_ rfl F.out
    simp [results, Tryz.results39, go_sem, u0, u1, u2, u3]
/-- what Complete hands back -/
def RetCom (k : Int) (E : List RulD) (w : World) (e : Ending) (w' : World) : Prop :=
  (startP k E ∧ ∃ (c : Nat) (R Q : List RulD) (T : Nat) (aR : Option Addr) (cR : Nat), RunIs [] E 0 c R Q T ∧ e = .returned (.tuple #[.agg #[.int .i64 k, .slice aR R.length cR], .int .i64 (c : Nat)]) ∧ RulesIn w' aR R ∧ Below w.heap.size w w') ∨
  (¬ startP k E ∧ e = .returned (.tuple #[.agg #[.int .i64 0, .slice none 0 0], .int .i64 4]) ∧ Below w.heap.size w w')
theorem rules_set2 {wr : World} {aR : Option Addr} {R : List RulD} {g : Nat} {k : Int} {a1 : Option Addr} {n1 c1 : Nat} {T : TypeId} (hl : RulesIn wr aR R) (hz : wr.heap[g]? = some (.cells #[.int .i64 k, .slice a1 n1 c1] T (0, 0))) (u v : Value) : RulesIn ((wr.setCell ⟨g, 0, none⟩ u).setCell ⟨g, 1, none⟩ v) aR R := by
  rcases hl with hl | ⟨b, off, ha, hcs⟩
  · exact .inl hl
  · refine .inr ⟨b, off, ha, fun i hi => ?_⟩
    have hc := hcs i hi
    have hne : b ≠ g := by
      rintro rfl
      obtain ⟨s, hs⟩ := ruleCells_strS R _ (List.getElem_mem hi)
      rw [hs, cell_of_row _ _ _ _ _ _ hz] at hc
      match off + i, hc with
      | 0, hc => cases hc
      | 1, hc => cases hc
      | n + 2, hc => cases hc
    rw [World.cell?_of_block (w := wr) (by
      unfold World.setCell
      rw [Array.getElem?_modify, if_neg (fun e => hne e.symm), Array.getElem?_modify, if_neg (fun e => hne e.symm)])]
    exact hc
set_option maxRecDepth 100000 in
set_option maxHeartbeats 4000000 in
theorem specComplete_any (k : Int) (E : List RulD) (a : Option Addr) (cap : Nat) (w : World) (hl : RulesIn w a E) (hlen : E.length ≤ 2 ^ 40) (hz : SzR E) :
    Calls Tryz.prog 16 #[.int .i64 k, .slice a E.length cap] w (RetCom k E w) := by
  have HW1 := Lib.hid (alloc_belowS w (.cells #[.int .i64 0, .slice none 0 0] 25))
  have hsz : w.heap.size < (w.alloc (.cells #[.int .i64 0, .slice none 0 0] 25)).heap.size := by simp
  have hat := alloc_at w (.cells #[.int .i64 0, .slice none 0 0] 25)
  have HBK : Hid (∀ W, Below (w.alloc (.cells #[.int .i64 0, .slice none 0 0] 25)).heap.size (w.alloc (.cells #[.int .i64 0, .slice none 0 0] 25)) W → W.heap[w.heap.size]? = some (.cells #[.int .i64 0, .slice none 0 0] 25 (0, 0))) := Lib.hid (fun W hW => (hW.block _ hsz).trans hat)
  have HRN := Lib.hid (l06Run_any k E a cap (w.alloc (.cells #[.int .i64 0, .slice none 0 0] 25)) (hl.later HW1.out) hlen hz)
  clear hl hz hat hsz
  go_enter Tryz.func16, Tryz.ntmps16
  go_wp2_with fail
  generalize w.alloc (.cells #[.int .i64 0, .slice none 0 0] 25) = w1 at *
  refine HRN.out.mono ?_
  rintro e w2 hr
  rcases hr with ⟨hst, c, R, Q, T, aR, cR, aQ, cQ, hrun, rfl, hR, hQ, hb2⟩ | ⟨hst, rfl, hb2⟩
  · have hb3 := Below.now hb2 (alloc_belowS w2 (.cells #[.int .i64 k, .slice aR R.length cR, .slice aQ Q.length cQ, .int .i64 (T : Nat)] 74))
    have hz := HBK.out _ hb3
    obtain ⟨z0, z1, f0, f1⟩ := rec_cells hz
    obtain ⟨u0, u1, _, _⟩ := rec_cells (set_two hz (.int .i64 k) (.slice aR R.length cR))
    have F : Hid (RetCom k E w (.returned (.tuple #[.agg #[.int .i64 k, .slice aR R.length cR], .int .i64 (c : Nat)])) (((w2.alloc (.cells #[.int .i64 k, .slice aR R.length cR, .slice aQ Q.length cQ, .int .i64 (T : Nat)] 74)).setCell ⟨w.heap.size, 0, none⟩ (.int .i64 k)).setCell ⟨w.heap.size, 1, none⟩ (.slice aR R.length cR))) :=
      Lib.hid (.inl ⟨hst, c, R, Q, T, aR, cR, hrun, rfl, rules_set2 (hR.later (alloc_belowS w2 _)) hz _ _, ((Below.now HW1.out hb3).setCell (Nat.le_refl _) _).setCell (Nat.le_refl _) _⟩)
    obtain ⟨⟨y0, y1, y2, y3⟩, _⟩ := four_cells (alloc_at w2 (.cells #[.int .i64 k, .slice aR R.length cR, .slice aQ Q.length cQ, .int .i64 (T : Nat)] 74))
    unfold workVal
    clear hst hrun hR hQ hb2 hb3 hz
    go_wp2_with fail
    refine bodyPost_ret (v := .tuple #[.agg #[.int .i64 k, .slice aR R.length cR], .int .i64 (c : Nat)]) ?_ rfl F.out
    simp [results, Tryz.results16, go_sem, u0, u1]
  · have hb3 := Below.now hb2 (alloc_belowS w2 (.cells #[.int .i64 0, .slice none 0 0, .slice none 0 0, .int .i64 0] 74))
    have hz := HBK.out _ hb3
    obtain ⟨z0, z1, f0, f1⟩ := rec_cells hz
    obtain ⟨u0, u1, _, _⟩ := rec_cells (set_two hz (.int .i64 0) (.slice none 0 0))
    have F : Hid (RetCom k E w (.returned (.tuple #[.agg #[.int .i64 0, .slice none 0 0], .int .i64 4])) (((w2.alloc (.cells #[.int .i64 0, .slice none 0 0, .slice none 0 0, .int .i64 0] 74)).setCell ⟨w.heap.size, 0, none⟩ (.int .i64 0)).setCell ⟨w.heap.size, 1, none⟩ (.slice none 0 0))) :=
      Lib.hid (.inr ⟨hst, rfl, ((Below.now HW1.out hb3).setCell (Nat.le_refl _) _).setCell (Nat.le_refl _) _⟩)
    unfold workVal
    clear hst hb2 hb3 hz
    go_wp2_with fail
    refine bodyPost_ret (v := .tuple #[.agg #[.int .i64 0, .slice none 0 0], .int .i64 4]) ?_ rfl F.out
    simp [results, Tryz.results16, go_sem, u0, u1]
end Go.Proofs.YtgoeadgpbidgiaaGreat
namespace Go.Proofs.YtgoeadgpbidgiaaGreat
open Go.RowKit
set_option linter.unusedVariables false
/-- the text of a rule, of rules -/
def ruleT (r : RulD) : ByteArray := dotB r.1 ++ ⟨#[62]⟩ ++ dotB r.2
def rulesT (s : ByteArray) (R : List RulD) : Nat → ByteArray
  | 0 => s
  | j + 1 => rulesT s R j ++ ⟨#[32]⟩ ++ ruleT (nthR R j)
theorem ruleT_size (r : RulD) : (ruleT r).size ≤ r.1.size + r.2.size + 3 := by
  have h1 := dotB_size r.1
  have h2 := dotB_size r.2
  unfold ruleT
  rw [ByteArray.size_append, ByteArray.size_append]
  have : (⟨#[62]⟩ : ByteArray).size = 1 := rfl
  omega
set_option maxRecDepth 20000 in
set_option maxHeartbeats 1000000 in
theorem specFormatRule_any (x y : ByteArray) (w : World) (hx : x.size + y.size + 3 ≤ maxLen) :
    Calls Tryz.prog 94 #[.agg #[.string x, .string y]] w fun e w' => e = .returned (.string (ruleT (x, y))) ∧ Below w.heap.size w w' := by
  have h1 := dotB_size x
  have h2 := dotB_size y
  unfold maxLen at hx
  have P1 := Lib.hid (fun W => l03Side_any x W)
  have P2 := Lib.hid (fun W => l03Side_any y W)
  have HR : Hid (ruleT (x, y) = dotB x ++ ⟨#[62]⟩ ++ dotB y) := Lib.hid rfl
  generalize ruleT (x, y) = rt at *
  generalize dotB x = a at *
  generalize dotB y = b at *
  have c1 : ¬ 9223372036854775807 < a.size + 1 := by omega
  have c3 : ¬ 9223372036854775807 < a.size + 1 + b.size := by omega
  go_enter Tryz.func94, Tryz.ntmps94
  go_wp2_with fail
  obtain ⟨w0, hw0⟩ : ∃ w0, w0 = (w.alloc (.cells #[.string x, .string y] 67)) := ⟨_, rfl⟩
  have HX : Hid (Below w.heap.size w w0) := Lib.hid (by rw [hw0]; exact (Below.refl _ _).alloc (Nat.le_refl _) _)
  have hx0 : ∀ W, Below w0.heap.size w0 W → W.cell? ⟨w.heap.size, 0, none⟩ = some (.string x) := fun W hW => by rw [hW.cell (by rw [hw0]; simp), hw0]; simp
  have hx1 : ∀ W, Below w0.heap.size w0 W → W.cell? ⟨w.heap.size, 1, none⟩ = some (.string y) := fun W hW => by rw [hW.cell (by rw [hw0]; simp), hw0]; simp
  rw [← hw0]
  clear hw0
  have q0 : ∀ x, (wide w0 x).cell? ⟨w.heap.size, 0, none⟩ = some _ := wide_cell (hx0 _ (Below.refl _ _))
  have q1 : ∀ x, (wide w0 x).cell? ⟨w.heap.size, 1, none⟩ = some _ := wide_cell (hx1 _ (Below.refl _ _))
  clear hx0 hx1
  refine region_wide (by kernel_rfl) (by kernel_rfl) ?_
  repeat (quiet_step (first
    | (go_at_call 112; refine (P1.out _).mono ?_; rintro e w2 ⟨rfl, rfl⟩; exact ⟨rfl, _, rfl⟩)
    | (go_at_call 112; refine (P2.out _).mono ?_; rintro e w2 ⟨rfl, rfl⟩; exact ⟨rfl, _, rfl⟩)))
  refine wpQuiet_nil ?_
  rintro w4 ⟨x4, rfl⟩
  have hend := Below.now HX.out (below_wide w0 x4)
  clear q0 q1
  go_wp2_with fail
  go_ret
  exact ⟨ret_str HR.out.symm, hend⟩
theorem rulesT_size {s : ByteArray} {k : Int} {R : List RulD} (h : rulesP k R) : ∀ j, j ≤ R.length → (rulesT s R j).size ≤ s.size + j * 20
  | 0, _ => by simp [rulesT]
  | j + 1, hj => by
    have ih := rulesT_size (s := s) h j (by omega)
    have h1 := ruleT_size (nthR R j)
    have h2 := (h.2 _ (nthR_mem (show j < R.length by omega))).1.2
    rw [rulesT, ByteArray.size_append, ByteArray.size_append]
    have : (⟨#[32]⟩ : ByteArray).size = 1 := rfl
    omega
/-- the text of a system -/
def sysT (k : Int) (R : List RulD) : ByteArray := rulesT (numB k) R R.length
open Classical in
noncomputable def sysT0 (k : Int) (R : List RulD) : ByteArray := if rulesP k R then sysT k R else ⟨#[]⟩
set_option maxRecDepth 20000 in
set_option maxHeartbeats 2000000 in
theorem specFormatSystem_any (k : Int) (l : List RulD) (a : Option Addr) (cap : Nat) (w : World) (hl : RulesIn w a l) (hlen : l.length ≤ 2 ^ 40) (hz : SzR l) :
    Calls Tryz.prog 64 #[.agg #[.int .i64 k, .slice a l.length cap]] w fun e w' => e = .returned (.string (sysT0 k l)) ∧ Below w.heap.size w w' := by
  have HL := Lib.hid hl
  have HR := Lib.hid (fun W h => specRulesOk_any k l a cap W h hlen hz)
  have HA := Lib.hid (fun o => alloc_belowS w o)
  clear hl hz
  go_enter Tryz.func64, Tryz.ntmps64
  go_wp2_with fail
  refine (HR.out _ (HL.out.later (HA.out _))).mono ?_
  rintro e w2 ⟨bb, hbb, rfl, hb2⟩
  have HBB := Lib.hid hbb
  have hb0 := (hb2.block w.heap.size (by simp)).trans (alloc_at w (.cells #[.int .i64 k, .slice a l.length cap] 25))
  obtain ⟨s0, s1⟩ := sys_cells hb0
  have HW2 := Lib.hid (Below.now (HA.out _) hb2)
  clear hbb hb2 HR
  cases bb
  · have F : Hid (sysT0 k l = ⟨#[]⟩) := Lib.hid (if_neg (fun h => by have := HBB.out.2 h; cases this))
    go_wp2_with fail
    go_ret
    exact ⟨ret_str F.out.symm, HW2.out⟩
  · have HRP := Lib.hid (HBB.out.1 rfl)
    have F : Hid (sysT0 k l = rulesT (numB k) l l.length) := Lib.hid (if_pos HRP.out)
    clear HBB
    have hk1 := HRP.out.1.1
    have hn := itoa_len (n := k) (by omega) (by omega)
    have HF := Lib.hid (fun W => specFormatInt_any k W (by omega) (by omega))
    have HT0 : Hid (numB k = rulesT (numB k) l 0) := Lib.hid rfl
    go_wp2_with fail
    refine (HF.out _).mono ?_
    rintro e w3 ⟨rfl, hb3⟩
    have hb03 := (hb3.block w.heap.size (Array.getElem?_eq_some_iff.1 hb0).1).trans hb0
    obtain ⟨s0, s1⟩ := sys_cells hb03
    have HW3 := Lib.hid (Below.now HW2.out hb3)
    clear hb3 HF hb0
    go_wp2_with fail
    clear s0 s1
    go_loopw [3, 15] (fun s i wr => ∃ j : Nat, j ≤ l.length ∧ i = .int .i64 (j : Nat) ∧ s = .string (rulesT (numB k) l j) ∧ Below w.heap.size w wr) (fun _ i _ => l.length - (intOf i).toNat)
    case atStart => exact ⟨0, Nat.zero_le _, rfl, rfl, HW3.out⟩
    case round =>
      obtain ⟨j, hj, rfl, rfl, hbw⟩ := hrel
      have HBW := Lib.hid hbw
      by_cases hlt : j < l.length
      · obtain ⟨b, off, rfl, hb, hc⟩ := (HL.out.later hbw).cell hlt
        obtain ⟨c1, c2⟩ := hc j hlt
        have hz2 := (HRP.out.2 _ (nthR_mem hlt)).1.2
        have hts := rulesT_size (s := numB k) HRP.out j (by omega)
        have hrs := ruleT_size (nthR l j)
        have h12 := HRP.out.1.2
        have HS : Hid (rulesT (numB k) l (j + 1) = rulesT (numB k) l j ++ ⟨#[32]⟩ ++ ruleT ((nthR l j).1, (nthR l j).2)) := Lib.hid rfl
        have hrs2 : (ruleT ((nthR l j).1, (nthR l j).2)).size ≤ 30 := by
          show (ruleT (nthR l j)).size ≤ 30; omega
        clear hc hbw hrs
        generalize (nthR l j).1 = x at *
        generalize (nthR l j).2 = y at *
        have HFR := Lib.hid (fun W => specFormatRule_any x y W (by unfold maxLen; omega))
        generalize ruleT (x, y) = rt at *
        generalize rulesT (numB k) l j = st at *
        have n1 : ¬ 9223372036854775807 < st.size + 1 := by omega
        have n2 : ¬ 9223372036854775807 < st.size + 1 + rt.size := by omega
        go_wp2_with fail
        refine (HFR.out _).mono ?_
        rintro e w5 ⟨rfl, hb5⟩
        have HB5 := Lib.hid (Below.now ((alloc_belowS wr (.cells #[.string x, .string y] 67))) hb5)
        have HB6 := Lib.hid (Below.now HBW.out HB5.out)
        clear hb5
        go_wp2_with fail
        go_roundw
        case rel => exact ⟨j + 1, by omega, by go_num, by rw [HS.out], HB6.out⟩
        case measure => simp [intOf]; omega
      · obtain rfl : j = l.length := by omega
        go_wp2_with fail
        go_ret
        exact ⟨ret_str F.out.symm, HBW.out⟩
end Go.Proofs.YtgoeadgpbidgiaaGreat
