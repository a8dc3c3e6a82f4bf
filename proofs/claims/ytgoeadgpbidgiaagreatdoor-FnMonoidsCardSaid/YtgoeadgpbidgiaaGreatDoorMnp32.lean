/-
  What the reference draws: numbers below a bound, words.
-/
import Derived.Test.YtgoeadgpbidgiaaGreatDoorMnp30
import Derived.Test.YtgoeadgpbidgiaaGreatDoorMnp31
import Derived.Test.YtgoeadgpbidgiaaGreatDoorMnp01
import Derived.Laws.BitsLemmas
import Derived.Laws.BitsAllLaws
import Derived.Deep.DeepCutAuto
import Derived.Test.YtgoeadgpbidgiaaGreatDoorMnp03
import Derived.Test.YtgoeadgpbidgiaaGreatDoorMnp04
namespace Go.Proofs.YtgoeadgpbidgiaaGreatDoor
open Go.RowKit
set_option linter.unusedVariables false
theorem ruleCells_strS : ∀ (R : List RulD), ∀ v ∈ ruleCells R, ∃ s, v = .string s
  | [], v, hv => by cases hv
  | p :: l, v, hv => by
    simp only [ruleCells, List.mem_cons] at hv
    rcases hv with rfl | rfl | hv
    · exact ⟨_, rfl⟩
    · exact ⟨_, rfl⟩
    · exact ruleCells_strS l v hv
theorem put4_rules {W : World} {aR : Option Addr} {R : List RulD} {g : Nat} {k t : Int} {a1 a2 : Option Addr} {n1 c1 n2 c2 : Nat} {T : TypeId} (hl : RulesIn W aR R) (hz : W.heap[g]? = some (.cells #[.int .i64 k, .slice a1 n1 c1, .slice a2 n2 c2, .int .i64 t] T (0, 0))) (a b c d : Value) : RulesIn (put4 W g a b c d) aR R := by
  rcases hl with hl | ⟨bb, off, ha, hcs⟩
  · exact .inl hl
  · refine .inr ⟨bb, off, ha, fun i hi => ?_⟩
    have hc := hcs i hi
    have hne : bb ≠ g := by
      rintro rfl
      obtain ⟨s, hs⟩ := ruleCells_strS R _ (List.getElem_mem hi)
      rw [hs, cell_of_row _ _ _ _ _ _ hz] at hc
      match off + i, hc with
      | 0, hc => cases hc
      | 1, hc => cases hc
      | 2, hc => cases hc
      | 3, hc => cases hc
      | n + 4, hc => cases hc
    rw [World.cell?_of_block (w := W) (by
      unfold put4 World.setCell
      rw [Array.getElem?_modify, if_neg (fun e => hne e.symm), Array.getElem?_modify, if_neg (fun e => hne e.symm), Array.getElem?_modify, if_neg (fun e => hne e.symm), Array.getElem?_modify, if_neg (fun e => hne e.symm)])]
    exact hc
/-- what a run hands back -/
def RetRun (k : Int) (E : List RulD) (w : World) (e : Ending) (w' : World) : Prop :=
  (startP k E ∧ ∃ (c : Nat) (R Q : List RulD) (T : Nat) (aR : Option Addr) (cR : Nat) (aQ : Option Addr) (cQ : Nat), RunIs [] E 0 c R Q T ∧ e = .returned (.tuple #[workVal k aR R.length cR aQ Q.length cQ T, .int .i64 (c : Nat)]) ∧ RulesIn w' aR R ∧ RulesIn w' aQ Q ∧ Below w.heap.size w w') ∨
  (¬ startP k E ∧ e = .returned (.tuple #[workVal 0 none 0 0 none 0 0 0, .int .i64 4]) ∧ Below w.heap.size w w')
/-- where a run stands: the record at g -/
structure RunAt (w1 W : World) (g : Nat) (k : Int) (E R Q : List RulD) (T : Nat) (aR : Option Addr) (cR : Nat) (aQ : Option Addr) (cQ : Nat) : Prop where
  blk : W.heap[g]? = some (.cells #[.int .i64 k, .slice aR R.length cR, .slice aQ Q.length cQ, .int .i64 (T : Nat)] 69 (0, 0))
  rules : RulesIn W aR R
  queue : RulesIn W aQ Q
  work : WorkP k R Q T
  run : ∀ {c R' Q' T'}, RunIs R Q T c R' Q' T' → RunIs [] E 0 c R' Q' T'
  bel : Below w1.heap.size w1 W
theorem RunAt.later {w1 W W2 : World} {g : Nat} {k : Int} {E R Q : List RulD} {T : Nat} {aR aQ : Option Addr} {cR cQ : Nat} (h : RunAt w1 W g k E R Q T aR cR aQ cQ) (hb : Below W.heap.size W W2) : RunAt w1 W2 g k E R Q T aR cR aQ cQ :=
  ⟨block_later h.blk _ hb, h.rules.later hb, h.queue.later hb, h.work, h.run, Below.now h.bel hb⟩
theorem RunAt.put {w1 W : World} {g : Nat} {k : Int} {E R Q : List RulD} {T : Nat} {aR aQ : Option Addr} {cR cQ : Nat} (h : RunAt w1 W g k E R Q T aR cR aQ cQ) (hg : w1.heap.size ≤ g) (hQ : Q ≠ []) (hc : (turnF R Q T).1 = 0) {aR2 aQ2 : Option Addr} {cR2 cQ2 : Nat} (hR2 : RulesIn W aR2 (turnF R Q T).2.1) (hQ2 : RulesIn W aQ2 (turnF R Q T).2.2.1) :
    RunAt w1 (put4 W g (.int .i64 k) (.slice aR2 (turnF R Q T).2.1.length cR2) (.slice aQ2 (turnF R Q T).2.2.1.length cQ2) (.int .i64 ((turnF R Q T).2.2.2 : Nat))) g k E (turnF R Q T).2.1 (turnF R Q T).2.2.1 (turnF R Q T).2.2.2 aR2 cR2 aQ2 cQ2 :=
  ⟨(put4_sets h.blk _ _ _ _).2.2.2, put4_rules hR2 h.blk _ _ _ _, put4_rules hQ2 h.blk _ _ _ _, h.work.turn hc, fun r => h.run (.step hQ hc r), put4_below h.bel hg _ _ _ _⟩
theorem RunAt.turns {w1 W : World} {g : Nat} {k : Int} {E R Q : List RulD} {T : Nat} {aR aQ : Option Addr} {cR cQ : Nat} (h : RunAt w1 W g k E R Q T aR cR aQ cQ) (hc : (turnF R Q T).1 = 0) (hQ : Q ≠ []) : (turnF R Q T).2.2.2 = T + 1 ∧ T < 200 := by
  have ht := h.work.turns
  cases hq : Q with
  | nil => exact absurd hq hQ
  | cons q Qt =>
    rw [hq] at hc
    unfold turnF at hc ⊢
    simp only at hc ⊢
    by_cases c1 : T = 200
    · rw [if_pos c1] at hc; cases hc
    refine ⟨?_, by omega⟩
    rw [if_neg c1] at hc ⊢
    split
    · rfl
    · rename_i c2
      rw [if_neg c2] at hc
      split
      · rename_i c3; rw [if_pos c3] at hc; cases hc
      · rename_i c3
        rw [if_neg c3] at hc
        split
        · rename_i c4; rw [if_pos c4] at hc; cases hc
        · rename_i c4
          rw [if_neg c4] at hc
          split
          · rename_i c5; rw [if_pos c5] at hc; cases hc
          · rfl
def turnsLeft (W : World) (g : Nat) : Nat := match W.cell? ⟨g, 3, none⟩ with
  | some (.int _ t) => 201 - t.toNat
  | _ => 0
theorem turnsLeft_at {W : World} {g : Nat} {T : Nat} (h : W.cell? ⟨g, 3, none⟩ = some (.int .i64 (T : Nat))) : turnsLeft W g = 201 - T := by
  unfold turnsLeft
  rw [h]
  simp
set_option maxRecDepth 100000 in
set_option maxHeartbeats 4000000 in
theorem l06Run_any (k : Int) (E : List RulD) (a : Option Addr) (cap : Nat) (w : World) (hl : RulesIn w a E) (hlen : E.length ≤ 2 ^ 40) (hz : SzR E) :
    Calls Tryz.prog 72 #[.int .i64 k, .slice a E.length cap] w (RetRun k E w) := by
  have HL := Lib.hid hl
  have HW1 := Lib.hid (alloc_belowS w (.cells #[.int .i64 0, .slice none 0 0, .slice none 0 0, .int .i64 0] 69))
  have hsz : w.heap.size < (w.alloc (.cells #[.int .i64 0, .slice none 0 0, .slice none 0 0, .int .i64 0] 69)).heap.size := by simp
  have hat := alloc_at w (.cells #[.int .i64 0, .slice none 0 0, .slice none 0 0, .int .i64 0] 69)
  have HBK : Hid (∀ W, Below (w.alloc (.cells #[.int .i64 0, .slice none 0 0, .slice none 0 0, .int .i64 0] 69)).heap.size (w.alloc (.cells #[.int .i64 0, .slice none 0 0, .slice none 0 0, .int .i64 0] 69)) W → W.heap[w.heap.size]? = some (.cells #[.int .i64 0, .slice none 0 0, .slice none 0 0, .int .i64 0] 69 (0, 0))) := Lib.hid (fun W hW => (hW.block _ hsz).trans hat)
  have HSW := Lib.hid (fun W h => specStartWork_any k E a cap W h hlen hz)
  have HTW := Lib.hid (fun R q Qt T aR aQ cR cQ W h1 h2 h3 => specTurnWork_any k R q Qt T aR aQ cR cQ W h1 h2 h3)
  have HS1 := Lib.hid hsz
  clear hl hz hat hsz
  go_enter Tryz.func72, Tryz.ntmps72
  go_wp2_with fail
  generalize w.alloc (.cells #[.int .i64 0, .slice none 0 0, .slice none 0 0, .int .i64 0] 69) = w1 at *
  refine (HSW.out _ (HL.out.later HW1.out)).mono ?_
  rintro e w2 hr
  rcases hr with ⟨hst, aQ0, cQ0, rfl, hq0, hb2⟩ | ⟨hst, rfl, hb2⟩
  · have HB2 := Lib.hid hb2
    have HST := Lib.hid hst
    unfold workVal
    have HRA : Hid (RunAt w1 (w2.alloc (.cells #[.int .i64 k, .slice none ([] : List RulD).length 0, .slice aQ0 E.length cQ0, .int .i64 ((0 : Nat) : Int)] 69)) w2.heap.size k E [] E 0 none 0 aQ0 cQ0) :=
      Lib.hid ⟨alloc_at w2 _, .inl rfl, hq0.later (alloc_belowS w2 _), hst.work, fun r => r, Below.now hb2 (alloc_belowS w2 _)⟩
    have HG : Hid (w1.heap.size ≤ w2.heap.size) := Lib.hid hb2.size
    obtain ⟨q0, q1, q2, q3⟩ := (four_cells HRA.out.blk).1
    clear hst hq0 hb2
    go_wp2_with fail
    generalize hg2 : w2.heap.size = g at *
    go_loopw [] (fun wr => ∃ (R Q : List RulD) (T : Nat) (aR : Option Addr) (cR : Nat) (aQ : Option Addr) (cQ : Nat), Hid (RunAt w1 wr g k E R Q T aR cR aQ cQ)) (fun W => turnsLeft W g)
    case atStart => exact ⟨[], E, 0, none, 0, aQ0, cQ0, HRA⟩
    case round =>
      clear q0 q1 q2 q3 HRA
      obtain ⟨R, Q, T, aR, cR, aQ, cQ, HR⟩ := hrel
      obtain ⟨⟨q0, q1, q2, q3⟩, ff⟩ := four_cells HR.out.blk
      cases hQe : Q with
      | nil =>
        subst hQe
        have HQ0 : Hid (RunIs [] E 0 0 R [] T) := Lib.hid (HR.out.run .done)
        obtain ⟨⟨f0, f1, f2, f3⟩, ⟨u0, u1, u2, u3⟩, ⟨z0, z1, z2, z3⟩, _⟩ := put4_sets (HBK.out _ HR.out.bel) (.int .i64 k) (.slice aR R.length cR) (.slice aQ 0 cQ) (.int .i64 (T : Nat))
        have F : Hid (RetRun k E w (.returned (.tuple #[.agg #[.int .i64 k, .slice aR R.length cR, .slice aQ 0 cQ, .int .i64 (T : Nat)], .int .i64 0])) (put4 wr w.heap.size (.int .i64 k) (.slice aR R.length cR) (.slice aQ 0 cQ) (.int .i64 (T : Nat)))) :=
          Lib.hid (.inl ⟨HST.out, 0, R, [], T, aR, cR, aQ, cQ, HQ0.out, rfl, put4_rules HR.out.rules (HBK.out _ HR.out.bel) _ _ _ _, .inl rfl, put4_below (Below.now HW1.out HR.out.bel) (Nat.le_refl _) _ _ _ _⟩)
        simp only [List.length_nil] at q2
        unfold put4 at F u0 u1 u2 u3
        go_wp2_with fail
        refine bodyPost_ret (v := .tuple #[.agg #[.int .i64 k, .slice aR R.length cR, .slice aQ 0 cQ, .int .i64 (T : Nat)], .int .i64 0]) ?_ rfl F.out
        simp [results, Tryz.results72, go_sem, u0, u1, u2, u3]
      | cons q Qt =>
        subst hQe
        have hne : q :: Qt ≠ [] := by simp
        have HNE := Lib.hid hne
        have hpos : (0 : Int) < ((q :: Qt).length : Int) := by simp only [List.length_cons]; omega
        have HT := Lib.hid (HTW.out R q Qt T aR aQ cR cQ wr HR.out.rules HR.out.queue HR.out.work)
        have HTL := Lib.hid (fun h => HR.out.turns h HNE.out)
        have HM : Hid (turnsLeft wr g = 201 - T) := Lib.hid (turnsLeft_at q3)
        generalize q :: Qt = Q at *
        clear hne
        go_wp2_with fail
        refine HT.out.mono ?_
        rintro e w3 ⟨aR2, cR2, aQ2, cQ2, rfl, hR2, hQ2, hb3⟩
        unfold workVal
        have HB3 := Lib.hid hb3
        have HR3 := Lib.hid (HR.out.later (Below.now hb3 (alloc_belowS w3 (.cells #[.int .i64 k, .slice aR2 (turnF R Q T).2.1.length cR2, .slice aQ2 (turnF R Q T).2.2.1.length cQ2, .int .i64 ((turnF R Q T).2.2.2 : Nat)] 69))))
        have HR2 := Lib.hid (hR2.later (alloc_belowS w3 (.cells #[.int .i64 k, .slice aR2 (turnF R Q T).2.1.length cR2, .slice aQ2 (turnF R Q T).2.2.1.length cQ2, .int .i64 ((turnF R Q T).2.2.2 : Nat)] 69)))
        have HQ2 := Lib.hid (hQ2.later (alloc_belowS w3 (.cells #[.int .i64 k, .slice aR2 (turnF R Q T).2.1.length cR2, .slice aQ2 (turnF R Q T).2.2.1.length cQ2, .int .i64 ((turnF R Q T).2.2.2 : Nat)] 69)))
        have HAT := Lib.hid (alloc_at w3 (.cells #[.int .i64 k, .slice aR2 (turnF R Q T).2.1.length cR2, .slice aQ2 (turnF R Q T).2.2.1.length cQ2, .int .i64 ((turnF R Q T).2.2.2 : Nat)] 69))
        clear q0 q1 q2 q3 ff hb3 hR2 hQ2
        by_cases hc : (turnF R Q T).1 = 0
        · have HC := Lib.hid hc
          have hc2 : (((turnF R Q T).1 : Nat) : Int) = 0 := by omega
          have HTN := Lib.hid (HTL.out hc)
          have HP := Lib.hid (HR3.out.put (by first | exact HG.out | (rw [← hg2]; exact HG.out)) HNE.out hc (cR2 := cR2) (cQ2 := cQ2) HR2.out HQ2.out)
          obtain ⟨⟨f0, f1, f2, f3⟩, ⟨u0, u1, u2, u3⟩, ⟨z0, z1, z2, z3⟩, _⟩ := put4_sets HR3.out.blk (.int .i64 k) (.slice aR2 (turnF R Q T).2.1.length cR2) (.slice aQ2 (turnF R Q T).2.2.1.length cQ2) (.int .i64 ((turnF R Q T).2.2.2 : Nat))
          obtain ⟨⟨y0, y1, y2, y3⟩, _⟩ := four_cells HAT.out
          have HM2 : Hid (turnsLeft (put4 (w3.alloc (.cells #[.int .i64 k, .slice aR2 (turnF R Q T).2.1.length cR2, .slice aQ2 (turnF R Q T).2.2.1.length cQ2, .int .i64 ((turnF R Q T).2.2.2 : Nat)] 69)) g (.int .i64 k) (.slice aR2 (turnF R Q T).2.1.length cR2) (.slice aQ2 (turnF R Q T).2.2.1.length cQ2) (.int .i64 ((turnF R Q T).2.2.2 : Nat))) g = 201 - (turnF R Q T).2.2.2) := Lib.hid (turnsLeft_at u3)
          clear HTW HSW hc u0 u1 u2 u3
          rw [hc2]
          unfold put4 at HP HM2
          generalize (turnF R Q T).2.1 = R2 at *
          generalize (turnF R Q T).2.2.1 = Q2 at *
          generalize (turnF R Q T).2.2.2 = T2 at *
          clear hc2
          go_wp2_with fail
          go_roundw
          case rel => exact ⟨R2, Q2, T2, aR2, cR2, aQ2, cQ2, HP⟩
          case measure => rw [HM.out, HM2.out, HTN.out.1]; have := HTN.out.2; omega
        · have HC : Hid (RunIs R Q T (turnF R Q T).1 R Q T) := Lib.hid (.fail HNE.out hc)
          have hc2 : ((((turnF R Q T).1 : Nat) : Int) == 0) = false := by rw [beq_eq_false_iff_ne]; omega
          have hc3 : ¬ (((turnF R Q T).1 : Nat) : Int) = 0 := by omega
          obtain ⟨⟨f0, f1, f2, f3⟩, ⟨u0, u1, u2, u3⟩, ⟨z0, z1, z2, z3⟩, _⟩ := put4_sets (HBK.out _ HR3.out.bel) (.int .i64 k) (.slice aR R.length cR) (.slice aQ Q.length cQ) (.int .i64 (T : Nat))
          obtain ⟨⟨y0, y1, y2, y3⟩, _⟩ := four_cells HR3.out.blk
          have F : Hid (RetRun k E w (.returned (.tuple #[.agg #[.int .i64 k, .slice aR R.length cR, .slice aQ Q.length cQ, .int .i64 (T : Nat)], .int .i64 ((turnF R Q T).1 : Nat)])) (put4 (w3.alloc (.cells #[.int .i64 k, .slice aR2 (turnF R Q T).2.1.length cR2, .slice aQ2 (turnF R Q T).2.2.1.length cQ2, .int .i64 ((turnF R Q T).2.2.2 : Nat)] 69)) w.heap.size (.int .i64 k) (.slice aR R.length cR) (.slice aQ Q.length cQ) (.int .i64 (T : Nat)))) :=
            Lib.hid (.inl ⟨HST.out, (turnF R Q T).1, R, Q, T, aR, cR, aQ, cQ, HR.out.run HC.out, rfl, put4_rules HR3.out.rules (HBK.out _ HR3.out.bel) _ _ _ _, put4_rules HR3.out.queue (HBK.out _ HR3.out.bel) _ _ _ _, put4_below (Below.now HW1.out HR3.out.bel) (Nat.le_refl _) _ _ _ _⟩)
          clear HTW HSW hc HTL
          unfold put4 at F u0 u1 u2 u3
          generalize (turnF R Q T).2.1 = R2 at *
          generalize (turnF R Q T).2.2.1 = Q2 at *
          generalize (turnF R Q T).2.2.2 = T2 at *
          generalize (turnF R Q T).1 = c2 at *
          go_wp2_with fail
          refine bodyPost_ret (v := .tuple #[.agg #[.int .i64 k, .slice aR R.length cR, .slice aQ Q.length cQ, .int .i64 (T : Nat)], .int .i64 (c2 : Nat)]) ?_ rfl F.out
          simp [results, Tryz.results72, go_sem, u0, u1, u2, u3]
  · have HB2 := Lib.hid (Below.now hb2 (alloc_belowS w2 (.cells #[.int .i64 0, .slice none 0 0, .slice none 0 0, .int .i64 0] 69)))
    obtain ⟨⟨f0, f1, f2, f3⟩, ⟨u0, u1, u2, u3⟩, ⟨z0, z1, z2, z3⟩, _⟩ := put4_sets (HBK.out _ HB2.out) (.int .i64 0) (.slice none 0 0) (.slice none 0 0) (.int .i64 0)
    have F : Hid (RetRun k E w (.returned (.tuple #[.agg #[.int .i64 0, .slice none 0 0, .slice none 0 0, .int .i64 0], .int .i64 4])) (put4 (w2.alloc (.cells #[.int .i64 0, .slice none 0 0, .slice none 0 0, .int .i64 0] 69)) w.heap.size (.int .i64 0) (.slice none 0 0) (.slice none 0 0) (.int .i64 0))) :=
      Lib.hid (.inr ⟨hst, rfl, put4_below (Below.now HW1.out HB2.out) (Nat.le_refl _) _ _ _ _⟩)
    unfold workVal
    unfold put4 at F u0 u1 u2 u3
    clear hst hb2
    go_wp2_with fail
    refine bodyPost_ret (v := .tuple #[.agg #[.int .i64 0, .slice none 0 0, .slice none 0 0, .int .i64 0], .int .i64 4]) ?_ rfl F.out
    simp [results, Tryz.results72, go_sem, u0, u1, u2, u3]
/-- what Complete hands back -/
def RetCom (k : Int) (E : List RulD) (w : World) (e : Ending) (w' : World) : Prop :=
  (startP k E ∧ ∃ (c : Nat) (R Q : List RulD) (T : Nat) (aR : Option Addr) (cR : Nat), RunIs [] E 0 c R Q T ∧ e = .returned (.tuple #[.agg #[.int .i64 k, .slice aR R.length cR], .int .i64 (c : Nat)]) ∧ RulesIn w' aR R ∧ Below w.heap.size w w') ∨
  (¬ startP k E ∧ e = .returned (.tuple #[.agg #[.int .i64 0, .slice none 0 0], .int .i64 4]) ∧ Below w.heap.size w w')
theorem rules_set2 {wr : World} {aR : Option Addr} {R : List RulD} {g : Nat} {k : Int} {a1 : Option Addr} {n1 c1 : Nat} {T : TypeId} (hl : RulesIn wr aR R) (hz : wr.heap[g]? = some (.cells #[.int .i64 k, .slice a1 n1 c1] T (0, 0))) (u v : Value) : RulesIn ((wr.setCell ⟨g, 0, none⟩ u).setCell ⟨g, 1, none⟩ v) aR R := by
  rcases hl with hl | ⟨b, off, ha, hcs⟩
  · exact .inl hl
  · refine .inr ⟨b, off, ha, fun i hi => ?_⟩
    have hc := hcs i hi
    have hne : b ≠ g := by
      rintro rfl
      obtain ⟨s, hs⟩ := ruleCells_strS R _ (List.getElem_mem hi)
      rw [hs, cell_of_row _ _ _ _ _ _ hz] at hc
      match off + i, hc with
      | 0, hc => cases hc
      | 1, hc => cases hc
      | n + 2, hc => cases hc
    rw [World.cell?_of_block (w := wr) (by
      unfold World.setCell
      rw [Array.getElem?_modify, if_neg (fun e => hne e.symm), Array.getElem?_modify, if_neg (fun e => hne e.symm)])]
    exact hc
set_option maxRecDepth 100000 in
set_option maxHeartbeats 4000000 in
theorem specComplete_any (k : Int) (E : List RulD) (a : Option Addr) (cap : Nat) (w : World) (hl : RulesIn w a E) (hlen : E.length ≤ 2 ^ 40) (hz : SzR E) :
    Calls Tryz.prog 31 #[.int .i64 k, .slice a E.length cap] w (RetCom k E w) := by
  have HW1 := Lib.hid (alloc_belowS w (.cells #[.int .i64 0, .slice none 0 0] 33))
  have hsz : w.heap.size < (w.alloc (.cells #[.int .i64 0, .slice none 0 0] 33)).heap.size := by simp
  have hat := alloc_at w (.cells #[.int .i64 0, .slice none 0 0] 33)
  have HBK : Hid (∀ W, Below (w.alloc (.cells #[.int .i64 0, .slice none 0 0] 33)).heap.size (w.alloc (.cells #[.int .i64 0, .slice none 0 0] 33)) W → W.heap[w.heap.size]? = some (.cells #[.int .i64 0, .slice none 0 0] 33 (0, 0))) := Lib.hid (fun W hW => (hW.block _ hsz).trans hat)
  have HRN := Lib.hid (l06Run_any k E a cap (w.alloc (.cells #[.int .i64 0, .slice none 0 0] 33)) (hl.later HW1.out) hlen hz)
  clear hl hz hat hsz
  go_enter Tryz.func31, Tryz.ntmps31
  go_wp2_with fail
  generalize w.alloc (.cells #[.int .i64 0, .slice none 0 0] 33) = w1 at *
  refine HRN.out.mono ?_
  rintro e w2 hr
  rcases hr with ⟨hst, c, R, Q, T, aR, cR, aQ, cQ, hrun, rfl, hR, hQ, hb2⟩ | ⟨hst, rfl, hb2⟩
  · have hb3 := Below.now hb2 (alloc_belowS w2 (.cells #[.int .i64 k, .slice aR R.length cR, .slice aQ Q.length cQ, .int .i64 (T : Nat)] 69))
    have hz := HBK.out _ hb3
    obtain ⟨z0, z1, f0, f1⟩ := rec_cells hz
    obtain ⟨u0, u1, _, _⟩ := rec_cells (set_two hz (.int .i64 k) (.slice aR R.length cR))
    have F : Hid (RetCom k E w (.returned (.tuple #[.agg #[.int .i64 k, .slice aR R.length cR], .int .i64 (c : Nat)])) (((w2.alloc (.cells #[.int .i64 k, .slice aR R.length cR, .slice aQ Q.length cQ, .int .i64 (T : Nat)] 69)).setCell ⟨w.heap.size, 0, none⟩ (.int .i64 k)).setCell ⟨w.heap.size, 1, none⟩ (.slice aR R.length cR))) :=
      Lib.hid (.inl ⟨hst, c, R, Q, T, aR, cR, hrun, rfl, rules_set2 (hR.later (alloc_belowS w2 _)) hz _ _, ((Below.now HW1.out hb3).setCell (Nat.le_refl _) _).setCell (Nat.le_refl _) _⟩)
    obtain ⟨⟨y0, y1, y2, y3⟩, _⟩ := four_cells (alloc_at w2 (.cells #[.int .i64 k, .slice aR R.length cR, .slice aQ Q.length cQ, .int .i64 (T : Nat)] 69))
    unfold workVal
    clear hst hrun hR hQ hb2 hb3 hz
    go_wp2_with fail
    refine bodyPost_ret (v := .tuple #[.agg #[.int .i64 k, .slice aR R.length cR], .int .i64 (c : Nat)]) ?_ rfl F.out
    simp [results, Tryz.results31, go_sem, u0, u1]
  · have hb3 := Below.now hb2 (alloc_belowS w2 (.cells #[.int .i64 0, .slice none 0 0, .slice none 0 0, .int .i64 0] 69))
    have hz := HBK.out _ hb3
    obtain ⟨z0, z1, f0, f1⟩ := rec_cells hz
    obtain ⟨u0, u1, _, _⟩ := rec_cells (set_two hz (.int .i64 0) (.slice none 0 0))
    have F : Hid (RetCom k E w (.returned (.tuple #[.agg #[.int .i64 0, .slice none 0 0], .int .i64 4])) (((w2.alloc (.cells #[.int .i64 0, .slice none 0 0, .slice none 0 0, .int .i64 0] 69)).setCell ⟨w.heap.size, 0, none⟩ (.int .i64 0)).setCell ⟨w.heap.size, 1, none⟩ (.slice none 0 0))) :=
      Lib.hid (.inr ⟨hst, rfl, ((Below.now HW1.out hb3).setCell (Nat.le_refl _) _).setCell (Nat.le_refl _) _⟩)
    unfold workVal
    clear hst hb2 hb3 hz
    go_wp2_with fail
    refine bodyPost_ret (v := .tuple #[.agg #[.int .i64 0, .slice none 0 0], .int .i64 4]) ?_ rfl F.out
    simp [results, Tryz.results31, go_sem, u0, u1]
end Go.Proofs.YtgoeadgpbidgiaaGreatDoor
namespace Go.Proofs.YtgoeadgpbidgiaaGreatDoor
open Go.RowKit
set_option linter.unusedVariables false
theorem and255 (n : Int) : bits .and .i64 n 255 = n % 256 := by
  have h255 : (BitVec.ofInt 64 255).toNat = 2 ^ 8 - 1 := by decide
  have key : (BitVec.ofInt 64 n &&& BitVec.ofInt 64 255).toNat = (n % ((2 ^ 64 : Nat) : Int)).toNat % 2 ^ 8 := by
    rw [BitVec.toNat_and, BitVec.toNat_ofInt, h255, Nat.and_two_pow_sub_one_eq_mod]
  show IntKind.i64.wrap ((BitVec.ofInt 64 n &&& BitVec.ofInt 64 255).toNat : Nat) = n % 256
  rw [key, IntKind.wrap_i64]
  omega
/-- a slice of bytes -/
def BytesIn (w : World) (a : Option Addr) (l : List UInt8) : Prop := CellsIn w a (l.map fun c => Value.int .u8 (c.toNat : Int))
theorem BytesIn.later {w w' : World} {a : Option Addr} {l : List UInt8} (h : BytesIn w a l) (hb : Below w.heap.size w w') : BytesIn w' a l := CellsIn.later h hb
theorem BytesIn.cell {w : World} {a : Option Addr} {l : List UInt8} (h : BytesIn w a l) {i : Nat} (hi : i < l.length) :
    ∃ b off, a = some ⟨b, off, none⟩ ∧ b < w.heap.size ∧ ∃ c : Nat, c < 256 ∧ w.cell? ⟨b, off + i, none⟩ = some (.int .u8 (c : Nat)) := by
  rcases h with h | ⟨b, off, ha, hc⟩
  · have : l = [] := by simpa using h
    subst this; simp at hi
  · have h1 := hc i (by simpa using hi)
    rw [List.getElem_map] at h1
    exact ⟨b, off, ha, World.block_lt_of_cell? w _ h1, l[i].toNat, l[i].toNat_lt, h1⟩
/-- a cursor in block B over n bytes -/
def CurAt (w : World) (B : Nat) (a : Option Addr) (n cap : Nat) : Prop := ∃ (i : Nat) (h : Int), w.heap[B]? = some (.cells #[.slice a n cap, .int .i64 (i : Nat), .int .i64 h] 136 (0, 0)) ∧ i ≤ n
theorem CurAt.lt {w : World} {B : Nat} {a : Option Addr} {n cap : Nat} (h : CurAt w B a n cap) : B < w.heap.size := by
  obtain ⟨i, h, h1, _⟩ := h
  exact (Array.getElem?_eq_some_iff.1 h1).1
theorem CurAt.later {w w' : World} {B : Nat} {a : Option Addr} {n cap : Nat} (h : CurAt w B a n cap) (hb : Below w.heap.size w w') : CurAt w' B a n cap := by
  have hl := h.lt
  obtain ⟨i, h, h1, h2⟩ := h
  exact ⟨i, h, by rw [hb.block B hl]; exact h1, h2⟩
theorem BytesIn.grown {w w' : World} {B : Nat} {a : Option Addr} {l : List UInt8} (h : BytesIn w a l) (hg : w.grownBy w' (some B)) (hB : l ≠ [] → ∀ x, a = some x → x.block ≠ B) : BytesIn w' a l := by
  rcases h with h | ⟨b, off, ha, hc⟩
  · exact .inl h
  · refine .inr ⟨b, off, ha, fun i hi => ?_⟩
    rw [World.cell?_of_block (w := w) (hg.block b (World.block_lt_of_cell? w _ (hc i hi)) (fun e => hB (fun e2 => by subst e2; simp at hi) _ ha (Option.some.inj e)))]
    exact hc i hi
/-- behind a byte's first steps -/
def CurP (w : World) (B : Nat) (a : Option Addr) (n cap i : Nat) (v : Value) (wx : World) : Prop := ∃ (x : Nat) (h2 : Int), x < 256 ∧ v = .int .i64 ((x : Nat) : Int) ∧ wx.heap[B]? = some (.cells #[.slice a n cap, .int .i64 (i : Nat), .int .i64 h2] 136 (0, 0)) ∧ w.grownBy wx (some B)
theorem CurP.mk {w : World} {B : Nat} {a : Option Addr} {n cap i : Nat} {v h2 : Int} {wx : World} (hb : wx.heap[B]? = some (.cells #[.slice a n cap, .int .i64 (i : Nat), .int .i64 h2] 136 (0, 0))) (hg : w.grownBy wx (some B)) : CurP w B a n cap i (.int .i64 (v % 256)) wx :=
  ⟨(v % 256).toNat, h2, by omega, by rw [Int.toNat_of_nonneg (by omega)], hb, hg⟩
theorem cellsCur {w : World} {B : Nat} {x y z : Value} {T : TypeId} (h : w.heap[B]? = some (.cells #[x, y, z] T (0, 0))) : w.cell? ⟨B, 0, none⟩ = some x ∧ w.cell? ⟨B, 1, none⟩ = some y ∧ w.cell? ⟨B, 2, none⟩ = some z ∧ (∀ i, w.frozen? ⟨B, i, none⟩ = false) := by
  refine ⟨by rw [cell_of_row _ _ 0 _ _ _ h]; rfl, by rw [cell_of_row _ _ 1 _ _ _ h]; rfl, by rw [cell_of_row _ _ 2 _ _ _ h]; rfl, fun i => by simp [World.frozen?, h]⟩
theorem setCur2 {w : World} {B : Nat} {x y z : Value} {T : TypeId} (h : w.heap[B]? = some (.cells #[x, y, z] T (0, 0))) (v : Value) : (w.setCell ⟨B, 2, none⟩ v).heap[B]? = some (.cells #[x, y, v] T (0, 0)) := by
  unfold World.setCell
  rw [Array.getElem?_modify, if_pos rfl, h]
  rfl
theorem setCur1 {w : World} {B : Nat} {x y z : Value} {T : TypeId} (h : w.heap[B]? = some (.cells #[x, y, z] T (0, 0))) (v : Value) : (w.setCell ⟨B, 1, none⟩ v).heap[B]? = some (.cells #[x, v, z] T (0, 0)) := by
  unfold World.setCell
  rw [Array.getElem?_modify, if_pos rfl, h]
  rfl
theorem setGrown (w : World) (B o : Nat) (v : Value) : w.grownBy (w.setCell ⟨B, o, none⟩ v) (some B) := by
  have hszc : (w.setCell ⟨B, o, none⟩ v).heap.size = w.heap.size := by simp
  exact ⟨rfl, rfl, rfl, by rw [hszc]; exact Nat.le_refl _, fun k hk hne => by
    unfold World.setCell
    rw [Array.getElem?_modify, if_neg (fun e : B = k => hne (by rw [e]))]⟩
theorem grown_tr {w w1 w2 : World} {r : Option Nat} (h : w.grownBy w1 r) (h' : w1.grownBy w2 r) : w.grownBy w2 r :=
  ⟨h'.os.trans h.os, h'.tape.trans h.tape, h'.output.trans h.output, Nat.le_trans h.size h'.size, fun k hk hne => (h'.block k (Nat.lt_of_lt_of_le hk h.size) hne).trans (h.block k hk hne)⟩
theorem grown_drewN {w w1 : World} {r : Option Nat} (h : w.grownBy w1 r) (n : Nat) : w.grownBy (w1.drewN n) r := ⟨h.os, h.tape, h.output, h.size, h.block⟩
/-- what a byte's call leaves -/
def RetByte (B : Nat) (a : Option Addr) (n cap : Nat) (w : World) (e : Ending) (w' : World) : Prop := ∃ x : Nat, x < 256 ∧ e = .returned (.int .i64 ((x : Nat) : Int)) ∧ CurAt w' B a n cap ∧ w.grownBy w' (some B)
set_option maxRecDepth 20000 in
set_option maxHeartbeats 2000000 in
theorem l01Byte_any (B : Nat) (a : Option Addr) (l : List UInt8) (cap : Nat) (w : World) (hc : CurAt w B a l.length cap) (hl : BytesIn w a l) (hB : l ≠ [] → ∀ x, a = some x → x.block ≠ B) (hlen : l.length ≤ 2 ^ 40) :
    Calls Tryz.prog 62 #[.pointer (some ⟨B, 0, none⟩)] w (RetByte B a l.length cap w) := by
  obtain ⟨i, h, hblk, hi⟩ := hc
  have h255 := and255
  obtain ⟨c0, c1, c2, cf⟩ := cellsCur hblk
  have cf2 := cf 2
  have HB2 := Lib.hid (fun v => setCur2 hblk v)
  have g0 : ∀ v, (w.setCell ⟨B, 2, none⟩ v).cell? ⟨B, 2, none⟩ = some v := fun v => (cellsCur (HB2.out v)).2.2.1
  clear cf
  have HL := Lib.hid hl
  have HBB := Lib.hid hB
  clear hl hB
  go_enter Tryz.func62, Tryz.ntmps62
  go_upto_region 2 with fail
  go_cut [3] (fun v wx => CurP w B a l.length cap i v wx)
  case first =>
    go_quiet (fail)
    go_wp2_with fail
    go_meet
    exact CurP.mk (by simpa using HB2.out _) (grown_drewN (setGrown _ _ _ _) _)
  case rest =>
    obtain ⟨x, h2, hx, rfl, hblk2, hg2⟩ := hcut
    have HG2 := Lib.hid hg2
    have HL2 := Lib.hid (HL.out.grown hg2 HBB.out)
    have HK2 := Lib.hid hblk2
    clear c0 c1 c2 cf2 HB2 g0 hblk hg2 HL
    obtain ⟨c0, c1, c2, cf⟩ := cellsCur hblk2
    have cf1 := cf 1
    clear cf hblk2
    by_cases hlt : i < l.length
    · obtain ⟨b, off, rfl, hb, c, hc, hcell⟩ := HL2.out.cell hlt
      have hil : (i : Int) < (l.length : Int) := by omega
      have hi0 : (0 : Int) ≤ (i : Int) := by omega
      go_wp2_with fail
      go_quiet (fail)
      go_upto_region 4 with fail
      go_cut [3] (fun v wx => CurP w B (some ⟨b, off, none⟩) l.length cap i v wx)
      case first =>
        go_quiet (fail)
        go_wp2_with fail
        go_meet
        exact CurP.mk (by simpa using HK2.out) (by first | exact grown_drewN HG2.out _ | exact grown_drewN (grown_drewN HG2.out _) _)
      case rest =>
        obtain ⟨x3, h3, hx3, rfl, hblk3, hg3⟩ := hcut
        have HG3 := Lib.hid hg3
        have HB3 := Lib.hid (fun v => setCur1 hblk3 v)
        clear c0 c1 c2 cf1 HK2 hcell hg3
        obtain ⟨c0, c1, c2, cf⟩ := cellsCur hblk3
        have cf1 := cf 1
        clear cf hblk3
        go_wp2_with fail
        go_ret
        exact ⟨x3, hx3, rfl, ⟨i + 1, h3, by rw [HB3.out]; simp, by omega⟩, grown_tr HG3.out (setGrown _ _ _ _)⟩
    · have hil : ¬ (i : Int) < (l.length : Int) := by omega
      go_wp2_with fail
      go_quiet (fail)
      go_wp2_with fail
      go_ret
      exact ⟨x, hx, rfl, ⟨i, h2, HK2.out, hi⟩, grown_drewN HG2.out _⟩
/-- a new cursor -/
def RetCur (a : Option Addr) (n cap : Nat) (w : World) (e : Ending) (w' : World) : Prop := e = .returned (.pointer (some ⟨w.heap.size, 0, none⟩)) ∧ CurAt w' w.heap.size a n cap ∧ Below w.heap.size w w'
theorem RetCur.mk {a : Option Addr} {n cap : Nat} {w : World} (h : Int) : RetCur a n cap w (.returned (.pointer (some ⟨w.heap.size, 0, none⟩))) (w.alloc (.cells #[.slice a n cap, .int .i64 0, .int .i64 h] 136)) :=
  ⟨rfl, ⟨0, h, by unfold World.alloc; simp, Nat.zero_le _⟩, (Below.refl _ _).alloc (Nat.le_refl _) _⟩
set_option maxRecDepth 20000 in
set_option maxHeartbeats 2000000 in
theorem l01New_any (a : Option Addr) (l : List UInt8) (cap : Nat) (w : World) (hl : BytesIn w a l) (hlen : l.length ≤ 2 ^ 40) :
    Calls Tryz.prog 81 #[.slice a l.length cap] w (RetCur a l.length cap w) := by
  have HL := Lib.hid hl
  clear hl
  go_enter Tryz.func81, Tryz.ntmps81
  go_wp2_with fail
  go_loop [3, 4] (fun h i => ∃ (j : Nat) (z : Int), j ≤ l.length ∧ i = .int .i64 (j : Nat) ∧ h = .int .i64 z) (fun _ i => l.length - (intOf i).toNat)
  case atStart => exact ⟨0, _, Nat.zero_le _, rfl, rfl⟩
  case round =>
    obtain ⟨j, z, hj, rfl, rfl⟩ := hrel
    by_cases hlt : j < l.length
    · obtain ⟨b, off, rfl, hb, c, hc, hcell⟩ := HL.out.cell hlt
      by_cases h4 : j < 4000
      · go_wp2_with fail
        go_round
        case rel => exact ⟨j + 1, _, by omega, by go_num, rfl⟩
        case measure => simp [intOf]; omega
      · go_wp2_with fail
        go_ret
        exact RetCur.mk _
    · go_wp2_with fail
      go_ret
      exact RetCur.mk _
theorem curNe {w : World} {a : Option Addr} {l : List UInt8} (hl : BytesIn w a l) (hne : l ≠ []) : ∀ x, a = some x → x.block < w.heap.size := by
  rintro x rfl
  obtain ⟨b, off, ha, hb, _⟩ := hl.cell (i := 0) (by cases l with | nil => exact absurd rfl hne | cons => simp)
  obtain rfl := Option.some.inj ha
  exact hb
/-- what a cursor is read with -/
structure CurOk (w : World) (B : Nat) (a : Option Addr) (l : List UInt8) (cap : Nat) : Prop where
  at_ : CurAt w B a l.length cap
  bytes : BytesIn w a l
  ne : l ≠ [] → ∀ x, a = some x → x.block ≠ B
  len : l.length ≤ 2 ^ 40
theorem CurOk.later {w w' : World} {B : Nat} {a : Option Addr} {l : List UInt8} {cap : Nat} (h : CurOk w B a l cap) (hb : Below w.heap.size w w') : CurOk w' B a l cap := ⟨h.at_.later hb, h.bytes.later hb, h.ne, h.len⟩
theorem CurOk.next {w w' : World} {B : Nat} {a : Option Addr} {l : List UInt8} {cap : Nat} (h : CurOk w B a l cap) (hc : CurAt w' B a l.length cap) (hg : w.grownBy w' (some B)) : CurOk w' B a l cap := ⟨hc, h.bytes.grown hg h.ne, h.ne, h.len⟩
theorem byte_cur {w : World} {B : Nat} {a : Option Addr} {l : List UInt8} {cap : Nat} (h : CurOk w B a l cap) :
    Calls Tryz.prog 62 #[.pointer (some ⟨B, 0, none⟩)] w fun e w' => ∃ x : Nat, x < 256 ∧ e = .returned (.int .i64 ((x : Nat) : Int)) ∧ CurOk w' B a l cap ∧ w.grownBy w' (some B) :=
  (l01Byte_any B a l cap w h.at_ h.bytes h.ne h.len).mono fun _ _ ⟨x, hx, he, hc, hg⟩ => ⟨x, hx, he, h.next hc hg, hg⟩
theorem below_curs {w0 w w' : World} {B : Nat} (h : Below w0.heap.size w0 w) (hg : w.grownBy w' (some B)) (hB : w0.heap.size ≤ B) : Below w0.heap.size w0 w' :=
  h.grown hg h.size (fun k hk => by have := Option.some.inj hk; omega)
theorem RetCur.ok {a : Option Addr} {l : List UInt8} {cap : Nat} {w w' : World} {e : Ending} (h : RetCur a l.length cap w e w') (hl : BytesIn w a l) (hlen : l.length ≤ 2 ^ 40) : CurOk w' w.heap.size a l cap :=
  ⟨h.2.1, hl.later h.2.2, fun hne x hx => Nat.ne_of_lt (curNe hl hne x hx), hlen⟩
set_option maxRecDepth 20000 in
set_option maxHeartbeats 2000000 in
theorem l31New_any (a : Option Addr) (l : List UInt8) (cap k : Nat) (w : World) (hl : BytesIn w a l) (hlen : l.length ≤ 2 ^ 40) (hk : k ≤ 1000) :
    Calls Tryz.prog 38 #[.slice a l.length cap, .int .i64 (k : Nat)] w fun e w' => e = .returned (.pointer (some ⟨w.heap.size, 0, none⟩)) ∧ CurOk w' w.heap.size a l cap ∧ Below w.heap.size w w' := by
  have HN := Lib.hid (l01New_any a l cap w hl hlen)
  have HL := Lib.hid hl
  clear hl
  go_enter Tryz.func38, Tryz.ntmps38
  go_wp2_with fail
  refine HN.out.mono ?_
  rintro e w2 hr
  obtain ⟨rfl, _⟩ := id hr
  have HC := Lib.hid (hr.ok HL.out hlen)
  have HB := Lib.hid hr.2.2
  clear hr HN
  go_wp2_with fail
  go_loopw [6] (fun i wr => ∃ j : Nat, j ≤ k ∧ i = .int .i64 (j : Nat) ∧ CurOk wr w.heap.size a l cap ∧ Below w.heap.size w wr) (fun i _ => k - (intOf i).toNat)
  case atStart => exact ⟨0, Nat.zero_le _, rfl, HC.out, HB.out⟩
  case round =>
    clear HC HB
    obtain ⟨j, hj, rfl, hc, hb⟩ := hrel
    have HC := Lib.hid hc
    have HB := Lib.hid hb
    clear hc hb
    by_cases hlt : j < k
    · go_wp2_with fail
      refine (byte_cur HC.out).mono ?_
      rintro e w3 ⟨x, hx, rfl, hc3, hg3⟩
      have HC3 := Lib.hid hc3
      have HB3 := Lib.hid (below_curs HB.out hg3 (Nat.le_refl _))
      clear hc3 hg3
      go_wp2_with fail
      go_roundw
      case rel => exact ⟨j + 1, by omega, by go_num, HC3.out, HB3.out⟩
      case measure => simp [intOf]; omega
    · go_wp2_with fail
      go_ret
      exact ⟨rfl, HC.out, HB.out⟩
set_option maxRecDepth 20000 in
set_option maxHeartbeats 2000000 in
theorem makeNum_any (a : Option Addr) (l : List UInt8) (cap k : Nat) (w : World) (hl : BytesIn w a l) (hlen : l.length ≤ 2 ^ 40) (hk : k ≤ 1000) :
    Calls Tryz.prog 24 #[.slice a l.length cap, .int .i64 (k : Nat)] w fun e w' => ∃ x : Nat, x < 65536 ∧ e = .returned (.int .i64 ((x : Nat) : Int)) ∧ Below w.heap.size w w' := by
  have HN := Lib.hid (l31New_any a l cap k w hl hlen hk)
  clear hl
  go_enter Tryz.func24, Tryz.ntmps24
  go_wp2_with fail
  refine HN.out.mono ?_
  rintro e w2 ⟨rfl, hc, hb⟩
  have HC := Lib.hid hc
  have HB := Lib.hid hb
  clear hc hb HN
  go_wp2_with fail
  refine (byte_cur HC.out).mono ?_
  rintro e w3 ⟨x, hx, rfl, hc3, hg3⟩
  have HC3 := Lib.hid hc3
  have HB3 := Lib.hid (below_curs HB.out hg3 (Nat.le_refl _))
  clear hc3 hg3
  go_wp2_with fail
  refine (byte_cur HC3.out).mono ?_
  rintro e w4 ⟨y, hy, rfl, hc4, hg4⟩
  have HB4 := Lib.hid (below_curs HB3.out hg4 (Nat.le_refl _))
  clear hc4 hg4
  go_wp2_with fail
  go_ret
  exact ⟨x * 256 + y, by omega, by go_num, HB4.out⟩
end Go.Proofs.YtgoeadgpbidgiaaGreatDoor
namespace Go.Proofs.YtgoeadgpbidgiaaGreatDoor
open Go.RowKit
set_option linter.unusedVariables false
theorem grown_alloc {w w1 : World} {r : Option Nat} (h : w.grownBy w1 r) (o : Obj) : w.grownBy (w1.alloc o) r := by
  have e := Below.heap_alloc w1 o
  exact ⟨h.os, h.tape, h.output, Nat.le_trans h.size (by simp), fun k hk hne => (e k (Nat.lt_of_lt_of_le hk h.size)).trans (h.block k hk hne)⟩
theorem CurOk.alloc {w : World} {B : Nat} {a : Option Addr} {l : List UInt8} {cap : Nat} (h : CurOk w B a l cap) (o : Obj) : CurOk (w.alloc o) B a l cap := h.later ((Below.refl _ _).alloc (Nat.le_refl _) _)
theorem CurOk.lt {w : World} {B : Nat} {a : Option Addr} {l : List UInt8} {cap : Nat} (h : CurOk w B a l cap) : B < w.heap.size := h.at_.lt
set_option maxHeartbeats 1000000 in
theorem l01Below_any (B n : Nat) (a : Option Addr) (l : List UInt8) (cap : Nat) (w : World) (h : CurOk w B a l cap) (hn : 1 ≤ n) (hn2 : n ≤ 256) :
    Calls Tryz.prog 79 #[.pointer (some ⟨B, 0, none⟩), .int .i64 (n : Nat)] w fun e w' => ∃ x : Nat, x < n ∧ e = .returned (.int .i64 ((x : Nat) : Int)) ∧ CurOk w' B a l cap ∧ w.grownBy w' (some B) := by
  have HB := Lib.hid (byte_cur h)
  clear h
  have h0 : ¬ (n : Int) ≤ 0 := by omega
  have h2 : (n : Int) ≤ 256 := by omega
  have hnz : ((n : Int) == 0) = false := by rw [beq_eq_false_iff_ne]; omega
  have hnz2 : ¬ (n : Int) = 0 := by omega
  go_enter Tryz.func79, Tryz.ntmps79
  go_wp2_with fail
  refine HB.out.mono ?_
  rintro e w2 ⟨x, hx, rfl, hc2, hg2⟩
  have HC := Lib.hid hc2
  have HG := Lib.hid hg2
  clear hc2 hg2 HB
  go_wp2_with fail
  go_ret
  exact ⟨x % n, Nat.mod_lt _ (by omega), ret_int (by first | rfl | simp), HC.out, HG.out⟩
set_option maxHeartbeats 400000 in
theorem l01Once_any (B n : Nat) (a : Option Addr) (l : List UInt8) (cap : Nat) (w : World) (h : CurOk w B a l cap) (hn : 1 ≤ n) (hn2 : n ≤ 256) :
    Calls Tryz.prog 76 #[.pointer (some ⟨B, 0, none⟩), .int .i64 (n : Nat)] w fun e w' => ∃ b : Bool, e = .returned (.bool b) ∧ CurOk w' B a l cap ∧ w.grownBy w' (some B) := by
  have HB := Lib.hid (l01Below_any B n a l cap w h hn hn2)
  clear h
  go_enter Tryz.func76, Tryz.ntmps76
  go_wp2_with fail
  refine HB.out.mono ?_
  rintro e w2 ⟨x, hx, rfl, hc2, hg2⟩
  have HC := Lib.hid hc2
  have HG := Lib.hid hg2
  clear hc2 hg2 HB
  go_wp2_with fail
  go_ret
  exact ⟨_, rfl, HC.out, HG.out⟩
theorem StrsIn.grownB {w w' : World} {B : Nat} {a : Option Addr} {l : List ByteArray} (h : StrsIn w a l) (hg : w.grownBy w' (some B)) (hne : ∀ x, a = some x → x.block ≠ B) : StrsIn w' a l := by
  rcases h with h | ⟨b, off, ha, hc⟩
  · exact .inl h
  · refine .inr ⟨b, off, ha, fun i hi => ?_⟩
    rw [World.cell?_of_block (w := w) (hg.block b (World.block_lt_of_cell? w _ (hc i hi)) (fun e => hne _ ha (Option.some.inj e)))]
    exact hc i hi
set_option maxHeartbeats 1000000 in
theorem l01Str_any (B : Nat) (a : Option Addr) (l : List UInt8) (cap : Nat) (ls : List ByteArray) (a2 : Option Addr) (cap2 : Nat) (w : World) (h : CurOk w B a l cap) (hl : StrsIn w a2 ls) (hne : ∀ x, a2 = some x → x.block ≠ B) (h1 : 1 ≤ ls.length) (h2 : ls.length ≤ 256) :
    Calls Tryz.prog 78 #[.pointer (some ⟨B, 0, none⟩), .slice a2 ls.length cap2] w fun e w' => ∃ i : Nat, i < ls.length ∧ e = .returned (.string (nthS ls i)) ∧ CurOk w' B a l cap ∧ w.grownBy w' (some B) := by
  have HB := Lib.hid (l01Below_any B ls.length a l cap w h h1 h2)
  have HL := Lib.hid hl
  have HN := Lib.hid hne
  clear h hl hne
  go_enter Tryz.func78, Tryz.ntmps78
  go_wp2_with fail
  refine HB.out.mono ?_
  rintro e w2 ⟨x, hx, rfl, hc2, hg2⟩
  obtain ⟨b, off, rfl, hb, hcell⟩ := (HL.out.grownB hg2 HN.out).cell hx
  have c1 := hcell x hx
  have HC := Lib.hid hc2
  have HG := Lib.hid hg2
  clear hc2 hg2 HB hcell
  go_wp2_with fail
  go_ret
  exact ⟨x, hx, rfl, HC.out, HG.out⟩
theorem StrsIn.lit (w : World) (ls : List ByteArray) : StrsIn (w.alloc (.cells (strVals ls).toArray 9)) (some ⟨w.heap.size, 0, none⟩) ls := by
  refine .inr ⟨_, _, rfl, fun i hi => ?_⟩
  rw [Nat.zero_add, World.cell?_alloc_new]
  have h2 : i < (strVals ls).length := by simpa [strVals] using hi
  show (strVals ls).toArray[i]? = some _
  rw [List.getElem?_toArray, List.getElem?_eq_getElem h2]
  rfl
/-- a literal row of strings is drawn from -/
theorem strLit_any (B : Nat) (a : Option Addr) (l : List UInt8) (cap : Nat) (ls : List ByteArray) (w : World) (h : CurOk w B a l cap) (h1 : 1 ≤ ls.length) (h2 : ls.length ≤ 256) :
    Calls Tryz.prog 78 #[.pointer (some ⟨B, 0, none⟩), .slice (some ⟨w.heap.size, 0, none⟩) ls.length ls.length] (w.alloc (.cells (strVals ls).toArray 9)) fun e w' => ∃ i : Nat, i < ls.length ∧ e = .returned (.string (nthS ls i)) ∧ CurOk w' B a l cap ∧ w.grownBy w' (some B) :=
  (l01Str_any B a l cap ls (some ⟨w.heap.size, 0, none⟩) ls.length _ (h.alloc _) (StrsIn.lit w ls) (fun x hx => by
    obtain rfl := Option.some.inj hx
    have := h.lt
    show w.heap.size ≠ B; omega) h1 h2).mono fun _ _ ⟨i, hi, he, hc, hg⟩ => ⟨i, hi, he, hc, grown_tr (grown_alloc ⟨rfl, rfl, rfl, Nat.le_refl _, fun _ _ _ => rfl⟩ _) hg⟩
theorem allB_app (p : UInt8 → Bool) (u v : ByteArray) : allB p (u ++ v) = (allB p u && allB p v) := by simp [allB]
set_option maxRecDepth 20000 in
set_option maxHeartbeats 2000000 in
theorem l02Draw_any (B k most : Nat) (a : Option Addr) (l : List UInt8) (cap : Nat) (w : World) (h : CurOk w B a l cap) (hk1 : 1 ≤ k) (hk : k ≤ 4) (hm : most ≤ 16) :
    Calls Tryz.prog 80 #[.pointer (some ⟨B, 0, none⟩), .int .i64 (k : Nat), .int .i64 (most : Nat)] w fun e w' => ∃ s : ByteArray, (allB (letB k) s = true ∧ s.size ≤ most) ∧ e = .returned (.string s) ∧ CurOk w' B a l cap ∧ w.grownBy w' (some B) := by
  have kc := convC
  have HN : Hid (Calls Tryz.prog 79 #[.pointer (some ⟨B, 0, none⟩), .int .i64 ((most : Int) + 1)] w fun e w' => ∃ x : Nat, x < most + 1 ∧ e = .returned (.int .i64 ((x : Nat) : Int)) ∧ CurOk w' B a l cap ∧ w.grownBy w' (some B)) := Lib.hid (l01Below_any B (most + 1) a l cap w h (by omega) (by omega))
  clear h
  go_enter Tryz.func80, Tryz.ntmps80
  go_wp2_with fail
  refine HN.out.mono ?_
  rintro e w3 ⟨x, hx, rfl, hc3, hg3⟩
  have HC3 := Lib.hid hc3
  have HG3 := Lib.hid hg3
  clear hc3 hg3 HN
  go_wp2_with fail
  go_loopw [7, 8] (fun u v wr => ∃ (j : Nat) (s : ByteArray), v = .int .i64 ((j : Nat) : Int) ∧ u = .string s ∧ Hid (allB (letB k) s = true) ∧ s.size + j ≤ most ∧ CurOk wr B a l cap ∧ w.grownBy wr (some B)) (fun _ v _ => (intOf v).toNat)
  case atStart => exact ⟨x, ⟨#[]⟩, rfl, rfl, Lib.hid rfl, by show 0 + x ≤ most; omega, HC3.out, HG3.out⟩
  case round =>
    clear HC3 HG3
    obtain ⟨j, s, rfl, rfl, hs, hsz, hc, hg⟩ := hrel
    have HC := Lib.hid hc
    have HG := Lib.hid hg
    clear hc hg
    by_cases hj : 0 < j
    · have HS := Lib.hid (l01Below_any B k a l cap wr HC.out hk1 (by omega))
      have hji : (0 : Int) < (j : Int) := by omega
      go_wp2_with fail
      refine HS.out.mono ?_
      rintro e w5 ⟨i, hi, rfl, hc5, hg5⟩
      have hu : IntKind.u8.wrap (97 + (i : Int)) = 97 + (i : Int) := by simp [IntKind.wrap, IntKind.signed, IntKind.bits]; omega
      have HC5 := Lib.hid (hc5.alloc (.cells #[.int .u8 (97 + (i : Int))] 5))
      have HG5 := Lib.hid (grown_alloc (grown_tr HG.out hg5) (.cells #[.int .u8 (97 + (i : Int))] 5))
      have hlb : allB (letB k) (letterN i) = true := by
        unfold allB
        have : (letterN i).data.toList = [UInt8.ofNat (97 + i)] := by
          show [UInt8.ofNat ((97 + (i : Int)).toNat)] = _
          rw [show (97 + (i : Int)).toNat = 97 + i by omega]
        rw [this]
        show ([UInt8.ofNat (97 + i)].all (letB k)) = true
        have hc : (UInt8.ofNat (97 + i)).toNat = 97 + i := by rw [UInt8.toNat_ofNat']; omega
        simp only [List.all_cons, List.all_nil, Bool.and_true, letB, inB, hc]
        simp; omega
      have HA : Hid (allB (letB k) (s ++ oneC (97 + (i : Int))) = true) := Lib.hid (by
        rw [allB_app, hs.out]
        exact hlb)
      have hsum : ¬ 9223372036854775807 < s.size + (oneC (97 + (i : Int))).size := by
        show ¬ 9223372036854775807 < s.size + 1; omega
      have hss : (s ++ oneC (97 + (i : Int))).size + (j - 1) ≤ most := by
        rw [ByteArray.size_append]
        show s.size + 1 + (j - 1) ≤ most; omega
      have HSS := Lib.hid hss
      clear hc5 hg5 HS hss hlb
      go_wp2_with fail
      go_roundw
      case rel => exact ⟨j - 1, _, by congr 1; omega, rfl, HA, HSS.out, HC5.out, HG5.out⟩
      case measure => simp [intOf]; omega
    · have hji : ¬ (0 : Int) < (j : Int) := by omega
      go_wp2_with fail
      go_ret
      exact ⟨s, ⟨hs.out, by omega⟩, rfl, HC.out, HG.out⟩
end Go.Proofs.YtgoeadgpbidgiaaGreatDoor
