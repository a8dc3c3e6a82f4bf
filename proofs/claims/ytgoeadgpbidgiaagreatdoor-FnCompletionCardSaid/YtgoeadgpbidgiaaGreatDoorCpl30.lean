/-
  The run of a completion, and Complete, of the program (printed by runi.py).
-/
import Derived.Test.YtgoeadgpbidgiaaGreatDoorCpl22
import Derived.Test.YtgoeadgpbidgiaaGreatDoorCpl18
import Derived.Test.YtgoeadgpbidgiaaGreatDoorCpl29
import Derived.Test.YtgoeadgpbidgiaaGreatDoorCpl25
namespace Go.Proofs.YtgoeadgpbidgiaaGreatDoor
open Go.RowKit
set_option linter.unusedVariables false
theorem ruleCells_strS : ∀ (R : List RulD), ∀ v ∈ ruleCells R, ∃ s, v = .string s
  | [], v, hv => by cases hv
  | p :: l, v, hv => by
    simp only [ruleCells, List.mem_cons] at hv
    rcases hv with rfl | rfl | hv
    · exact ⟨_, rfl⟩
    · exact ⟨_, rfl⟩
    · exact ruleCells_strS l v hv
theorem put4_rules {W : World} {aR : Option Addr} {R : List RulD} {g : Nat} {k t : Int} {a1 a2 : Option Addr} {n1 c1 n2 c2 : Nat} {T : TypeId} (hl : RulesIn W aR R) (hz : W.heap[g]? = some (.cells #[.int .i64 k, .slice a1 n1 c1, .slice a2 n2 c2, .int .i64 t] T (0, 0))) (a b c d : Value) : RulesIn (put4 W g a b c d) aR R := by
  rcases hl with hl | ⟨bb, off, ha, hcs⟩
  · exact .inl hl
  · refine .inr ⟨bb, off, ha, fun i hi => ?_⟩
    have hc := hcs i hi
    have hne : bb ≠ g := by
      rintro rfl
      obtain ⟨s, hs⟩ := ruleCells_strS R _ (List.getElem_mem hi)
      rw [hs, cell_of_row _ _ _ _ _ _ hz] at hc
      match off + i, hc with
      | 0, hc => cases hc
      | 1, hc => cases hc
      | 2, hc => cases hc
      | 3, hc => cases hc
      | n + 4, hc => cases hc
    rw [World.cell?_of_block (w := W) (by
      unfold put4 World.setCell
      rw [Array.getElem?_modify, if_neg (fun e => hne e.symm), Array.getElem?_modify, if_neg (fun e => hne e.symm), Array.getElem?_modify, if_neg (fun e => hne e.symm), Array.getElem?_modify, if_neg (fun e => hne e.symm)])]
    exact hc
/-- what a run hands back -/
def RetRun (k : Int) (E : List RulD) (w : World) (e : Ending) (w' : World) : Prop :=
  (startP k E ∧ ∃ (c : Nat) (R Q : List RulD) (T : Nat) (aR : Option Addr) (cR : Nat) (aQ : Option Addr) (cQ : Nat), RunIs [] E 0 c R Q T ∧ e = .returned (.tuple #[workVal k aR R.length cR aQ Q.length cQ T, .int .i64 (c : Nat)]) ∧ RulesIn w' aR R ∧ RulesIn w' aQ Q ∧ Below w.heap.size w w') ∨
  (¬ startP k E ∧ e = .returned (.tuple #[workVal 0 none 0 0 none 0 0 0, .int .i64 4]) ∧ Below w.heap.size w w')
/-- where a run stands: the record at g -/
structure RunAt (w1 W : World) (g : Nat) (k : Int) (E R Q : List RulD) (T : Nat) (aR : Option Addr) (cR : Nat) (aQ : Option Addr) (cQ : Nat) : Prop where
  blk : W.heap[g]? = some (.cells #[.int .i64 k, .slice aR R.length cR, .slice aQ Q.length cQ, .int .i64 (T : Nat)] 69 (0, 0))
  rules : RulesIn W aR R
  queue : RulesIn W aQ Q
  work : WorkP k R Q T
  run : ∀ {c R' Q' T'}, RunIs R Q T c R' Q' T' → RunIs [] E 0 c R' Q' T'
  bel : Below w1.heap.size w1 W
theorem RunAt.later {w1 W W2 : World} {g : Nat} {k : Int} {E R Q : List RulD} {T : Nat} {aR aQ : Option Addr} {cR cQ : Nat} (h : RunAt w1 W g k E R Q T aR cR aQ cQ) (hb : Below W.heap.size W W2) : RunAt w1 W2 g k E R Q T aR cR aQ cQ :=
  ⟨block_later h.blk _ hb, h.rules.later hb, h.queue.later hb, h.work, h.run, Below.now h.bel hb⟩
theorem RunAt.put {w1 W : World} {g : Nat} {k : Int} {E R Q : List RulD} {T : Nat} {aR aQ : Option Addr} {cR cQ : Nat} (h : RunAt w1 W g k E R Q T aR cR aQ cQ) (hg : w1.heap.size ≤ g) (hQ : Q ≠ []) (hc : (turnF R Q T).1 = 0) {aR2 aQ2 : Option Addr} {cR2 cQ2 : Nat} (hR2 : RulesIn W aR2 (turnF R Q T).2.1) (hQ2 : RulesIn W aQ2 (turnF R Q T).2.2.1) :
    RunAt w1 (put4 W g (.int .i64 k) (.slice aR2 (turnF R Q T).2.1.length cR2) (.slice aQ2 (turnF R Q T).2.2.1.length cQ2) (.int .i64 ((turnF R Q T).2.2.2 : Nat))) g k E (turnF R Q T).2.1 (turnF R Q T).2.2.1 (turnF R Q T).2.2.2 aR2 cR2 aQ2 cQ2 :=
  ⟨(put4_sets h.blk _ _ _ _).2.2.2, put4_rules hR2 h.blk _ _ _ _, put4_rules hQ2 h.blk _ _ _ _, h.work.turn hc, fun r => h.run (.step hQ hc r), put4_below h.bel hg _ _ _ _⟩
theorem RunAt.turns {w1 W : World} {g : Nat} {k : Int} {E R Q : List RulD} {T : Nat} {aR aQ : Option Addr} {cR cQ : Nat} (h : RunAt w1 W g k E R Q T aR cR aQ cQ) (hc : (turnF R Q T).1 = 0) (hQ : Q ≠ []) : (turnF R Q T).2.2.2 = T + 1 ∧ T < 200 := by
  have ht := h.work.turns
  cases hq : Q with
  | nil => exact absurd hq hQ
  | cons q Qt =>
    rw [hq] at hc
    unfold turnF at hc ⊢
    simp only at hc ⊢
    by_cases c1 : T = 200
    · rw [if_pos c1] at hc; cases hc
    refine ⟨?_, by omega⟩
    rw [if_neg c1] at hc ⊢
    split
    · rfl
    · rename_i c2
      rw [if_neg c2] at hc
      split
      · rename_i c3; rw [if_pos c3] at hc; cases hc
      · rename_i c3
        rw [if_neg c3] at hc
        split
        · rename_i c4; rw [if_pos c4] at hc; cases hc
        · rename_i c4
          rw [if_neg c4] at hc
          split
          · rename_i c5; rw [if_pos c5] at hc; cases hc
          · rfl
def turnsLeft (W : World) (g : Nat) : Nat := match W.cell? ⟨g, 3, none⟩ with
  | some (.int _ t) => 201 - t.toNat
  | _ => 0
theorem turnsLeft_at {W : World} {g : Nat} {T : Nat} (h : W.cell? ⟨g, 3, none⟩ = some (.int .i64 (T : Nat))) : turnsLeft W g = 201 - T := by
  unfold turnsLeft
  rw [h]
  simp
set_option maxRecDepth 100000 in
set_option maxHeartbeats 4000000 in
theorem l06Run_any (k : Int) (E : List RulD) (a : Option Addr) (cap : Nat) (w : World) (hl : RulesIn w a E) (hlen : E.length ≤ 2 ^ 40) (hz : SzR E) :
    Calls Tryz.prog 72 #[.int .i64 k, .slice a E.length cap] w (RetRun k E w) := by
  have HL := Lib.hid hl
  have HW1 := Lib.hid (alloc_belowS w (.cells #[.int .i64 0, .slice none 0 0, .slice none 0 0, .int .i64 0] 69))
  have hsz : w.heap.size < (w.alloc (.cells #[.int .i64 0, .slice none 0 0, .slice none 0 0, .int .i64 0] 69)).heap.size := by simp
  have hat := alloc_at w (.cells #[.int .i64 0, .slice none 0 0, .slice none 0 0, .int .i64 0] 69)
  have HBK : Hid (∀ W, Below (w.alloc (.cells #[.int .i64 0, .slice none 0 0, .slice none 0 0, .int .i64 0] 69)).heap.size (w.alloc (.cells #[.int .i64 0, .slice none 0 0, .slice none 0 0, .int .i64 0] 69)) W → W.heap[w.heap.size]? = some (.cells #[.int .i64 0, .slice none 0 0, .slice none 0 0, .int .i64 0] 69 (0, 0))) := Lib.hid (fun W hW => (hW.block _ hsz).trans hat)
  have HSW := Lib.hid (fun W h => specStartWork_any k E a cap W h hlen hz)
  have HTW := Lib.hid (fun R q Qt T aR aQ cR cQ W h1 h2 h3 => specTurnWork_any k R q Qt T aR aQ cR cQ W h1 h2 h3)
  have HS1 := Lib.hid hsz
  clear hl hz hat hsz
  go_enter Tryz.func72, Tryz.ntmps72
  go_wp2_with fail
  generalize w.alloc (.cells #[.int .i64 0, .slice none 0 0, .slice none 0 0, .int .i64 0] 69) = w1 at *
  refine (HSW.out _ (HL.out.later HW1.out)).mono ?_
  rintro e w2 hr
  rcases hr with ⟨hst, aQ0, cQ0, rfl, hq0, hb2⟩ | ⟨hst, rfl, hb2⟩
  · have HB2 := Lib.hid hb2
    have HST := Lib.hid hst
    unfold workVal
    have HRA : Hid (RunAt w1 (w2.alloc (.cells #[.int .i64 k, .slice none ([] : List RulD).length 0, .slice aQ0 E.length cQ0, .int .i64 ((0 : Nat) : Int)] 69)) w2.heap.size k E [] E 0 none 0 aQ0 cQ0) :=
      Lib.hid ⟨alloc_at w2 _, .inl rfl, hq0.later (alloc_belowS w2 _), hst.work, fun r => r, Below.now hb2 (alloc_belowS w2 _)⟩
    have HG : Hid (w1.heap.size ≤ w2.heap.size) := Lib.hid hb2.size
    obtain ⟨q0, q1, q2, q3⟩ := (four_cells HRA.out.blk).1
    clear hst hq0 hb2
    go_wp2_with fail
    generalize hg2 : w2.heap.size = g at *
    go_loopw [] (fun wr => ∃ (R Q : List RulD) (T : Nat) (aR : Option Addr) (cR : Nat) (aQ : Option Addr) (cQ : Nat), Hid (RunAt w1 wr g k E R Q T aR cR aQ cQ)) (fun W => turnsLeft W g)
    case atStart => exact ⟨[], E, 0, none, 0, aQ0, cQ0, HRA⟩
    case round =>
      clear q0 q1 q2 q3 HRA
      obtain ⟨R, Q, T, aR, cR, aQ, cQ, HR⟩ := hrel
      obtain ⟨⟨q0, q1, q2, q3⟩, ff⟩ := four_cells HR.out.blk
      cases hQe : Q with
      | nil =>
        subst hQe
        have HQ0 : Hid (RunIs [] E 0 0 R [] T) := Lib.hid (HR.out.run .done)
        obtain ⟨⟨f0, f1, f2, f3⟩, ⟨u0, u1, u2, u3⟩, ⟨z0, z1, z2, z3⟩, _⟩ := put4_sets (HBK.out _ HR.out.bel) (.int .i64 k) (.slice aR R.length cR) (.slice aQ 0 cQ) (.int .i64 (T : Nat))
        have F : Hid (RetRun k E w (.returned (.tuple #[.agg #[.int .i64 k, .slice aR R.length cR, .slice aQ 0 cQ, .int .i64 (T : Nat)], .int .i64 0])) (put4 wr w.heap.size (.int .i64 k) (.slice aR R.length cR) (.slice aQ 0 cQ) (.int .i64 (T : Nat)))) :=
          Lib.hid (.inl ⟨HST.out, 0, R, [], T, aR, cR, aQ, cQ, HQ0.out, rfl, put4_rules HR.out.rules (HBK.out _ HR.out.bel) _ _ _ _, .inl rfl, put4_below (Below.now HW1.out HR.out.bel) (Nat.le_refl _) _ _ _ _⟩)
        simp only [List.length_nil] at q2
        unfold put4 at F u0 u1 u2 u3
        go_wp2_with fail
        refine bodyPost_ret (v := .tuple #[.agg #[.int .i64 k, .slice aR R.length cR, .slice aQ 0 cQ, .int .i64 (T : Nat)], .int .i64 0]) ?_ rfl F.out
        simp [results, Tryz.results72, go_sem, u0, u1, u2, u3]
      | cons q Qt =>
        subst hQe
        have hne : q :: Qt ≠ [] := by simp
        have HNE := Lib.hid hne
        have hpos : (0 : Int) < ((q :: Qt).length : Int) := by simp only [List.length_cons]; omega
        have HT := Lib.hid (HTW.out R q Qt T aR aQ cR cQ wr HR.out.rules HR.out.queue HR.out.work)
        have HTL := Lib.hid (fun h => HR.out.turns h HNE.out)
        have HM : Hid (turnsLeft wr g = 201 - T) := Lib.hid (turnsLeft_at q3)
        generalize q :: Qt = Q at *
        clear hne
        go_wp2_with fail
        refine HT.out.mono ?_
        rintro e w3 ⟨aR2, cR2, aQ2, cQ2, rfl, hR2, hQ2, hb3⟩
        unfold workVal
        have HB3 := Lib.hid hb3
        have HR3 := Lib.hid (HR.out.later (Below.now hb3 (alloc_belowS w3 (.cells #[.int .i64 k, .slice aR2 (turnF R Q T).2.1.length cR2, .slice aQ2 (turnF R Q T).2.2.1.length cQ2, .int .i64 ((turnF R Q T).2.2.2 : Nat)] 69))))
        have HR2 := Lib.hid (hR2.later (alloc_belowS w3 (.cells #[.int .i64 k, .slice aR2 (turnF R Q T).2.1.length cR2, .slice aQ2 (turnF R Q T).2.2.1.length cQ2, .int .i64 ((turnF R Q T).2.2.2 : Nat)] 69)))
        have HQ2 := Lib.hid (hQ2.later (alloc_belowS w3 (.cells #[.int .i64 k, .slice aR2 (turnF R Q T).2.1.length cR2, .slice aQ2 (turnF R Q T).2.2.1.length cQ2, .int .i64 ((turnF R Q T).2.2.2 : Nat)] 69)))
        have HAT := Lib.hid (alloc_at w3 (.cells #[.int .i64 k, .slice aR2 (turnF R Q T).2.1.length cR2, .slice aQ2 (turnF R Q T).2.2.1.length cQ2, .int .i64 ((turnF R Q T).2.2.2 : Nat)] 69))
        clear q0 q1 q2 q3 ff hb3 hR2 hQ2
        by_cases hc : (turnF R Q T).1 = 0
        · have HC := Lib.hid hc
          have hc2 : (((turnF R Q T).1 : Nat) : Int) = 0 := by omega
          have HTN := Lib.hid (HTL.out hc)
          have HP := Lib.hid (HR3.out.put (by first | exact HG.out | (rw [← hg2]; exact HG.out)) HNE.out hc (cR2 := cR2) (cQ2 := cQ2) HR2.out HQ2.out)
          obtain ⟨⟨f0, f1, f2, f3⟩, ⟨u0, u1, u2, u3⟩, ⟨z0, z1, z2, z3⟩, _⟩ := put4_sets HR3.out.blk (.int .i64 k) (.slice aR2 (turnF R Q T).2.1.length cR2) (.slice aQ2 (turnF R Q T).2.2.1.length cQ2) (.int .i64 ((turnF R Q T).2.2.2 : Nat))
          obtain ⟨⟨y0, y1, y2, y3⟩, _⟩ := four_cells HAT.out
          have HM2 : Hid (turnsLeft (put4 (w3.alloc (.cells #[.int .i64 k, .slice aR2 (turnF R Q T).2.1.length cR2, .slice aQ2 (turnF R Q T).2.2.1.length cQ2, .int .i64 ((turnF R Q T).2.2.2 : Nat)] 69)) g (.int .i64 k) (.slice aR2 (turnF R Q T).2.1.length cR2) (.slice aQ2 (turnF R Q T).2.2.1.length cQ2) (.int .i64 ((turnF R Q T).2.2.2 : Nat))) g = 201 - (turnF R Q T).2.2.2) := Lib.hid (turnsLeft_at u3)
          clear HTW HSW hc u0 u1 u2 u3
          rw [hc2]
          unfold put4 at HP HM2
          generalize (turnF R Q T).2.1 = R2 at *
          generalize (turnF R Q T).2.2.1 = Q2 at *
          generalize (turnF R Q T).2.2.2 = T2 at *
          clear hc2
          go_wp2_with fail
          go_roundw
          case rel => exact ⟨R2, Q2, T2, aR2, cR2, aQ2, cQ2, HP⟩
          case measure => rw [HM.out, HM2.out, HTN.out.1]; have := HTN.out.2; omega
        · have HC : Hid (RunIs R Q T (turnF R Q T).1 R Q T) := Lib.hid (.fail HNE.out hc)
          have hc2 : ((((turnF R Q T).1 : Nat) : Int) == 0) = false := by rw [beq_eq_false_iff_ne]; omega
          have hc3 : ¬ (((turnF R Q T).1 : Nat) : Int) = 0 := by omega
          obtain ⟨⟨f0, f1, f2, f3⟩, ⟨u0, u1, u2, u3⟩, ⟨z0, z1, z2, z3⟩, _⟩ := put4_sets (HBK.out _ HR3.out.bel) (.int .i64 k) (.slice aR R.length cR) (.slice aQ Q.length cQ) (.int .i64 (T : Nat))
          obtain ⟨⟨y0, y1, y2, y3⟩, _⟩ := four_cells HR3.out.blk
          have F : Hid (RetRun k E w (.returned (.tuple #[.agg #[.int .i64 k, .slice aR R.length cR, .slice aQ Q.length cQ, .int .i64 (T : Nat)], .int .i64 ((turnF R Q T).1 : Nat)])) (put4 (w3.alloc (.cells #[.int .i64 k, .slice aR2 (turnF R Q T).2.1.length cR2, .slice aQ2 (turnF R Q T).2.2.1.length cQ2, .int .i64 ((turnF R Q T).2.2.2 : Nat)] 69)) w.heap.size (.int .i64 k) (.slice aR R.length cR) (.slice aQ Q.length cQ) (.int .i64 (T : Nat)))) :=
            Lib.hid (.inl ⟨HST.out, (turnF R Q T).1, R, Q, T, aR, cR, aQ, cQ, HR.out.run HC.out, rfl, put4_rules HR3.out.rules (HBK.out _ HR3.out.bel) _ _ _ _, put4_rules HR3.out.queue (HBK.out _ HR3.out.bel) _ _ _ _, put4_below (Below.now HW1.out HR3.out.bel) (Nat.le_refl _) _ _ _ _⟩)
          clear HTW HSW hc HTL
          unfold put4 at F u0 u1 u2 u3
          generalize (turnF R Q T).2.1 = R2 at *
          generalize (turnF R Q T).2.2.1 = Q2 at *
          generalize (turnF R Q T).2.2.2 = T2 at *
          generalize (turnF R Q T).1 = c2 at *
          go_wp2_with fail
          refine bodyPost_ret (v := .tuple #[.agg #[.int .i64 k, .slice aR R.length cR, .slice aQ Q.length cQ, .int .i64 (T : Nat)], .int .i64 (c2 : Nat)]) ?_ rfl F.out
          simp [results, Tryz.results72, go_sem, u0, u1, u2, u3]
  · have HB2 := Lib.hid (Below.now hb2 (alloc_belowS w2 (.cells #[.int .i64 0, .slice none 0 0, .slice none 0 0, .int .i64 0] 69)))
    obtain ⟨⟨f0, f1, f2, f3⟩, ⟨u0, u1, u2, u3⟩, ⟨z0, z1, z2, z3⟩, _⟩ := put4_sets (HBK.out _ HB2.out) (.int .i64 0) (.slice none 0 0) (.slice none 0 0) (.int .i64 0)
    have F : Hid (RetRun k E w (.returned (.tuple #[.agg #[.int .i64 0, .slice none 0 0, .slice none 0 0, .int .i64 0], .int .i64 4])) (put4 (w2.alloc (.cells #[.int .i64 0, .slice none 0 0, .slice none 0 0, .int .i64 0] 69)) w.heap.size (.int .i64 0) (.slice none 0 0) (.slice none 0 0) (.int .i64 0))) :=
      Lib.hid (.inr ⟨hst, rfl, put4_below (Below.now HW1.out HB2.out) (Nat.le_refl _) _ _ _ _⟩)
    unfold workVal
    unfold put4 at F u0 u1 u2 u3
    clear hst hb2
    go_wp2_with fail
    refine bodyPost_ret (v := .tuple #[.agg #[.int .i64 0, .slice none 0 0, .slice none 0 0, .int .i64 0], .int .i64 4]) ?_ rfl F.out
    simp [results, Tryz.results72, go_sem, u0, u1, u2, u3]
/-- what Complete hands back -/
def RetCom (k : Int) (E : List RulD) (w : World) (e : Ending) (w' : World) : Prop :=
  (startP k E ∧ ∃ (c : Nat) (R Q : List RulD) (T : Nat) (aR : Option Addr) (cR : Nat), RunIs [] E 0 c R Q T ∧ e = .returned (.tuple #[.agg #[.int .i64 k, .slice aR R.length cR], .int .i64 (c : Nat)]) ∧ RulesIn w' aR R ∧ Below w.heap.size w w') ∨
  (¬ startP k E ∧ e = .returned (.tuple #[.agg #[.int .i64 0, .slice none 0 0], .int .i64 4]) ∧ Below w.heap.size w w')
theorem rules_set2 {wr : World} {aR : Option Addr} {R : List RulD} {g : Nat} {k : Int} {a1 : Option Addr} {n1 c1 : Nat} {T : TypeId} (hl : RulesIn wr aR R) (hz : wr.heap[g]? = some (.cells #[.int .i64 k, .slice a1 n1 c1] T (0, 0))) (u v : Value) : RulesIn ((wr.setCell ⟨g, 0, none⟩ u).setCell ⟨g, 1, none⟩ v) aR R := by
  rcases hl with hl | ⟨b, off, ha, hcs⟩
  · exact .inl hl
  · refine .inr ⟨b, off, ha, fun i hi => ?_⟩
    have hc := hcs i hi
    have hne : b ≠ g := by
      rintro rfl
      obtain ⟨s, hs⟩ := ruleCells_strS R _ (List.getElem_mem hi)
      rw [hs, cell_of_row _ _ _ _ _ _ hz] at hc
      match off + i, hc with
      | 0, hc => cases hc
      | 1, hc => cases hc
      | n + 2, hc => cases hc
    rw [World.cell?_of_block (w := wr) (by
      unfold World.setCell
      rw [Array.getElem?_modify, if_neg (fun e => hne e.symm), Array.getElem?_modify, if_neg (fun e => hne e.symm)])]
    exact hc
set_option maxRecDepth 100000 in
set_option maxHeartbeats 4000000 in
theorem specComplete_any (k : Int) (E : List RulD) (a : Option Addr) (cap : Nat) (w : World) (hl : RulesIn w a E) (hlen : E.length ≤ 2 ^ 40) (hz : SzR E) :
    Calls Tryz.prog 31 #[.int .i64 k, .slice a E.length cap] w (RetCom k E w) := by
  have HW1 := Lib.hid (alloc_belowS w (.cells #[.int .i64 0, .slice none 0 0] 33))
  have hsz : w.heap.size < (w.alloc (.cells #[.int .i64 0, .slice none 0 0] 33)).heap.size := by simp
  have hat := alloc_at w (.cells #[.int .i64 0, .slice none 0 0] 33)
  have HBK : Hid (∀ W, Below (w.alloc (.cells #[.int .i64 0, .slice none 0 0] 33)).heap.size (w.alloc (.cells #[.int .i64 0, .slice none 0 0] 33)) W → W.heap[w.heap.size]? = some (.cells #[.int .i64 0, .slice none 0 0] 33 (0, 0))) := Lib.hid (fun W hW => (hW.block _ hsz).trans hat)
  have HRN := Lib.hid (l06Run_any k E a cap (w.alloc (.cells #[.int .i64 0, .slice none 0 0] 33)) (hl.later HW1.out) hlen hz)
  clear hl hz hat hsz
  go_enter Tryz.func31, Tryz.ntmps31
  go_wp2_with fail
  generalize w.alloc (.cells #[.int .i64 0, .slice none 0 0] 33) = w1 at *
  refine HRN.out.mono ?_
  rintro e w2 hr
  rcases hr with ⟨hst, c, R, Q, T, aR, cR, aQ, cQ, hrun, rfl, hR, hQ, hb2⟩ | ⟨hst, rfl, hb2⟩
  · have hb3 := Below.now hb2 (alloc_belowS w2 (.cells #[.int .i64 k, .slice aR R.length cR, .slice aQ Q.length cQ, .int .i64 (T : Nat)] 69))
    have hz := HBK.out _ hb3
    obtain ⟨z0, z1, f0, f1⟩ := rec_cells hz
    obtain ⟨u0, u1, _, _⟩ := rec_cells (set_two hz (.int .i64 k) (.slice aR R.length cR))
    have F : Hid (RetCom k E w (.returned (.tuple #[.agg #[.int .i64 k, .slice aR R.length cR], .int .i64 (c : Nat)])) (((w2.alloc (.cells #[.int .i64 k, .slice aR R.length cR, .slice aQ Q.length cQ, .int .i64 (T : Nat)] 69)).setCell ⟨w.heap.size, 0, none⟩ (.int .i64 k)).setCell ⟨w.heap.size, 1, none⟩ (.slice aR R.length cR))) :=
      Lib.hid (.inl ⟨hst, c, R, Q, T, aR, cR, hrun, rfl, rules_set2 (hR.later (alloc_belowS w2 _)) hz _ _, ((Below.now HW1.out hb3).setCell (Nat.le_refl _) _).setCell (Nat.le_refl _) _⟩)
    obtain ⟨⟨y0, y1, y2, y3⟩, _⟩ := four_cells (alloc_at w2 (.cells #[.int .i64 k, .slice aR R.length cR, .slice aQ Q.length cQ, .int .i64 (T : Nat)] 69))
    unfold workVal
    clear hst hrun hR hQ hb2 hb3 hz
    go_wp2_with fail
    refine bodyPost_ret (v := .tuple #[.agg #[.int .i64 k, .slice aR R.length cR], .int .i64 (c : Nat)]) ?_ rfl F.out
    simp [results, Tryz.results31, go_sem, u0, u1]
  · have hb3 := Below.now hb2 (alloc_belowS w2 (.cells #[.int .i64 0, .slice none 0 0, .slice none 0 0, .int .i64 0] 69))
    have hz := HBK.out _ hb3
    obtain ⟨z0, z1, f0, f1⟩ := rec_cells hz
    obtain ⟨u0, u1, _, _⟩ := rec_cells (set_two hz (.int .i64 0) (.slice none 0 0))
    have F : Hid (RetCom k E w (.returned (.tuple #[.agg #[.int .i64 0, .slice none 0 0], .int .i64 4])) (((w2.alloc (.cells #[.int .i64 0, .slice none 0 0, .slice none 0 0, .int .i64 0] 69)).setCell ⟨w.heap.size, 0, none⟩ (.int .i64 0)).setCell ⟨w.heap.size, 1, none⟩ (.slice none 0 0))) :=
      Lib.hid (.inr ⟨hst, rfl, ((Below.now HW1.out hb3).setCell (Nat.le_refl _) _).setCell (Nat.le_refl _) _⟩)
    unfold workVal
    clear hst hb2 hb3 hz
    go_wp2_with fail
    refine bodyPost_ret (v := .tuple #[.agg #[.int .i64 0, .slice none 0 0], .int .i64 4]) ?_ rfl F.out
    simp [results, Tryz.results31, go_sem, u0, u1]
end Go.Proofs.YtgoeadgpbidgiaaGreatDoor
namespace Go.Proofs.YtgoeadgpbidgiaaGreatDoor
open Go.RowKit
set_option linter.unusedVariables false
set_option maxRecDepth 100000 in
set_option maxHeartbeats 4000000 in
theorem implCompleted_any (k : Int) (E : List RulD) (a : Option Addr) (cap : Nat) (w : World) (hl : RulesIn w a E) (hlen : E.length ≤ 2 ^ 40) (hz : SzR E) (hmx : MaxL w) :
    Calls Tryz.prog 39 #[.int .i64 k, .slice a E.length cap] w (RetRun k E w) := by
  have HL := Lib.hid hl
  have HMX := Lib.hid hmx
  have HW1 := Lib.hid (alloc_belowS w (.cells #[.int .i64 0, .slice none 0 0, .slice none 0 0, .int .i64 0] 69))
  have hsz : w.heap.size < (w.alloc (.cells #[.int .i64 0, .slice none 0 0, .slice none 0 0, .int .i64 0] 69)).heap.size := by simp
  have hat := alloc_at w (.cells #[.int .i64 0, .slice none 0 0, .slice none 0 0, .int .i64 0] 69)
  have HBK : Hid (∀ W, Below (w.alloc (.cells #[.int .i64 0, .slice none 0 0, .slice none 0 0, .int .i64 0] 69)).heap.size (w.alloc (.cells #[.int .i64 0, .slice none 0 0, .slice none 0 0, .int .i64 0] 69)) W → W.heap[w.heap.size]? = some (.cells #[.int .i64 0, .slice none 0 0, .slice none 0 0, .int .i64 0] 69 (0, 0))) := Lib.hid (fun W hW => (hW.block _ hsz).trans hat)
  have HSW := Lib.hid (fun W h => implStartWork_any k E a cap W h hlen hz)
  have HTW := Lib.hid (fun R q Qt T aR aQ cR cQ W h1 h2 h3 h4 h5 => implTurnWork_any k R q Qt T aR aQ cR cQ W h1 h2 h3 h4 h5)
  have HS1 := Lib.hid hsz
  clear hl hz hat hsz hmx
  go_enter Tryz.func39, Tryz.ntmps39
  go_wp2_with fail
  generalize w.alloc (.cells #[.int .i64 0, .slice none 0 0, .slice none 0 0, .int .i64 0] 69) = w1 at *
  refine (HSW.out _ (HL.out.later HW1.out)).mono ?_
  rintro e w2 hr
  rcases hr with ⟨hst, aQ0, cQ0, rfl, hq0, hcp0, hb2⟩ | ⟨hst, rfl, hb2⟩
  · have HB2 := Lib.hid hb2
    have HST := Lib.hid hst
    have HCP0 := Lib.hid hcp0
    unfold workVal
    have HRA : Hid (RunAt w1 (w2.alloc (.cells #[.int .i64 k, .slice none ([] : List RulD).length 0, .slice aQ0 E.length cQ0, .int .i64 ((0 : Nat) : Int)] 69)) w2.heap.size k E [] E 0 none 0 aQ0 cQ0) :=
      Lib.hid ⟨alloc_at w2 _, .inl rfl, hq0.later (alloc_belowS w2 _), hst.work, fun r => r, Below.now hb2 (alloc_belowS w2 _)⟩
    have HG : Hid (w1.heap.size ≤ w2.heap.size) := Lib.hid hb2.size
    obtain ⟨q0, q1, q2, q3⟩ := (four_cells HRA.out.blk).1
    clear hst hq0 hcp0 hb2
    go_wp2_with fail
    generalize hg2 : w2.heap.size = g at *
    go_loopw [] (fun wr => ∃ (R Q : List RulD) (T : Nat) (aR : Option Addr) (cR : Nat) (aQ : Option Addr) (cQ : Nat), Hid (RunAt w1 wr g k E R Q T aR cR aQ cQ) ∧ Hid (Q.length ≤ cQ)) (fun W => turnsLeft W g)
    case atStart => exact ⟨[], E, 0, none, 0, aQ0, cQ0, HRA, HCP0⟩
    case round =>
      clear q0 q1 q2 q3 HRA HCP0
      obtain ⟨R, Q, T, aR, cR, aQ, cQ, HR, HCQ⟩ := hrel
      obtain ⟨⟨q0, q1, q2, q3⟩, ff⟩ := four_cells HR.out.blk
      cases hQe : Q with
      | nil =>
        subst hQe
        have HQ0 : Hid (RunIs [] E 0 0 R [] T) := Lib.hid (HR.out.run .done)
        obtain ⟨⟨f0, f1, f2, f3⟩, ⟨u0, u1, u2, u3⟩, ⟨z0, z1, z2, z3⟩, _⟩ := put4_sets (HBK.out _ HR.out.bel) (.int .i64 k) (.slice aR R.length cR) (.slice aQ 0 cQ) (.int .i64 (T : Nat))
        have F : Hid (RetRun k E w (.returned (.tuple #[.agg #[.int .i64 k, .slice aR R.length cR, .slice aQ 0 cQ, .int .i64 (T : Nat)], .int .i64 0])) (put4 wr w.heap.size (.int .i64 k) (.slice aR R.length cR) (.slice aQ 0 cQ) (.int .i64 (T : Nat)))) :=
          Lib.hid (.inl ⟨HST.out, 0, R, [], T, aR, cR, aQ, cQ, HQ0.out, rfl, put4_rules HR.out.rules (HBK.out _ HR.out.bel) _ _ _ _, .inl rfl, put4_below (Below.now HW1.out HR.out.bel) (Nat.le_refl _) _ _ _ _⟩)
        simp only [List.length_nil] at q2
        unfold put4 at F u0 u1 u2 u3
        go_wp2_with fail
        refine bodyPost_ret (v := .tuple #[.agg #[.int .i64 k, .slice aR R.length cR, .slice aQ 0 cQ, .int .i64 (T : Nat)], .int .i64 0]) ?_ rfl F.out
        simp [results, Tryz.results39, go_sem, u0, u1, u2, u3]
      | cons q Qt =>
        subst hQe
        have hne : q :: Qt ≠ [] := by simp
        have HNE := Lib.hid hne
        have hpos : (0 : Int) < ((q :: Qt).length : Int) := by simp only [List.length_cons]; omega
        have HT := Lib.hid (HTW.out R q Qt T aR aQ cR cQ wr HR.out.rules HR.out.queue HCQ.out HR.out.work (HMX.out.later (Below.now HW1.out HR.out.bel)))
        have HTL := Lib.hid (fun h => HR.out.turns h HNE.out)
        have HM : Hid (turnsLeft wr g = 201 - T) := Lib.hid (turnsLeft_at q3)
        generalize q :: Qt = Q at *
        clear hne
        go_wp2_with fail
        refine HT.out.mono ?_
        rintro e w3 ⟨aR2, cR2, aQ2, cQ2, rfl, hR2, hQ2, hcp2, hb3⟩
        unfold workVal
        have HB3 := Lib.hid hb3
        have HC2 := Lib.hid hcp2
        have HR3 := Lib.hid (HR.out.later (Below.now hb3 (alloc_belowS w3 (.cells #[.int .i64 k, .slice aR2 (turnF R Q T).2.1.length cR2, .slice aQ2 (turnF R Q T).2.2.1.length cQ2, .int .i64 ((turnF R Q T).2.2.2 : Nat)] 69))))
        have HR2 := Lib.hid (hR2.later (alloc_belowS w3 (.cells #[.int .i64 k, .slice aR2 (turnF R Q T).2.1.length cR2, .slice aQ2 (turnF R Q T).2.2.1.length cQ2, .int .i64 ((turnF R Q T).2.2.2 : Nat)] 69)))
        have HQ2 := Lib.hid (hQ2.later (alloc_belowS w3 (.cells #[.int .i64 k, .slice aR2 (turnF R Q T).2.1.length cR2, .slice aQ2 (turnF R Q T).2.2.1.length cQ2, .int .i64 ((turnF R Q T).2.2.2 : Nat)] 69)))
        have HAT := Lib.hid (alloc_at w3 (.cells #[.int .i64 k, .slice aR2 (turnF R Q T).2.1.length cR2, .slice aQ2 (turnF R Q T).2.2.1.length cQ2, .int .i64 ((turnF R Q T).2.2.2 : Nat)] 69))
        clear q0 q1 q2 q3 ff hb3 hR2 hQ2 hcp2
        by_cases hc : (turnF R Q T).1 = 0
        · have HC := Lib.hid hc
          have hc2 : (((turnF R Q T).1 : Nat) : Int) = 0 := by omega
          have HTN := Lib.hid (HTL.out hc)
          have HP := Lib.hid (HR3.out.put (by first | exact HG.out | (rw [← hg2]; exact HG.out)) HNE.out hc (cR2 := cR2) (cQ2 := cQ2) HR2.out HQ2.out)
          obtain ⟨⟨f0, f1, f2, f3⟩, ⟨u0, u1, u2, u3⟩, ⟨z0, z1, z2, z3⟩, _⟩ := put4_sets HR3.out.blk (.int .i64 k) (.slice aR2 (turnF R Q T).2.1.length cR2) (.slice aQ2 (turnF R Q T).2.2.1.length cQ2) (.int .i64 ((turnF R Q T).2.2.2 : Nat))
          obtain ⟨⟨y0, y1, y2, y3⟩, _⟩ := four_cells HAT.out
          have HM2 : Hid (turnsLeft (put4 (w3.alloc (.cells #[.int .i64 k, .slice aR2 (turnF R Q T).2.1.length cR2, .slice aQ2 (turnF R Q T).2.2.1.length cQ2, .int .i64 ((turnF R Q T).2.2.2 : Nat)] 69)) g (.int .i64 k) (.slice aR2 (turnF R Q T).2.1.length cR2) (.slice aQ2 (turnF R Q T).2.2.1.length cQ2) (.int .i64 ((turnF R Q T).2.2.2 : Nat))) g = 201 - (turnF R Q T).2.2.2) := Lib.hid (turnsLeft_at u3)
          clear HTW HSW hc u0 u1 u2 u3
          rw [hc2]
          unfold put4 at HP HM2
          generalize (turnF R Q T).2.1 = R2 at *
          generalize (turnF R Q T).2.2.1 = Q2 at *
          generalize (turnF R Q T).2.2.2 = T2 at *
          clear hc2
          go_wp2_with fail
          go_roundw
          case rel => exact ⟨R2, Q2, T2, aR2, cR2, aQ2, cQ2, HP, HC2⟩
          case measure => rw [HM.out, HM2.out, HTN.out.1]; have := HTN.out.2; omega
        · have HC : Hid (RunIs R Q T (turnF R Q T).1 R Q T) := Lib.hid (.fail HNE.out hc)
          have hc2 : ((((turnF R Q T).1 : Nat) : Int) == 0) = false := by rw [beq_eq_false_iff_ne]; omega
          have hc3 : ¬ (((turnF R Q T).1 : Nat) : Int) = 0 := by omega
          obtain ⟨⟨f0, f1, f2, f3⟩, ⟨u0, u1, u2, u3⟩, ⟨z0, z1, z2, z3⟩, _⟩ := put4_sets (HBK.out _ HR3.out.bel) (.int .i64 k) (.slice aR R.length cR) (.slice aQ Q.length cQ) (.int .i64 (T : Nat))
          obtain ⟨⟨y0, y1, y2, y3⟩, _⟩ := four_cells HR3.out.blk
          have F : Hid (RetRun k E w (.returned (.tuple #[.agg #[.int .i64 k, .slice aR R.length cR, .slice aQ Q.length cQ, .int .i64 (T : Nat)], .int .i64 ((turnF R Q T).1 : Nat)])) (put4 (w3.alloc (.cells #[.int .i64 k, .slice aR2 (turnF R Q T).2.1.length cR2, .slice aQ2 (turnF R Q T).2.2.1.length cQ2, .int .i64 ((turnF R Q T).2.2.2 : Nat)] 69)) w.heap.size (.int .i64 k) (.slice aR R.length cR) (.slice aQ Q.length cQ) (.int .i64 (T : Nat)))) :=
            Lib.hid (.inl ⟨HST.out, (turnF R Q T).1, R, Q, T, aR, cR, aQ, cQ, HR.out.run HC.out, rfl, put4_rules HR3.out.rules (HBK.out _ HR3.out.bel) _ _ _ _, put4_rules HR3.out.queue (HBK.out _ HR3.out.bel) _ _ _ _, put4_below (Below.now HW1.out HR3.out.bel) (Nat.le_refl _) _ _ _ _⟩)
          clear HTW HSW hc HTL
          unfold put4 at F u0 u1 u2 u3
          generalize (turnF R Q T).2.1 = R2 at *
          generalize (turnF R Q T).2.2.1 = Q2 at *
          generalize (turnF R Q T).2.2.2 = T2 at *
          generalize (turnF R Q T).1 = c2 at *
          go_wp2_with fail
          refine bodyPost_ret (v := .tuple #[.agg #[.int .i64 k, .slice aR R.length cR, .slice aQ Q.length cQ, .int .i64 (T : Nat)], .int .i64 (c2 : Nat)]) ?_ rfl F.out
          simp [results, Tryz.results39, go_sem, u0, u1, u2, u3]
  · have HB2 := Lib.hid (Below.now hb2 (alloc_belowS w2 (.cells #[.int .i64 0, .slice none 0 0, .slice none 0 0, .int .i64 0] 69)))
    obtain ⟨⟨f0, f1, f2, f3⟩, ⟨u0, u1, u2, u3⟩, ⟨z0, z1, z2, z3⟩, _⟩ := put4_sets (HBK.out _ HB2.out) (.int .i64 0) (.slice none 0 0) (.slice none 0 0) (.int .i64 0)
    have F : Hid (RetRun k E w (.returned (.tuple #[.agg #[.int .i64 0, .slice none 0 0, .slice none 0 0, .int .i64 0], .int .i64 4])) (put4 (w2.alloc (.cells #[.int .i64 0, .slice none 0 0, .slice none 0 0, .int .i64 0] 69)) w.heap.size (.int .i64 0) (.slice none 0 0) (.slice none 0 0) (.int .i64 0))) :=
      Lib.hid (.inr ⟨hst, rfl, put4_below (Below.now HW1.out HB2.out) (Nat.le_refl _) _ _ _ _⟩)
    unfold workVal
    unfold put4 at F u0 u1 u2 u3
    clear hst hb2
    go_wp2_with fail
    refine bodyPost_ret (v := .tuple #[.agg #[.int .i64 0, .slice none 0 0, .slice none 0 0, .int .i64 0], .int .i64 4]) ?_ rfl F.out
    simp [results, Tryz.results39, go_sem, u0, u1, u2, u3]
set_option maxRecDepth 100000 in
set_option maxHeartbeats 4000000 in
theorem implComplete_any (k : Int) (E : List RulD) (a : Option Addr) (cap : Nat) (w : World) (hl : RulesIn w a E) (hlen : E.length ≤ 2 ^ 40) (hz : SzR E) (hmx : MaxL w) :
    Calls Tryz.prog 12 #[.int .i64 k, .slice a E.length cap] w (RetCom k E w) := by
  have HW1 := Lib.hid (alloc_belowS w (.cells #[.int .i64 0, .slice none 0 0] 33))
  have hsz : w.heap.size < (w.alloc (.cells #[.int .i64 0, .slice none 0 0] 33)).heap.size := by simp
  have hat := alloc_at w (.cells #[.int .i64 0, .slice none 0 0] 33)
  have HBK : Hid (∀ W, Below (w.alloc (.cells #[.int .i64 0, .slice none 0 0] 33)).heap.size (w.alloc (.cells #[.int .i64 0, .slice none 0 0] 33)) W → W.heap[w.heap.size]? = some (.cells #[.int .i64 0, .slice none 0 0] 33 (0, 0))) := Lib.hid (fun W hW => (hW.block _ hsz).trans hat)
  have HRN := Lib.hid (implCompleted_any k E a cap (w.alloc (.cells #[.int .i64 0, .slice none 0 0] 33)) (hl.later HW1.out) hlen hz (hmx.later HW1.out))
  clear hl hz hat hsz hmx
  go_enter Tryz.func12, Tryz.ntmps12
  go_wp2_with fail
  generalize w.alloc (.cells #[.int .i64 0, .slice none 0 0] 33) = w1 at *
  refine HRN.out.mono ?_
  rintro e w2 hr
  rcases hr with ⟨hst, c, R, Q, T, aR, cR, aQ, cQ, hrun, rfl, hR, hQ, hb2⟩ | ⟨hst, rfl, hb2⟩
  · have hb3 := Below.now hb2 (alloc_belowS w2 (.cells #[.int .i64 k, .slice aR R.length cR, .slice aQ Q.length cQ, .int .i64 (T : Nat)] 69))
    have hz := HBK.out _ hb3
    obtain ⟨z0, z1, f0, f1⟩ := rec_cells hz
    obtain ⟨u0, u1, _, _⟩ := rec_cells (set_two hz (.int .i64 k) (.slice aR R.length cR))
    have F : Hid (RetCom k E w (.returned (.tuple #[.agg #[.int .i64 k, .slice aR R.length cR], .int .i64 (c : Nat)])) (((w2.alloc (.cells #[.int .i64 k, .slice aR R.length cR, .slice aQ Q.length cQ, .int .i64 (T : Nat)] 69)).setCell ⟨w.heap.size, 0, none⟩ (.int .i64 k)).setCell ⟨w.heap.size, 1, none⟩ (.slice aR R.length cR))) :=
      Lib.hid (.inl ⟨hst, c, R, Q, T, aR, cR, hrun, rfl, rules_set2 (hR.later (alloc_belowS w2 _)) hz _ _, ((Below.now HW1.out hb3).setCell (Nat.le_refl _) _).setCell (Nat.le_refl _) _⟩)
    obtain ⟨⟨y0, y1, y2, y3⟩, _⟩ := four_cells (alloc_at w2 (.cells #[.int .i64 k, .slice aR R.length cR, .slice aQ Q.length cQ, .int .i64 (T : Nat)] 69))
    unfold workVal
    clear hst hrun hR hQ hb2 hb3 hz
    go_wp2_with fail
    refine bodyPost_ret (v := .tuple #[.agg #[.int .i64 k, .slice aR R.length cR], .int .i64 (c : Nat)]) ?_ rfl F.out
    simp [results, Tryz.results12, go_sem, u0, u1]
  · have hb3 := Below.now hb2 (alloc_belowS w2 (.cells #[.int .i64 0, .slice none 0 0, .slice none 0 0, .int .i64 0] 69))
    have hz := HBK.out _ hb3
    obtain ⟨z0, z1, f0, f1⟩ := rec_cells hz
    obtain ⟨u0, u1, _, _⟩ := rec_cells (set_two hz (.int .i64 0) (.slice none 0 0))
    have F : Hid (RetCom k E w (.returned (.tuple #[.agg #[.int .i64 0, .slice none 0 0], .int .i64 4])) (((w2.alloc (.cells #[.int .i64 0, .slice none 0 0, .slice none 0 0, .int .i64 0] 69)).setCell ⟨w.heap.size, 0, none⟩ (.int .i64 0)).setCell ⟨w.heap.size, 1, none⟩ (.slice none 0 0))) :=
      Lib.hid (.inr ⟨hst, rfl, ((Below.now HW1.out hb3).setCell (Nat.le_refl _) _).setCell (Nat.le_refl _) _⟩)
    unfold workVal
    clear hst hb2 hb3 hz
    go_wp2_with fail
    refine bodyPost_ret (v := .tuple #[.agg #[.int .i64 0, .slice none 0 0], .int .i64 4]) ?_ rfl F.out
    simp [results, Tryz.results12, go_sem, u0, u1]
end Go.Proofs.YtgoeadgpbidgiaaGreatDoor
