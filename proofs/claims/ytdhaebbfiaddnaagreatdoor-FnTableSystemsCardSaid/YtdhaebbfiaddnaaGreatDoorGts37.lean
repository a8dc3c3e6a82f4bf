/-
  StepsOf and ApplyStep of the program.
-/
import Derived.Test.YtdhaebbfiaddnaaGreatDoorGts36
import Derived.Test.YtdhaebbfiaddnaaGreatDoorGts27
import Derived.Test.YtdhaebbfiaddnaaGreatDoorGts28
import Derived.Deep.RegionHeld3
namespace Go.Proofs.YtdhaebbfiaddnaaGreatDoor
open Go.RowKit
set_option linter.unusedVariables false
/-- AreIsomorphic as a function of plain data -/
def isoOk (n : Int) (l : List Int) (n2 : Int) (l2 : List Int) : Bool := tabB n l && (tabB n2 l2 && (decide (n = n2) && decide (n ≤ 6)))
def isoF (n : Int) (l : List Int) (n2 : Int) (l2 : List Int) : Bool := isoOk n l n2 l2 && srch n.toNat (l.map Int.toNat) (l2.map Int.toNat) (n.toNat - 1) [0]
theorem isoF_not1 {n n2 : Int} {l l2 : List Int} (h : tabB n l = false) : isoF n l n2 l2 = false := by simp [isoF, isoOk, h]
theorem isoF_not2 {n n2 : Int} {l l2 : List Int} (h : tabB n2 l2 = false) : isoF n l n2 l2 = false := by simp [isoF, isoOk, h]
theorem isoF_not3 {n n2 : Int} {l l2 : List Int} (h : ¬ n = n2) : isoF n l n2 l2 = false := by simp [isoF, isoOk, h]
theorem isoF_not4 {n n2 : Int} {l l2 : List Int} (h : 6 < n) : isoF n l n2 l2 = false := by simp [isoF, isoOk, show ¬ n ≤ 6 by omega]
theorem isoF_yes {n : Int} {l l2 : List Int} (h1 : tabB n l = true) (h2 : tabB n l2 = true) (h : n ≤ 6) : isoF n l n l2 = srch n.toNat (l.map Int.toNat) (l2.map Int.toNat) (n.toNat - 1) [0] := by simp [isoF, isoOk, h1, h2, h]
set_option maxRecDepth 20000 in
set_option maxHeartbeats 2000000 in
theorem implAreIsomorphic_any (n : Int) (l : List Int) (a : Option Addr) (cap : Nat) (n2 : Int) (l2 : List Int) (a2 : Option Addr) (cap2 : Nat) (w : World) (hl : IntsIn w a l) (hlen : l.length ≤ 2 ^ 47) (hl2 : IntsIn w a2 l2) (hlen2 : l2.length ≤ 2 ^ 47) :
    Calls Tryz.prog 29 #[.agg #[.int .i64 n, .slice a l.length cap], .agg #[.int .i64 n2, .slice a2 l2.length cap2]] w fun e w' => e = .returned (.bool (isoF n l n2 l2)) ∧ Below w.heap.size w w' := by
  have B0 : Hid (Below w.heap.size w ((w.alloc (.cells #[.int .i64 n, .slice a l.length cap] 60)).alloc (.cells #[.int .i64 n2, .slice a2 l2.length cap2] 60))) := Lib.hid (((Below.refl _ _).alloc (Nat.le_refl _) _).alloc (by simp) _)
  have X1 := isoLo w (.cells #[.int .i64 n, .slice a l.length cap] 60) (.cells #[.int .i64 n2, .slice a2 l2.length cap2] 60)
  have X2 := isoHi w (.cells #[.int .i64 n, .slice a l.length cap] 60) (.cells #[.int .i64 n2, .slice a2 l2.length cap2] 60)
  have hs2 : ((w.alloc (.cells #[.int .i64 n, .slice a l.length cap] 60)).alloc (.cells #[.int .i64 n2, .slice a2 l2.length cap2] 60)).heap.size = w.heap.size + 2 := by simp
  have K1 : Hid (∀ W, Below ((w.alloc (.cells #[.int .i64 n, .slice a l.length cap] 60)).alloc (.cells #[.int .i64 n2, .slice a2 l2.length cap2] 60)).heap.size ((w.alloc (.cells #[.int .i64 n, .slice a l.length cap] 60)).alloc (.cells #[.int .i64 n2, .slice a2 l2.length cap2] 60)) W → W.cell? ⟨w.heap.size, 0, none⟩ = some (.int .i64 n) ∧ W.cell? ⟨w.heap.size, 1, none⟩ = some (.slice a l.length cap) ∧ W.cell? ⟨w.heap.size + 1, 0, none⟩ = some (.int .i64 n2) ∧ W.cell? ⟨w.heap.size + 1, 1, none⟩ = some (.slice a2 l2.length cap2)) := Lib.hid (fun W hW => by
    have e1 := (hW.block w.heap.size (by omega)).trans X1
    have e2 := (hW.block (w.heap.size + 1) (by omega)).trans X2
    refine ⟨by simp [World.cell?, e1], by simp [World.cell?, e1], by simp [World.cell?, e2], by simp [World.cell?, e2]⟩)
  have HT1 : Hid (∀ W, Below w.heap.size w W → Calls Tryz.prog 52 #[.agg #[.int .i64 n, .slice a l.length cap]] W fun e w' => e = .returned (.bool (tabB n l)) ∧ Below W.heap.size W w') := Lib.hid (fun W hW => implTableOk_any n l a cap W (hl.later hW) hlen)
  have HT2 : Hid (∀ W, Below w.heap.size w W → Calls Tryz.prog 52 #[.agg #[.int .i64 n2, .slice a2 l2.length cap2]] W fun e w' => e = .returned (.bool (tabB n2 l2)) ∧ Below W.heap.size W w') := Lib.hid (fun W hW => implTableOk_any n2 l2 a2 cap2 W (hl2.later hW) hlen2)
  clear X1 X2 hs2
  cases h1 : tabB n l
  · have F := Lib.hid (isoF_not1 (n2 := n2) (l2 := l2) h1)
    rw [h1] at HT1
    clear hl hl2 h1
    go_enter Tryz.func29, Tryz.ntmps29
    go_wp2_with fail
    refine (HT1.out _ B0.out).mono ?_
    rintro e w2 ⟨rfl, hb2⟩
    have B2 := Lib.hid (Below.now B0.out hb2)
    clear hb2
    go_wp2_with fail
    go_ret
    exact ⟨ret_bool F.out.symm, B2.out⟩
  cases h2 : tabB n2 l2
  · have F := Lib.hid (isoF_not2 (n := n) (l := l) h2)
    rw [h1] at HT1
    rw [h2] at HT2
    clear hl hl2 h1 h2
    go_enter Tryz.func29, Tryz.ntmps29
    go_wp2_with fail
    refine (HT1.out _ B0.out).mono ?_
    rintro e w2 ⟨rfl, hb2⟩
    have B2 := Lib.hid (Below.now B0.out hb2)
    have C2 := K1.out _ hb2
    obtain ⟨k0, k1, k2, k3⟩ := C2
    clear hb2
    go_wp2_with fail
    refine (HT2.out _ B2.out).mono ?_
    rintro e w3 ⟨rfl, hb3⟩
    have B3 := Lib.hid (Below.now B2.out hb3)
    clear hb3 k0 k1 k2 k3
    go_wp2_with fail
    go_ret
    exact ⟨ret_bool F.out.symm, B3.out⟩
  have HIF : Hid (∀ b : Bool, decide (n = n2) = b → (b = false → isoF n l n2 l2 = false)) := Lib.hid (fun b h1 h2 => isoF_not3 (by subst h2; simpa using h1))
  by_cases h3 : n = n2
  rotate_left
  · have F := Lib.hid (isoF_not3 (l := l) (l2 := l2) h3)
    have hne1 : (n != n2) = true := by rw [bne_iff_ne]; exact h3
    have hne2 : (n == n2) = false := by rw [beq_eq_false_iff_ne]; exact h3
    rw [h1] at HT1
    rw [h2] at HT2
    clear hl hl2 h1 h2 HIF
    go_enter Tryz.func29, Tryz.ntmps29
    go_wp2_with fail
    refine (HT1.out _ B0.out).mono ?_
    rintro e w2 ⟨rfl, hb2⟩
    have B2 := Lib.hid (Below.now B0.out hb2)
    have G2 := Lib.hid hb2
    obtain ⟨k0, k1, k2, k3⟩ := K1.out _ hb2
    clear hb2
    go_wp2_with fail
    refine (HT2.out _ B2.out).mono ?_
    rintro e w3 ⟨rfl, hb3⟩
    have B3 := Lib.hid (Below.now B2.out hb3)
    clear k0 k1 k2 k3
    obtain ⟨k0, k1, k2, k3⟩ := K1.out _ (Below.now G2.out hb3)
    clear hb3
    go_wp2_with fail
    go_ret
    exact ⟨ret_bool F.out.symm, B3.out⟩
  clear HIF
  subst h3
  by_cases h4 : 6 < n
  · have F := Lib.hid (isoF_not4 (l := l) (n2 := n) (l2 := l2) h4)
    have hne4 : ¬ n ≤ 6 := by omega
    rw [h1] at HT1
    rw [h2] at HT2
    clear hl hl2 h1 h2
    go_enter Tryz.func29, Tryz.ntmps29
    go_wp2_with fail
    refine (HT1.out _ B0.out).mono ?_
    rintro e w2 ⟨rfl, hb2⟩
    have B2 := Lib.hid (Below.now B0.out hb2)
    have G2 := Lib.hid hb2
    obtain ⟨k0, k1, k2, k3⟩ := K1.out _ hb2
    clear hb2
    go_wp2_with fail
    refine (HT2.out _ B2.out).mono ?_
    rintro e w3 ⟨rfl, hb3⟩
    have B3 := Lib.hid (Below.now B2.out hb3)
    clear k0 k1 k2 k3
    obtain ⟨k0, k1, k2, k3⟩ := K1.out _ (Below.now G2.out hb3)
    clear hb3
    go_wp2_with fail
    go_ret
    exact ⟨ret_bool F.out.symm, B3.out⟩
  have F := Lib.hid (isoF_yes h1 h2 (by omega))
  obtain ⟨m, ln, rfl, rfl, hT⟩ := tabOk_out h1
  obtain ⟨m2, lu, he, rfl, hU⟩ := tabOk_out h2
  obtain rfl : m2 = m := by omega
  have hm6 : (m2 : Int) ≤ 6 := by omega
  have HR : Hid (∀ W, Below w.heap.size w W → Calls Tryz.prog 55 #[.agg #[.int .i64 m2, .slice a (ln.map Int.ofNat).length cap], .agg #[.int .i64 m2, .slice a2 (lu.map Int.ofNat).length cap2], .slice (some ⟨W.heap.size, 0, none⟩) 1 1] (W.alloc (.cells #[.int .i64 0] 3)) fun e w' => e = .returned (.bool (srch m2 ln lu (m2 - 1) [0])) ∧ Below (W.alloc (.cells #[.int .i64 0] 3)).heap.size (W.alloc (.cells #[.int .i64 0] 3)) w') := Lib.hid (fun W hW => by
    have hk := Below.now hW ((Below.refl _ _).alloc (Nat.le_refl _) (.cells #[.int .i64 0] 3))
    have hlo := hT.1.lo
    exact renames_any m2 ln lu a a2 _ cap _ cap2 hT.1 hU.1 (by rw [List.length_map]; exact hT.1.len) (by rw [List.length_map]; exact hU.1.len) (m2 - 1) [0] (some ⟨W.heap.size, 0, none⟩) 1 _ (IntsIn.later hl hk) (IntsIn.later hl2 hk) (.inr ⟨_, _, rfl, fun i hi => by
      obtain rfl : i = 0 := by simp at hi; omega
      simp⟩) (by simp; omega) (fun y hy => by rw [List.mem_singleton.1 hy]; omega) List.mem_cons_self)
  rw [h1] at HT1
  rw [h2] at HT2
  have e1 : ((m2 : Nat) : Int).toNat = m2 := by omega
  have e2 : (ln.map Int.ofNat).map Int.toNat = ln := by rw [List.map_map]; exact List.map_id'' (fun x => rfl) ln
  have e3 : (lu.map Int.ofNat).map Int.toNat = lu := by rw [List.map_map]; exact List.map_id'' (fun x => rfl) lu
  rw [e1, e2, e3] at F
  have hne1 : (((m2 : Nat) : Int) != ((m2 : Nat) : Int)) = false := by simp
  clear hl hl2 h1 h2 hT hU he hlen hlen2 e1 e2 e3
  generalize (ln.map Int.ofNat).length = q1 at *
  generalize (lu.map Int.ofNat).length = q2 at *
  generalize srch m2 ln lu (m2 - 1) [0] = r at *
  go_enter Tryz.func29, Tryz.ntmps29
  go_wp2_with fail
  refine (HT1.out _ B0.out).mono ?_
  rintro e w2 ⟨rfl, hb2⟩
  have B2 := Lib.hid (Below.now B0.out hb2)
  have G2 := Lib.hid hb2
  obtain ⟨k0, k1, k2, k3⟩ := K1.out _ hb2
  clear hb2
  go_wp2_with fail
  refine (HT2.out _ B2.out).mono ?_
  rintro e w3 ⟨rfl, hb3⟩
  have B3 := Lib.hid (Below.now B2.out hb3)
  clear k0 k1 k2 k3
  obtain ⟨k0, k1, k2, k3⟩ := K1.out _ (Below.now G2.out hb3)
  clear hb3
  go_wp2_with fail
  refine (HR.out _ B3.out).mono ?_
  rintro e w4 ⟨rfl, hb4⟩
  have B4 := Lib.hid (Below.now B3.out (Below.now ((Below.refl _ _).alloc (Nat.le_refl _) _) hb4))
  clear k0 k1 k2 k3 hb4
  go_wp2_with fail
  go_ret
  exact ⟨ret_bool F.out.symm, B4.out⟩
end Go.Proofs.YtdhaebbfiaddnaaGreatDoor
namespace Go.Proofs.YtdhaebbfiaddnaaGreatDoor
open Go.RowKit
set_option linter.unusedVariables false
theorem nm_range {m i : Nat} (hi : i < m) : nm (List.range m) i = i := by unfold nm; simp [List.getD_eq_getElem?_getD, hi]
theorem srch_id {m : Nat} {ln : List Nat} (h : TabOk m ln) : ∀ f, f ≤ m → srch m ln ln f (List.range (m - f)) = true
  | 0, _ => by
    show carB m ln ln (List.range (m - 0)) = true
    rw [Nat.sub_zero]
    unfold carB
    rw [List.all_eq_true]
    intro i hi
    unfold carR
    rw [List.all_eq_true]
    intro k hk
    have hi := List.mem_range.1 hi
    have hk := List.mem_range.1 hk
    unfold carP
    rw [nm_range hi, nm_range hk, nm_range (h.tm_lt hi hk)]
    exact beq_self_eq_true _
  | f + 1, hf => by
    refine srch_true (x := m - (f + 1)) (by have := h.lo; omega) ?_
    unfold tryB
    have e : List.range (m - (f + 1)) ++ [m - (f + 1)] = List.range (m - f) := by
      rw [show m - f = (m - (f + 1)) + 1 by omega, List.range_succ]
    rw [e, srch_id h f (by omega), Bool.and_true, Bool.not_eq_true']
    simp
theorem TabG.iso {m : Nat} {l : List Int} (h : TabG m l) (hm : m ≤ 6) : isoF (m : Nat) l (m : Nat) l = true := by
  rw [isoF_yes h.tab h.tab (by omega)]
  show srch m (l.map Int.toNat) (l.map Int.toNat) (m - 1) [0] = true
  have h1 := h.nats.1.lo
  have := srch_id h.nats.1 (m - 1) (by omega)
  rw [show m - (m - 1) = 1 by omega] at this
  exact this
end Go.Proofs.YtdhaebbfiaddnaaGreatDoor
namespace Go.Proofs.YtdhaebbfiaddnaaGreatDoor
open Go.RowKit
set_option linter.unusedVariables false
set_option maxHeartbeats 1000000 in
theorem implStepsOf_any (k : Int) (R : List RulD) (a : Option Addr) (cap : Nat) (w0 : ByteArray) (w : World) (hl : RulesIn w a R) (hs : sysP k R) (hw : w0.size ≤ 16) :
    Calls Tryz.prog 71 #[.agg #[.int .i64 k, .slice a R.length cap], .string w0] w (RetSl 30 2 (stepsF R w0).length (cellsL stV (stepsF R w0)) w) := by
  have HL := Lib.hid hl
  have hz : SzR R := fun j hj => by have := (hs.1.2 _ (nthR_mem hj)).1.2; unfold maxLen; omega
  have HRO := Lib.hid (fun W h => implRulesOk_any k R a cap W h (by have := hs.1.1.2; omega) hz)
  have HRP := Lib.hid hs.1
  have HST := Lib.hid (fun W h => implSteps_any k R a cap w0 W h hs hw)
  have HBX := Lib.hid (fun W2 (h : Below (w.alloc (.cells #[.int .i64 k, .slice a R.length cap] 25)).heap.size (w.alloc (.cells #[.int .i64 k, .slice a R.length cap] 25)) W2) => box_two h)
  have HA := Lib.hid (fun o => alloc_belowS w o)
  clear hl hs hz
  go_enter Tryz.func71, Tryz.ntmps71
  go_wp2_with fail
  refine (HRO.out _ (HL.out.later (HA.out _))).mono ?_
  rintro e w1 ⟨bb, hbb, rfl, hb1⟩
  obtain rfl := hbb.2 HRP.out
  obtain ⟨s0, s1⟩ := HBX.out _ hb1
  have HW1 := Lib.hid (Below.now (HA.out _) hb1)
  clear hbb hb1
  go_wp2_with fail
  refine (HST.out _ (HL.out.later HW1.out)).mono ?_
  rintro e w2 ⟨a2, c2, rfl, ho, hb2⟩
  have F : Hid (RetSl 30 2 (stepsF R w0).length (cellsL stV (stepsF R w0)) w (.returned (.slice a2 (stepsF R w0).length c2)) w2) := Lib.hid ⟨a2, c2, rfl, owns_mono ho HW1.out.size, Below.now HW1.out hb2⟩
  clear ho hb2
  go_wp2_with fail
  go_ret
  exact F.out
set_option maxRecDepth 100000 in
set_option maxHeartbeats 2000000 in
theorem indexStep_any (S : List (Nat × Nat)) (a : Option Addr) (cap : Nat) (x y : Nat) (w : World) (hl : RowsIn stV w a S) (hlen : S.length ≤ 1000) (hm : (x, y) ∈ S) :
    Calls Tryz.prog 102 #[.slice a S.length cap, .agg #[.int .i64 (x : Nat), .int .i64 (y : Nat)]] w fun e w' => ∃ j : Nat, e = .returned (.int .i64 (j : Nat)) ∧ Below w.heap.size w w' := by
  have HM := Lib.hid hm
  have hb1 := alloc_belowS w (.cells #[.int .i64 (x : Nat), .int .i64 (y : Nat)] 30)
  have HBX := Lib.hid (fun W2 (h : Below (w.alloc (.cells #[.int .i64 (x : Nat), .int .i64 (y : Nat)] 30)).heap.size (w.alloc (.cells #[.int .i64 (x : Nat), .int .i64 (y : Nat)] 30)) W2) => box_two h)
  have HW1 := Lib.hid hb1
  have HI : Hid (RowsIn stV (w.alloc (.cells #[.int .i64 (x : Nat), .int .i64 (y : Nat)] 30)) a S) := Lib.hid (hl.later hb1)
  clear hl hm hb1
  go_enter Tryz.func102, Tryz.ntmps102
  go_wp2_with fail
  generalize w.alloc (.cells #[.int .i64 (x : Nat), .int .i64 (y : Nat)] 30) = w1 at *
  go_loopw [8] (fun vj wr => ∃ j : Nat, j ≤ S.length ∧ vj = .int .i64 (j : Nat) ∧ Hid (∀ i (h : i < S.length), i < j → S[i] ≠ (x, y)) ∧ Below w1.heap.size w1 wr) (fun vj _ => S.length - (intOf vj).toNat)
  case atStart => exact ⟨0, Nat.zero_le _, rfl, Lib.hid (fun i _ h => absurd h (Nat.not_lt_zero _)), Below.refl _ _⟩
  case round =>
    obtain ⟨j, hj, rfl, HNO, hbw⟩ := hrel
    have HBW := Lib.hid hbw
    by_cases hlt : j < S.length
    · obtain ⟨b, off, rfl, hb, hc⟩ := RowsIn.cell stV_len (by omega) (HI.out.later hbw) hlt
      have c0 : wr.cell? ⟨b, off + j * 2, none⟩ = some (.int .i64 (S[j].1 : Nat)) := hc j hlt 0 _ rfl
      have c1 : wr.cell? ⟨b, off + j * 2 + 1, none⟩ = some (.int .i64 (S[j].2 : Nat)) := hc j hlt 1 _ rfl
      have HST : Hid (S[j] ≠ (x, y) → ∀ i (h : i < S.length), i < j + 1 → S[i] ≠ (x, y)) := Lib.hid (fun h i hi hij => by
        by_cases e : i = j
        · subst e; exact h
        · exact HNO.out i hi (by omega))
      obtain ⟨d0, d1⟩ := HBX.out wr hbw
      clear hc hbw
      generalize S[j] = z at *
      obtain ⟨z1, z2⟩ := z
      by_cases hx : z1 = x
      · subst hx
        by_cases hy : z2 = y
        · subst hy
          go_wp2_with fail
          go_quiet (fail)
          have HB2 := Lib.hid (Below.now HW1.out (Below.now HBW.out (below_drewN (Below.refl _ _) nq)))
          go_wp2_with fail
          go_ret
          exact ⟨j, rfl, HB2.out⟩
        · have F := Lib.hid (HST.out (by simp; exact hy))
          have g1 : ¬ (y : Int) = (z2 : Int) := by omega
          go_wp2_with fail
          go_quiet (fail)
          have HB2 := Lib.hid (Below.now HBW.out (below_drewN (Below.refl _ _) nq))
          go_wp2_with fail
          go_roundw
          case rel => exact ⟨j + 1, by omega, by go_num, F, HB2.out⟩
          case measure => simp [intOf]; omega
      · have F := Lib.hid (HST.out (by simp; intro h; exact absurd h hx))
        have g1 : ¬ (x : Int) = (z1 : Int) := by omega
        go_wp2_with fail
        go_quiet (fail)
        have HB2 := Lib.hid (Below.now HBW.out (below_drewN (Below.refl _ _) nq))
        go_wp2_with fail
        go_roundw
        case rel => exact ⟨j + 1, by omega, by go_num, F, HB2.out⟩
        case measure => simp [intOf]; omega
    · exfalso
      obtain ⟨i, hi, he⟩ := List.getElem_of_mem HM.out
      exact HNO.out i hi (by omega) he
set_option maxHeartbeats 1000000 in
theorem containsStep_any (S : List (Nat × Nat)) (a : Option Addr) (cap : Nat) (x y : Nat) (w : World) (hl : RowsIn stV w a S) (hlen : S.length ≤ 1000) (hm : (x, y) ∈ S) :
    Calls Tryz.prog 70 #[.slice a S.length cap, .agg #[.int .i64 (x : Nat), .int .i64 (y : Nat)]] w fun e w' => e = .returned (.bool true) ∧ Below w.heap.size w w' := by
  have hb1 := alloc_belowS w (.cells #[.int .i64 (x : Nat), .int .i64 (y : Nat)] 30)
  have HI := Lib.hid (indexStep_any S a cap x y (w.alloc (.cells #[.int .i64 (x : Nat), .int .i64 (y : Nat)] 30)) (hl.later hb1) hlen hm)
  have HW1 := Lib.hid hb1
  clear hl hm hb1
  go_enter Tryz.func70, Tryz.ntmps70
  go_wp2_with fail
  refine HI.out.mono ?_
  rintro e w2 ⟨j, rfl, hb2⟩
  have HB2 := Lib.hid (Below.now HW1.out hb2)
  have hj : (0 : Int) ≤ (j : Int) := by omega
  clear hb2
  go_wp2_with fail
  go_ret
  exact ⟨rfl, HB2.out⟩
set_option maxRecDepth 100000 in
set_option maxHeartbeats 2000000 in
theorem implApplyStep_any (k : Int) (R : List RulD) (a : Option Addr) (cap : Nat) (w0 : ByteArray) (x y : Nat) (w : World) (hl : RulesIn w a R) (hs : sysP k R) (hw : w0.size ≤ 16) (hm : (x, y) ∈ stepsF R w0) :
    Calls Tryz.prog 35 #[.agg #[.int .i64 k, .slice a R.length cap], .string w0, .agg #[.int .i64 (x : Nat), .int .i64 (y : Nat)]] w fun e w' => e = .returned (.tuple #[.string (applyF R w0 (x, y)), .bool true]) ∧ Below w.heap.size w w' := by
  have HL := Lib.hid hl
  have HSO := Lib.hid (fun W h => implStepsOf_any k R a cap w0 W h hs hw)
  have HAP := Lib.hid (fun W h => implApply_any k R a cap w0 x y W h hs hw hm)
  have hlen := stepsF_len R w0
  have hlb : w0.size * R.length ≤ 16 * 12 := Nat.mul_le_mul hw hs.1.1.2
  have HCT := Lib.hid (fun a c W h => containsStep_any (stepsF R w0) a c x y W h (by omega) hm)
  have HA2 := Lib.hid (fun o o2 => Below.now (alloc_belowS w o) (alloc_belowS (w.alloc o) o2))
  have e1 : (w.alloc (.cells #[.int .i64 k, .slice a R.length cap] 25)).heap.size = w.heap.size + 1 := by simp
  have HBX := Lib.hid (fun W2 (h : Below ((w.alloc (.cells #[.int .i64 k, .slice a R.length cap] 25)).alloc (.cells #[.int .i64 (x : Nat), .int .i64 (y : Nat)] 30)).heap.size ((w.alloc (.cells #[.int .i64 k, .slice a R.length cap] 25)).alloc (.cells #[.int .i64 (x : Nat), .int .i64 (y : Nat)] 30)) W2) => And.intro (box_two (Below.now (alloc_belowS (w.alloc (.cells #[.int .i64 k, .slice a R.length cap] 25)) _) h)) (box_facts h).1)
  rw [e1] at HBX
  have HW1 : Hid (Below w.heap.size w ((w.alloc (.cells #[.int .i64 k, .slice a R.length cap] 25)).alloc (.cells #[.int .i64 (x : Nat), .int .i64 (y : Nat)] 30))) := Lib.hid (HA2.out _ _)
  clear hl hs hm e1 HA2 hlen hlb
  go_enter Tryz.func35, Tryz.ntmps35
  go_wp2_with fail
  generalize (w.alloc (.cells #[.int .i64 k, .slice a R.length cap] 25)).alloc (.cells #[.int .i64 (x : Nat), .int .i64 (y : Nat)] 30) = w1 at *
  have HL1 := Lib.hid (HL.out.later HW1.out)
  obtain ⟨⟨r0, r1⟩, r2, r3⟩ := HBX.out w1 (Below.refl _ _)
  generalize stepsF R w0 = S at *
  generalize hv : applyF R w0 (x, y) = v at *
  have HV := Lib.hid hv
  clear hv
  go_region_held3 (fun w' => w'.cell? ⟨w.heap.size, 0, none⟩ = some (.int .i64 k) ∧ w'.cell? ⟨w.heap.size, 1, none⟩ = some (.slice a R.length cap) ∧ w'.cell? ⟨w.heap.size + 1, 0, none⟩ = some (.int .i64 (x : Nat)) ∧ w'.cell? ⟨w.heap.size + 1, 1, none⟩ = some (.int .i64 (y : Nat))) (go_keep) (first
    | (go_at_call 71; refine (HSO.out _ (HL1.out.later (by repeat (first | exact Below.refl _ _ | refine Below.drew ?_ | refine below_drewN ?_ _)))).mono ?_; rintro e w5 ⟨a5, c5, rfl, ho5, hb5⟩; have K5 : Hid (Below w1.heap.size w1 w5) := Lib.hid (Below.now (by repeat (first | exact Below.refl _ _ | refine Below.drew ?_ | refine below_drewN ?_ _)) hb5); have I5 := Lib.hid (owns_rows ho5); have t0 := (HBX.out w5 K5.out).1.1; have t1 := (HBX.out w5 K5.out).1.2; have t2 := (HBX.out w5 K5.out).2.1; have t3 := (HBX.out w5 K5.out).2.2; clear hb5 ho5)
    | (go_at_call 70; refine (HCT.out _ _ _ (I5.out.later (by repeat (first | exact Below.refl _ _ | refine Below.drew ?_ | refine below_drewN ?_ _)))).mono ?_; rintro e w6 ⟨rfl, hb6⟩; have K6 : Hid (Below w1.heap.size w1 w6) := Lib.hid (Below.now K5.out (Below.now (by repeat (first | exact Below.refl _ _ | refine Below.drew ?_ | refine below_drewN ?_ _)) hb6)); have u0 := (HBX.out w6 K6.out).1.1; have u1 := (HBX.out w6 K6.out).1.2; have u2 := (HBX.out w6 K6.out).2.1; have u3 := (HBX.out w6 K6.out).2.2; clear hb6))
  all_goals
    clear r0 r1 r2 r3 t0 t1 t2 t3
    have HLW := Lib.hid (HL1.out.later K6.out)
    go_wp2_with fail
    refine (HAP.out _ HLW.out).mono ?_
    rintro e w9 ⟨rfl, hb9⟩
    have HB9 := Lib.hid (Below.now HW1.out (Below.now K6.out hb9))
    clear hb9 u0 u1 u2 u3
    go_wp2_with fail
    refine bodyPost_ret (v := .tuple #[.string v, .bool true]) ?_ rfl ⟨by rw [HV.out], HB9.out⟩
    simp [results, Tryz.results35, go_sem]
end Go.Proofs.YtdhaebbfiaddnaaGreatDoor
