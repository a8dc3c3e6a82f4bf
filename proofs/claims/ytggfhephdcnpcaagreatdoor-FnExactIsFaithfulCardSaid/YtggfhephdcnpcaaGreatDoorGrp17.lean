/-
  A slice of strings and one of integers that are being built side by side.
-/
import Derived.Test.YtggfhephdcnpcaaGreatDoorGrp13
import Derived.Deep.QuietTactic
import Derived.BigQuiet
import Derived.Deep.RegionHeld3
import Derived.IntWalk
import Derived.Test.YtggfhephdcnpcaaGreatDoorGrp04
import Derived.Test.YtggfhephdcnpcaaGreatDoorGrp03
namespace Go.Proofs.YtggfhephdcnpcaaGreatDoor
open Go.RowKit
set_option linter.unusedVariables false
theorem sufBB_iff {s p : ByteArray} : sufBB s p = true ↔ p.size ≤ s.size ∧ s.extract (s.size - p.size) s.size = p := by
  unfold sufBB
  rw [List.isSuffixOf_iff_suffix]
  have hl : ∀ s : ByteArray, s.data.toList.length = s.size := fun s => rfl
  have hx : p.size ≤ s.size → (s.extract (s.size - p.size) s.size).data.toList = s.data.toList.drop (s.size - p.size) := fun h => by
    rw [ByteArray.data_extract, Array.toList_extract, List.extract_eq_take_drop, List.take_of_length_le (by rw [List.length_drop, hl]; exact Nat.le_refl _)]
  constructor
  · rintro ⟨t, ht⟩
    have h1 : p.size ≤ s.size := by rw [← hl, ← hl, ← ht, List.length_append]; omega
    refine ⟨h1, ba_ext0 ?_⟩
    rw [hx h1, ← ht, List.drop_left']
    have := congrArg List.length ht
    rw [List.length_append, hl, hl] at this
    omega
  · rintro ⟨h1, h2⟩
    rw [← h2, hx h1]
    exact List.drop_suffix _ _
theorem bytes_eq2 {a b : ByteArray} : (a.toList == b.toList) = true ↔ a = b := bytes_eq
set_option maxRecDepth 20000 in
set_option maxHeartbeats 2000000 in
theorem l07Ends_any (k : Int) (l : List RulD) (v : ByteArray) (a : Option Addr) (cap : Nat) (w : World) (hl : RulesIn w a l) (hlen : l.length ≤ 2 ^ 40) (hz : ∀ j, j < l.length → (nthR l j).1.size ≤ 1000) (hv : v.size ≤ 1000) :
    Calls Tryz.prog 157 #[.agg #[.int .i64 k, .slice a l.length cap], .string v] w fun e w' => e = .returned (.bool (endsR l v)) ∧ Below w.heap.size w w' := by
  have HL := Lib.hid hl
  have HZ := Lib.hid hz
  have HA := Lib.hid (fun o => alloc_belowS w o)
  clear hl hz
  go_enter Tryz.func157, Tryz.ntmps157
  go_wp2_with fail
  go_loopw [10] (fun i wr => ∃ j : Nat, j ≤ l.length ∧ i = .int .i64 (j : Nat) ∧ Hid (∀ j', j' < j → sufBB v (nthR l j').1 = false) ∧ Below w.heap.size w wr) (fun i _ => l.length - (intOf i).toNat)
  case atStart => exact ⟨0, Nat.zero_le _, rfl, Lib.hid (fun j' h => absurd h (Nat.not_lt_zero _)), HA.out _⟩
  case round =>
    obtain ⟨j, hj, rfl, hall, hbw⟩ := hrel
    have HBW := Lib.hid hbw
    by_cases hlt : j < l.length
    · obtain ⟨b, off, rfl, hb, hc⟩ := (HL.out.later hbw).cell hlt
      obtain ⟨c1, c2⟩ := hc j hlt
      have z1 := HZ.out j hlt
      have HYE : Hid (sufBB v (nthR l j).1 = true → endsR l v = true) := Lib.hid (fun h => endsR_iff.2 ⟨_, nthR_mem hlt, h⟩)
      have HNO : Hid (sufBB v (nthR l j).1 = false → ∀ j', j' < j + 1 → sufBB v (nthR l j').1 = false) := Lib.hid (fun h j' hj' => by
        by_cases e : j' = j
        · rw [e]; exact h
        · exact hall.out j' (by omega))
      clear hc hbw
      generalize (nthR l j).1 = x at *
      generalize (nthR l j).2 = y at *
      have HSI := Lib.hid (@sufBB_iff v x)
      by_cases hle : x.size ≤ v.size
      · have g1 : decide ((x.size : Int) ≤ (v.size : Int)) = true := decide_eq_true (by omega)
        have g2 : (x.size : Int) ≤ (v.size : Int) := by omega
        have g3 : (0 : Int) ≤ (v.size : Int) - (x.size : Int) := by omega
        have g4 : (v.size : Int) - (x.size : Int) ≤ (v.size : Int) := by omega
        have g5 : ((v.size : Int) - (x.size : Int)).toNat = v.size - x.size := by omega
        have HD : Hid (∀ n, Below w.heap.size w ((wr.alloc (.cells #[.string x, .string y] 60)).drewN n)) := Lib.hid (fun n => by
          have h := HBW.out.alloc HBW.out.size (.cells #[.string x, .string y] 60)
          exact ⟨h.os, h.tape, h.output, h.size, h.block⟩)
        cases hq : ((v.extract (v.size - x.size) v.size).toList == x.toList)
        · have F := Lib.hid (HNO.out (by
            cases e : sufBB v x
            · rfl
            · have := (HSI.out.1 e).2
              rw [bytes_eq2.2 this] at hq; cases hq))
          go_wp2_with fail
          go_quiet (fail)
          go_wp2_with fail
          go_roundw
          case rel => exact ⟨j + 1, by omega, by go_num, F, HD.out _⟩
          case measure => simp [intOf]; omega
        · have F := Lib.hid (HYE.out (HSI.out.2 ⟨hle, bytes_eq2.1 hq⟩))
          go_wp2_with fail
          go_quiet (fail)
          go_wp2_with fail
          go_ret
          exact ⟨ret_bool F.out.symm, HD.out _⟩
      · have g1 : decide ((x.size : Int) ≤ (v.size : Int)) = false := decide_eq_false (by omega)
        have g1n : decide (x.size ≤ v.size) = false := decide_eq_false hle
        have F := Lib.hid (HNO.out (by
          cases e : sufBB v x
          · rfl
          · exact absurd (HSI.out.1 e).1 hle))
        have HD : Hid (∀ n, Below w.heap.size w ((wr.alloc (.cells #[.string x, .string y] 60)).drewN n)) := Lib.hid (fun n => by
          have h := HBW.out.alloc HBW.out.size (.cells #[.string x, .string y] 60)
          exact ⟨h.os, h.tape, h.output, h.size, h.block⟩)
        clear hle
        go_wp2_with fail
        go_quiet (fail)
        go_wp2_with fail
        go_roundw
        case rel => exact ⟨j + 1, by omega, by go_num, F, HD.out _⟩
        case measure => simp [intOf]; omega
    · have F : Hid (endsR l v = false) := Lib.hid (by
        cases e : endsR l v
        · rfl
        · obtain ⟨r, hr, h⟩ := endsR_iff.1 e
          obtain ⟨i, hi, rfl⟩ := mem_nthR hr
          rw [hall.out i (by omega)] at h; cases h)
      go_wp2_with fail
      go_ret
      exact ⟨ret_bool F.out.symm, HBW.out⟩
set_option maxHeartbeats 400000 in
theorem l07Cut_any (k : Int) (l : List RulD) (v : ByteArray) (a : Option Addr) (cap : Nat) (w : World) (hl : RulesIn w a l) (hlen : l.length ≤ 2 ^ 40) (hz : SzR l) (hv : v.size ≤ 1000) :
    Calls Tryz.prog 208 #[.agg #[.int .i64 k, .slice a l.length cap], .string v] w fun e w' => e = .returned (.string (cutR l v)) ∧ Below w.heap.size w w' := by
  have HL := Lib.hid hl
  have HS := Lib.hid (fun W h => specLongestSide_any k l a cap W h hlen hz)
  have hm := lsTo_le hz l.length (Nat.le_refl _)
  have hm2 : lsL l ≤ 9223372036854775807 := by unfold maxLen at hm; exact hm
  have HA := Lib.hid (fun o => alloc_belowS w o)
  have HC : Hid (keepR l = lsL l - 1) := Lib.hid rfl
  have HCU : Hid (cutR l v = v.extract (v.size - keepR l) v.size) := Lib.hid rfl
  have HCS := Lib.hid (@cutR_short l v)
  generalize cutR l v = cc at *
  generalize keepR l = q at *
  generalize lsL l = m at *
  have hq : q = m - 1 := HC.out
  clear hl hz hm
  go_enter Tryz.func208, Tryz.ntmps208
  go_wp2_with fail
  refine (HS.out _ (HL.out.later (HA.out _))).mono ?_
  rintro e w2 ⟨rfl, hb2⟩
  have HW := Lib.hid (Below.now (HA.out _) hb2)
  have e1 : max (0 : Int) ((m : Int) - 1) = (q : Int) := by omega
  clear hb2 HS
  by_cases hle : v.size ≤ q
  · have F := Lib.hid (HCS.out hle)
    have g1 : (v.size : Int) ≤ (q : Int) := by omega
    clear hq HC
    go_wp2_with fail
    go_ret
    exact ⟨ret_str F.out.symm, HW.out⟩
  · have g1 : ¬ (v.size : Int) ≤ (q : Int) := by omega
    have g3 : (0 : Int) ≤ (v.size : Int) - (q : Int) := by omega
    have g4 : (v.size : Int) - (q : Int) ≤ (v.size : Int) := by omega
    have g5 : ((v.size : Int) - (q : Int)).toNat = v.size - q := by omega
    clear hq HC
    go_wp2_with fail
    go_ret
    exact ⟨ret_str HCU.out.symm, HW.out⟩
end Go.Proofs.YtggfhephdcnpcaaGreatDoor
namespace Go.Proofs.YtggfhephdcnpcaaGreatDoor
open Go.RowKit
set_option linter.unusedVariables false
/-- a block that holds a reader -/
def RdAt (W : World) (p : Nat) (k : Int) (a : Option Addr) (n cap : Nat) (q : Nat) : Prop := W.cell? ⟨p, 0, none⟩ = some (.int .i64 k) ∧ W.cell? ⟨p, 1, none⟩ = some (.slice a n cap) ∧ W.cell? ⟨p, 2, none⟩ = some (.int .i64 (q : Nat))
theorem RdAt.later {W W' : World} {p : Nat} {k : Int} {a : Option Addr} {n cap q : Nat} (h : RdAt W p k a n cap q) (hb : Below W.heap.size W W') : RdAt W' p k a n cap q := by
  obtain ⟨h1, h2, h3⟩ := h
  exact ⟨by rw [hb.cell (World.block_lt_of_cell? W _ h1)]; exact h1, by rw [hb.cell (World.block_lt_of_cell? W _ h2)]; exact h2, by rw [hb.cell (World.block_lt_of_cell? W _ h3)]; exact h3⟩
/-- what newReader hands back -/
def RetRd (k : Int) (a : Option Addr) (n cap q : Nat) (w : World) (e : Ending) (w' : World) : Prop := ∃ p, e = .returned (.pointer (some ⟨p, 0, none⟩)) ∧ RdAt w' p k a n cap q ∧ w.heap.size ≤ p ∧ Below w.heap.size w w'
set_option maxRecDepth 20000 in
set_option maxHeartbeats 2000000 in
theorem newReader_any (k : Int) (l : List RulD) (a : Option Addr) (cap : Nat) (w : World) (hl : RulesIn w a l) (hlen : l.length ≤ 2 ^ 40) (hz : SzR l) :
    Calls Tryz.prog 84 #[.agg #[.int .i64 k, .slice a l.length cap]] w (RetRd k a l.length cap (keepR l) w) := by
  have HL := Lib.hid hl
  have HS := Lib.hid (fun W h => implLongestSide_any k l a cap W h hlen hz)
  have hm := lsTo_le hz l.length (Nat.le_refl _)
  have hm2 : lsL l ≤ 9223372036854775807 := by unfold maxLen at hm; exact hm
  have hmm := @run_makeMap Tryz.prog
  have HC : Hid (keepR l = lsL l - 1) := Lib.hid rfl
  generalize keepR l = q at *
  generalize lsL l = m at *
  have e1 : max (0 : Int) ((m : Int) - 1) = (q : Int) := by have := HC.out; omega
  have hw1 : IntKind.i64.wrap ((m : Int) - 1) = (m : Int) - 1 := IntWalk.i64_in _ (by omega)
  have hb0 := alloc_belowS w (.cells #[.int .i64 k, .slice a l.length cap] 29)
  clear hl hz hm
  go_enter Tryz.func84, Tryz.ntmps84
  go_wp2_with fail
  obtain ⟨w0, hw0⟩ : ∃ w0, w0 = w.alloc (.cells #[.int .i64 k, .slice a l.length cap] 29) := ⟨_, rfl⟩
  have hbx := sys_cells (alloc_at w (.cells #[.int .i64 k, .slice a l.length cap] 29))
  rw [← hw0] at hb0 hbx
  have HBX : Hid (∀ W, Below w0.heap.size w0 W → W.cell? ⟨w.heap.size, 0, none⟩ = some (.int .i64 k) ∧ W.cell? ⟨w.heap.size, 1, none⟩ = some (.slice a l.length cap)) := Lib.hid (fun W hW => ⟨by rw [hW.cell (World.block_lt_of_cell? w0 _ hbx.1)]; exact hbx.1, by rw [hW.cell (World.block_lt_of_cell? w0 _ hbx.2)]; exact hbx.2⟩)
  have HB0 := Lib.hid hb0
  rw [← hw0]
  obtain ⟨r0, r1⟩ := hbx
  clear hw0 hb0
  go_region_held3 (fun w' => w'.cell? ⟨w.heap.size, 0, none⟩ = some (.int .i64 k) ∧ w'.cell? ⟨w.heap.size, 1, none⟩ = some (.slice a l.length cap)) (go_keep) (first
    | (go_at_call 148; refine (HS.out _ (HL.out.later (Below.now HB0.out (by repeat (first | exact Below.refl _ _ | refine Below.drew ?_ | refine below_drewN ?_ _ | refine Below.alloc ?_ (by simp; try omega) _))))).mono ?_; rintro e w6 ⟨rfl, hb6⟩; have K6 : Hid (Below w0.heap.size w0 w6) := Lib.hid (Below.now (by repeat (first | exact Below.refl _ _ | refine Below.drew ?_ | refine below_drewN ?_ _ | refine Below.alloc ?_ (by simp; try omega) _)) hb6); have t0 := (HBX.out w6 K6.out).1; have t1 := (HBX.out w6 K6.out).2; clear hb6))
  all_goals
    first
      | (have F : Hid (RetRd k a l.length cap q w (.returned (.pointer (some ⟨w6.heap.size + 1, 0, none⟩))) ((w6.alloc (.map #[] 0)).alloc (.cells #[.int .i64 k, .slice a l.length cap, .int .i64 (q : Nat), .map (some w6.heap.size)] 163))) := Lib.hid (by
           have e2 : (w6.alloc (.map #[] 0)).heap.size = w6.heap.size + 1 := by simp
           refine ⟨_, rfl, ⟨?_, ?_, ?_⟩, ?_, ?_⟩
           · rw [← e2]; simp
           · rw [← e2]; simp
           · rw [← e2]; simp
           · have h1 := HB0.out.size; have h2 := K6.out.size; omega
           · exact (((Below.now HB0.out K6.out).alloc (Below.now HB0.out K6.out).size _).alloc (by have h1 := (Below.now HB0.out K6.out).size; simp; omega) _))
         clear t0 t1 r0 r1 hmm
         go_wp2_with fail
         go_ret
         exact F.out)
      | (have F : Hid (RetRd k a l.length cap q w (.returned (.pointer (some ⟨w6.heap.size, 0, none⟩))) (w6.alloc (.cells #[.int .i64 k, .slice a l.length cap, .int .i64 (q : Nat), .map (some w0.heap.size)] 163))) := Lib.hid (by
           refine ⟨_, rfl, ⟨?_, ?_, ?_⟩, ?_, ?_⟩
           · simp
           · simp
           · simp
           · have h1 := HB0.out.size; have h2 := K6.out.size; omega
           · exact ((Below.now HB0.out K6.out).alloc (Below.now HB0.out K6.out).size _))
         clear t0 t1 r0 r1 hmm
         go_wp2_with fail
         go_ret
         exact F.out)
/-- what next hands back -/
def RetNx (R : List RulD) (e0 : ByteArray) (x : Nat) (w : World) (e : Ending) (w' : World) : Prop :=
  (okX R e0 x = true ∧ e = .returned (.tuple #[.string (nxtX R e0 x), .bool true]) ∧ Below w.heap.size w w') ∨ (okX R e0 x = false ∧ e = .returned (.tuple #[.string ⟨#[]⟩, .bool false]) ∧ Below w.heap.size w w')
set_option maxHeartbeats 400000 in
theorem next1_any (v x y : ByteArray) (box : Nat) (w : World) (hv : v.size ≤ 1000) (hb : w.cell? ⟨box, 0, none⟩ = some (.string v)) :
    Calls Tryz.prog 199 #[.agg #[.string x, .string y], .pointer (some ⟨box, 0, none⟩)] w (RetP (sufBB v x = true) w) := by
  have hb2 : ∀ o, (w.alloc o).cell? ⟨box, 0, none⟩ = some (.string v) := fun o => by rw [(alloc_belowS w o).cell (World.block_lt_of_cell? w _ hb)]; exact hb
  have HS := Lib.hid (fun W => Tryz.strings_HasSuffix v x W (by omega))
  have HB : Hid (Lib.hasSuffix v.data.toList x.data.toList = sufBB v x) := Lib.hid rfl
  have HA := Lib.hid (fun o => alloc_belowS w o)
  rw [HB.out] at HS
  generalize sufBB v x = bb at *
  go_enter Tryz.func199, Tryz.ntmps199
  go_wp2_with fail
  refine (HS.out _).mono ?_
  rintro e w2 ⟨rfl, rfl⟩
  have F : Hid (RetP (bb = true) w (.returned (.bool bb)) (w.alloc (.cells #[.string x, .string y] 60))) := Lib.hid ⟨bb, Iff.rfl, rfl, HA.out _⟩
  go_wp2_with fail
  go_ret
  exact F.out
set_option maxRecDepth 20000 in
set_option maxHeartbeats 2000000 in
theorem readerNext_any (k : Int) (R : List RulD) (p : Nat) (e0 : ByteArray) (x : Nat) (a : Option Addr) (cap : Nat) (w : World) (hl : RulesIn w a R) (hlen : R.length ≤ 2 ^ 40) (hr : RdAt w p k a R.length cap (keepR R)) (hx : x < 26) (he : e0.size ≤ 900) (hq : keepR R ≤ 1000) :
    Calls Tryz.prog 150 #[.pointer (some ⟨p, 0, none⟩), .string e0, .int .i64 (x : Nat)] w (RetNx R e0 x w) := by
  have HL := Lib.hid hl
  have HR := Lib.hid hr
  have HLT := Lib.hid (fun W => letterOf_any x W hx)
  have HSZ : Hid ((e0 ++ letterN x).size = e0.size + 1) := Lib.hid (by rw [ByteArray.size_append, letterN_size])
  have hos := letterN_size x
  have hs2 : ¬ 9223372036854775807 < e0.size + 1 := by omega
  have hb0 := alloc_belowS w (.cells #[.string e0] 9)
  obtain ⟨w0, hw0⟩ : ∃ w0, w0 = w.alloc (.cells #[.string e0] 9) := ⟨_, rfl⟩
  have hbh : w0.heap[w.heap.size]? = some (.cells #[.string e0] 9 (0, 0)) := by rw [hw0]; exact alloc_at _ _
  clear hl hr
  go_enter Tryz.func150, Tryz.ntmps150
  go_wp2_with fail
  rw [← hw0] at hb0 ⊢
  have HB0 := Lib.hid hb0
  have HBH : Hid (∀ W, Below w0.heap.size w0 W → W.cell? ⟨w.heap.size, 0, none⟩ = some (.string e0) ∧ W.frozen? ⟨w.heap.size, 0, none⟩ = false) := Lib.hid (fun W hW => by
    have h1 := (hW.block w.heap.size (by rw [hw0]; simp)).trans hbh
    exact ⟨by simp [World.cell?, h1], by simp [World.frozen?, h1]⟩)
  obtain ⟨r0, r1⟩ := HBH.out w0 (Below.refl _ _)
  clear hw0 hb0 hbh
  have kr := Below.refl w0.heap.size w0
  go_region_law (first
    | (go_simp; go_at_call 198; refine (HLT.out _).mono ?_; rintro e w2 ⟨rfl, hb2⟩; dsimp only; have K2 : Hid (Below w0.heap.size w0 w2) := Lib.hid (Below.now (by repeat (first | exact Below.refl _ _ | refine Below.drew ?_ | refine below_drewN ?_ _)) hb2); have t0 := (HBH.out w2 K2.out).1; have t1 := (HBH.out w2 K2.out).2; clear hb2))
  all_goals
    have hcb : (w2.setCell ⟨w.heap.size, 0, none⟩ (.string (e0 ++ letterN x))).cell? ⟨w.heap.size, 0, none⟩ = some (.string (e0 ++ letterN x)) := by go_simp
    have hbw : Below w.heap.size w (w2.setCell ⟨w.heap.size, 0, none⟩ (.string (e0 ++ letterN x))) := (Below.now HB0.out K2.out).setCell (Nat.le_refl _) _
    have HOK : Hid (okX R e0 x = !endsR R (e0 ++ letterN x)) := Lib.hid rfl
    have HNX : Hid (nxtX R e0 x = (e0 ++ letterN x).extract ((e0 ++ letterN x).size - keepR R) (e0 ++ letterN x).size) := Lib.hid rfl
    clear t0 t1 r0 r1 HLT HBH K2 hos hs2
    generalize (w2.setCell ⟨w.heap.size, 0, none⟩ (.string (e0 ++ letterN x))) = w3 at *
    generalize e0 ++ letterN x = v at *
    have hvs : v.size ≤ 901 := by have := HSZ.out; omega
    have HBW := Lib.hid hbw
    have HEI : Hid (endsR R v = true ↔ ∃ r ∈ R, sufBB v r.1 = true) := Lib.hid endsR_iff
    have HCF := Lib.hid (containsFuncR_any 199 #[.pointer (some ⟨w.heap.size, 0, none⟩)] (fun r => sufBB v r.1 = true) R a cap w3 (HL.out.later hbw) hlen w3.heap.size (Nat.le_refl _) (fun j hj W hW => next1_any v _ _ w.heap.size W (by omega) (by rw [hW.cell (World.block_lt_of_cell? w3 _ hcb)]; exact hcb)) (enters_of Tryz.func199 (by kernel_rfl) rfl))
    obtain ⟨q0, q1, q2⟩ := HR.out.later hbw
    clear hbw
    go_wp2_with fail
    refine HCF.out.mono ?_
    rintro e w4 ⟨bb, hbb, rfl, hb4⟩
    have hcb4 : w4.cell? ⟨w.heap.size, 0, none⟩ = some (.string v) := by rw [hb4.cell (World.block_lt_of_cell? w3 _ hcb)]; exact hcb
    have p0 : w4.cell? ⟨p, 2, none⟩ = some (.int .i64 (keepR R : Nat)) := by rw [hb4.cell (World.block_lt_of_cell? w3 _ q2)]; exact q2
    have HB4 := Lib.hid (Below.now HBW.out hb4)
    have HBB := Lib.hid hbb
    clear hbb hb4 HCF hcb q0 q1 q2
    cases bb
    · have hen : endsR R v = false := by
        cases h : endsR R v
        · rfl
        · have := HBB.out.2 (HEI.out.1 h); cases this
      have hok : okX R e0 x = true := by rw [HOK.out, hen]; rfl
      have HOKT := Lib.hid hok
      clear hen hok HOK HBB HEI
      generalize keepR R = q at *
      have HF : Hid (∀ W, Below w.heap.size w W → RetNx R e0 x w (.returned (.tuple #[.string (v.extract (v.size - q) v.size), .bool true])) W) := Lib.hid (fun W hW => .inl ⟨HOKT.out, by rw [HNX.out], hW⟩)
      have hw9 : IntKind.i64.wrap ((v.size : Int) - (q : Int)) = (v.size : Int) - (q : Int) := IntWalk.i64_in _ (by omega)
      have hmx : max (0 : Int) ((v.size : Int) - (q : Int)) = ((v.size - q : Nat) : Int) := by omega
      have hl1 : ((v.size - q : Nat) : Int) ≤ (v.size : Int) := by omega
      have hl2 : v.size - q ≤ v.size := by omega
      go_wp2_with fail
      go_quiet (fail)
      clear hw9 hmx hl1 hl2 hcb4 p0
      go_wp2_with fail
      go_ret2
      exact HF.out _ (by have h := HB4.out; exact ⟨h.os, h.tape, h.output, h.size, h.block⟩)
    · have hen : endsR R v = true := HEI.out.2 (HBB.out.1 rfl)
      have F : Hid (RetNx R e0 x w (.returned (.tuple #[.string ⟨#[]⟩, .bool false])) w4) := Lib.hid (.inr ⟨by rw [HOK.out, hen]; rfl, rfl, HB4.out⟩)
      clear hen HOK HBB HEI hcb4 p0
      go_wp2_with fail
      go_ret2
      exact F.out
end Go.Proofs.YtggfhephdcnpcaaGreatDoor
namespace Go.Proofs.YtggfhephdcnpcaaGreatDoor
open Go.RowKit
set_option linter.unusedVariables false
def TwoB (w wr : World) (v : Value) (xs : List Value) (u : Value) (ys : List Value) : Prop :=
  Bld 9 1 w wr v xs.length xs ∧ Bld 3 1 w wr u ys.length ys ∧ ∀ k, v.ownBlock = some k → u.ownBlock ≠ some k
theorem TwoB.later {w wr wr' : World} {v u : Value} {xs ys : List Value} (h : TwoB w wr v xs u ys) (hb : Below wr.heap.size wr wr') : TwoB w wr' v xs u ys := ⟨h.1.later hb, h.2.1.later hb, h.2.2⟩
theorem keptB {T : TypeId} {w wr wr' : World} {v : Value} {n : Nat} {xs : List Value} {own : Option Nat} (h : Bld T 1 w wr v n xs) (hg : wr.grownBy wr' own) (hne : ∀ k, v.ownBlock = some k → own ≠ some k) (ho : ∀ k, own = some k → w.heap.size ≤ k) : Bld T 1 w wr' v n xs := by
  refine ⟨h.1.kept hg ?_, h.2.grown hg h.2.size ho⟩
  cases hv : v.ownBlock with
  | none => exact .inl rfl
  | some k => exact .inr fun e => hne k hv (e.symm ▸ rfl)
theorem TwoB.putV {w wr w' : World} {v v' u : Value} {xs ys : List Value} {y : Value} {T : TypeId} (h : TwoB w wr v xs u ys) (hb : Bld 9 1 w w' v' (xs.length + 1) (xs ++ [y])) (hg : (wr.alloc (.cells #[y] T)).grownBy w' v.ownBlock)
    (ho : v'.ownBlock = v.ownBlock ∨ v'.ownBlock = some (wr.alloc (.cells #[y] T)).heap.size) : TwoB w w' v' (xs ++ [y]) u ys := by
  have hal : Below wr.heap.size wr (wr.alloc (.cells #[y] T)) := (Below.refl _ _).alloc (Nat.le_refl _) _
  refine ⟨?_, keptB (h.2.1.later hal) hg (fun k hk e => h.2.2 k e hk) (fun k hk => (h.1.1.lt k hk).1), fun k hk e => ?_⟩
  · rw [List.length_append]; exact hb
  · rcases ho with h1 | h1
    · exact h.2.2 k (h1 ▸ hk) e
    · rw [h1] at hk
      have h2 := Option.some.inj hk
      have h3 := (h.2.1.1.lt k e).2
      simp at h2; omega
theorem TwoB.putU {w wr w' : World} {v u u' : Value} {xs ys : List Value} {y : Value} {T : TypeId} (h : TwoB w wr v xs u ys) (hb : Bld 3 1 w w' u' (ys.length + 1) (ys ++ [y])) (hg : (wr.alloc (.cells #[y] T)).grownBy w' u.ownBlock)
    (ho : u'.ownBlock = u.ownBlock ∨ u'.ownBlock = some (wr.alloc (.cells #[y] T)).heap.size) : TwoB w w' v xs u' (ys ++ [y]) := by
  have hal : Below wr.heap.size wr (wr.alloc (.cells #[y] T)) := (Below.refl _ _).alloc (Nat.le_refl _) _
  refine ⟨keptB (h.1.later hal) hg (fun k hk e => h.2.2 k hk e) (fun k hk => (h.2.1.1.lt k hk).1), ?_, fun k hk e => ?_⟩
  · rw [List.length_append]; exact hb
  · rcases ho with h1 | h1
    · exact h.2.2 k hk (h1 ▸ e)
    · rw [h1] at e
      have h2 := Option.some.inj e
      have h3 := (h.1.1.lt k hk).2
      simp at h2; omega
theorem setGrownB (w : World) (B o : Nat) (v : Value) : w.grownBy (w.setCell ⟨B, o, none⟩ v) (some B) := by
  have hszc : (w.setCell ⟨B, o, none⟩ v).heap.size = w.heap.size := by simp
  exact ⟨rfl, rfl, rfl, by rw [hszc]; exact Nat.le_refl _, fun k hk hne => by
    unfold World.setCell
    rw [Array.getElem?_modify, if_neg (fun e : B = k => hne (by rw [e]))]⟩
theorem TwoB.setU {w wr : World} {v : Value} {xs ys : List Value} {g cap : Nat} (h : TwoB w wr v xs (.slice (some ⟨g, 0, none⟩) ys.length cap) ys) {a : Nat} (ha : a < ys.length) (y : Value) : TwoB w (wr.setCell ⟨g, a, none⟩ y) v xs (.slice (some ⟨g, 0, none⟩) ys.length cap) (ys.set a y) := by
  refine ⟨keptB h.1 (setGrownB wr g a y) (fun k hk e => h.2.2 k hk (by simp only [Value.ownBlock]; exact e)) (fun k hk => ?_), ?_, h.2.2⟩
  · have h1 := (h.2.1.1.lt g rfl).1
    have := Option.some.inj hk
    omega
  · rw [List.length_set]
    exact ⟨(h.2.1.1.stored a y).1, h.2.1.2.setCell (h.2.1.1.lt g rfl).1 y⟩
theorem owns_slot {w : World} {base : Nat} {T : TypeId} {v : Value} {n : Nat} {xs : List Value} (h : w.ownsRow base T 1 v n xs) (h0 : 0 < n) : ∃ g cap, v = .slice (some ⟨g, 0, none⟩) n cap := by
  rcases h.2 with ⟨hv, h1⟩ | ⟨g, cap', cur, hv, _⟩
  · omega
  · exact ⟨g, cap', hv⟩
end Go.Proofs.YtggfhephdcnpcaaGreatDoor
