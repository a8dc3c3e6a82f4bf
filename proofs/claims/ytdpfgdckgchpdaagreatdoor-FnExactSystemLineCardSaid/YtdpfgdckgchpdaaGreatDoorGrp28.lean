/-
  The pairs of the reference: one rule inside of another one, and across.
-/
import Derived.Test.YtdpfgdckgchpdaaGreatDoorGrp18
import Derived.Test.YtdpfgdckgchpdaaGreatDoorGrp27
import Derived.Deep.RegionHeld3
import Derived.Deep.DeepCutAuto
namespace Go.Proofs.YtdpfgdckgchpdaaGreatDoor
open Go.RowKit
set_option linter.unusedVariables false
theorem Tryz.infoPair : (Tryz.prog.info? 56).map (fun i => (i.zero, i.size, i.bytes)) = some (some (.agg #[.string ⟨#[]⟩, .int .i64 0, .int .i64 0, .int .i64 0, .int .i64 0]), 5, 48) := by kernel_rfl
/-- pairs of the first q places -/
def inTo (R : List RulD) (i j : Nat) (S : List Nat) (q : Nat) : List PairD := (S.take q).map (inP R i j)
def acTo (R : List RulD) (i j : Nat) (S : List Nat) (q : Nat) : List PairD := (S.take q).map (acP R i j)
theorem inTo_len (R : List RulD) (i j : Nat) (S : List Nat) (q : Nat) : (inTo R i j S q).length ≤ S.length := by unfold inTo; rw [List.length_map, List.length_take]; omega
theorem acTo_len (R : List RulD) (i j : Nat) (S : List Nat) (q : Nat) : (acTo R i j S q).length ≤ S.length := by unfold acTo; rw [List.length_map, List.length_take]; omega
theorem inTo_succ (R : List RulD) (i j : Nat) {S : List Nat} {q : Nat} (h : q < S.length) : inTo R i j S (q + 1) = inTo R i j S q ++ [inP R i j S[q]] := by
  unfold inTo; rw [List.take_succ_eq_append_getElem h, List.map_append]; rfl
theorem acTo_succ (R : List RulD) (i j : Nat) {S : List Nat} {q : Nat} (h : q < S.length) : acTo R i j S (q + 1) = acTo R i j S q ++ [acP R i j S[q]] := by
  unfold acTo; rw [List.take_succ_eq_append_getElem h, List.map_append]; rfl
theorem cells_prV (l : List PairD) (p : PairD) : cellsL prV (l ++ [p]) = cellsL prV l ++ [.string p.1, .int .i64 (p.2.1 : Nat), .int .i64 0, .int .i64 (p.2.2.1 : Nat), .int .i64 (p.2.2.2 : Nat)] := by rw [cellsL_app, cellsL_one]; rfl
/-- the Left of a rule in memory -/
theorem left_at {w : World} {a : Option Addr} {R : List RulD} (h : RulesIn w a R) {r : Nat} (hr : r < R.length) : ∃ b off, a = some ⟨b, off, none⟩ ∧ ∀ W, Below w.heap.size w W → ∀ i, i < R.length → W.cell? ⟨b, off + i * 2, none⟩ = some (.string (nthR R i).1) := by
  obtain ⟨b, off, e, hlt, hc⟩ := h.cell hr
  exact ⟨b, off, e, fun W hW i hi => by rw [hW.cell (World.block_lt_of_cell? w _ (hc i hi).1)]; exact (hc i hi).1⟩
set_option maxRecDepth 100000 in
set_option maxHeartbeats 2000000 in
theorem l05Inside_any (k : Int) (R : List RulD) (a : Option Addr) (cap : Nat) (i j : Nat) (w : World) (hl : RulesIn w a R) (hi : i < R.length) (hj : j < R.length) (h8 : ∀ r, (nthR R r).1.size ≤ 8) (hp : ∀ r, r < R.length → 0 < (nthR R r).1.size) (h12 : R.length ≤ 12) :
    Calls Tryz.prog 139 #[.agg #[.int .i64 k, .slice a R.length cap], .int .i64 (i : Nat), .int .i64 (j : Nat)] w (RetSl 56 5 (inF R i j).length (cellsL prV (inF R i j)) w) := by
  obtain ⟨b, off, rfl, hc⟩ := left_at hl hi
  have HC := Lib.hid hc
  have hb1 := alloc_belowS w (.cells #[.int .i64 k, .slice (some ⟨b, off, none⟩) R.length cap] 29)
  have HBX := Lib.hid (fun W2 (h : Below (w.alloc (.cells #[.int .i64 k, .slice (some ⟨b, off, none⟩) R.length cap] 29)).heap.size (w.alloc (.cells #[.int .i64 k, .slice (some ⟨b, off, none⟩) R.length cap] 29)) W2) => box_two h)
  clear hl hc
  by_cases hij : i = j
  · have HF : Hid (inF R i j = []) := Lib.hid (by unfold inF; rw [if_pos hij])
    have hb2 : ((i : Int) == (j : Int)) = true := by rw [hij, beq_self_eq_true]
    have HB1 := Lib.hid hb1
    clear hij
    go_enter Tryz.func139, Tryz.ntmps139
    go_wp2_with fail
    go_ret
    rw [HF.out]
    have F := ((Bld.empty 56 5 _).since HB1.out).ret
    have e1 : (w.alloc (.cells #[.int .i64 k, .slice (some ⟨b, off, none⟩) R.length cap] 29)).heap.size = w.heap.size + 1 := by simp
    rw [e1] at F
    exact F
  · have HF : Hid (inF R i j = inTo R i j (placesF (nthR R i).1 (nthR R j).1) (placesF (nthR R i).1 (nthR R j).1).length) := Lib.hid (by unfold inF inTo; rw [if_neg hij, List.take_length])
    have hb2 : ((i : Int) == (j : Int)) = false := by rw [beq_eq_false_iff_ne]; omega
    have HPL := Lib.hid (fun W => specPlacesOf_any (nthR R i).1 (nthR R j).1 W (hp j hj) (by have := h8 i; omega) (by have := h8 j; omega))
    have hSl : (placesF (nthR R i).1 (nthR R j).1).length ≤ 8 := Nat.le_trans (placeTo_len _ _ _) (h8 i)
    have HW1 := Lib.hid hb1
    clear hij h8 hp
    go_enter Tryz.func139, Tryz.ntmps139
    go_wp2_with fail
    have HB0 : Hid (Bld 56 5 (w.alloc (.cells #[.int .i64 k, .slice (some ⟨b, off, none⟩) R.length cap] 29)) ((w.alloc (.cells #[.int .i64 k, .slice (some ⟨b, off, none⟩) R.length cap] 29)).alloc (.cells #[] 56)) (.slice (some ⟨(w.alloc (.cells #[.int .i64 k, .slice (some ⟨b, off, none⟩) R.length cap] 29)).heap.size, 0, none⟩) 0 0) 0 (cellsL prV [])) := Lib.hid (Bld.empty 56 5 _)
    have e1 : (w.alloc (.cells #[.int .i64 k, .slice (some ⟨b, off, none⟩) R.length cap] 29)).heap.size = w.heap.size + 1 := by simp
    rw [e1] at HB0
    generalize hW1 : w.alloc (.cells #[.int .i64 k, .slice (some ⟨b, off, none⟩) R.length cap] 29) = w1 at *
    have hb3 := alloc_belowS w1 (.cells #[] 56)
    obtain ⟨w2, hw2⟩ : ∃ w2, w2 = w1.alloc (.cells #[] 56) := ⟨_, rfl⟩
    rw [← hw2] at hb3 HB0 ⊢
    have HW2 := Lib.hid hb3
    have HS2 : Hid (∀ W, Below w2.heap.size w2 W → W.cell? ⟨w.heap.size, 1, none⟩ = some (.slice (some ⟨b, off, none⟩) R.length cap) ∧ W.cell? ⟨b, off + i * 2, none⟩ = some (.string (nthR R i).1) ∧ W.cell? ⟨b, off + j * 2, none⟩ = some (.string (nthR R j).1)) := Lib.hid (fun W hW => ⟨(HBX.out W (Below.now hb3 hW)).2, HC.out W (Below.now HW1.out (Below.now hb3 hW)) i hi, HC.out W (Below.now HW1.out (Below.now hb3 hW)) j hj⟩)
    have HSC : Hid (∀ W, Below w1.heap.size w1 W → W.cell? ⟨w.heap.size, 1, none⟩ = some (.slice (some ⟨b, off, none⟩) R.length cap) ∧ W.cell? ⟨b, off + i * 2, none⟩ = some (.string (nthR R i).1)) := Lib.hid (fun W hW => ⟨(HBX.out W hW).2, HC.out W (Below.now HW1.out hW) i hi⟩)
    have hs12 : w1.heap.size = w.heap.size + 1 := by rw [← hW1]; simp
    have hs22 : w2.heap.size = w1.heap.size + 1 := by rw [hw2]; simp
    obtain ⟨r0, r1, r2⟩ := HS2.out w2 (Below.refl _ _)
    clear hb1 hb3 hw2 e1 hW1 HBX
    generalize hLi : (nthR R i).1 = Li at *
    generalize hLj : (nthR R j).1 = Lj at *
    generalize hS : placesF Li Lj = S at *
    go_cut [27, 28, 29] (fun v u z wx => ∃ a2 c2, v = .slice a2 S.length c2 ∧ u = .int .i64 (S.length : Nat) ∧ z = .int .i64 0 ∧ RowsIn nV wx a2 S ∧ Below w2.heap.size w2 wx ∧ ∀ x, a2 = some x → w2.heap.size ≤ x.block ∧ x.block < wx.heap.size)
    case first =>
      go_region_held3 (fun w' => w'.cell? ⟨w.heap.size, 1, none⟩ = some (.slice (some ⟨b, off, none⟩) R.length cap) ∧ w'.cell? ⟨b, off + i * 2, none⟩ = some (.string Li) ∧ w'.cell? ⟨b, off + j * 2, none⟩ = some (.string Lj)) (go_keep) (first
        | (go_at_call 173; refine (HPL.out _).mono ?_; rintro e w6 ⟨a6, c6, rfl, ho6, hb6⟩; have K6 : Hid (Below w2.heap.size w2 w6) := Lib.hid (Below.now (by repeat (first | exact Below.refl _ _ | refine Below.drew ?_ | refine below_drewN ?_ _)) hb6); have I6 := Lib.hid (owns_rows ho6); have R6 : Hid (∀ x, a6 = some x → w2.heap.size ≤ x.block ∧ x.block < w6.heap.size) := Lib.hid (fun x hx => by have h := ho6.lt x.block (by rw [hx]; rfl); simp at h; omega); have t0 := (HS2.out w6 K6.out).1; have t1 := (HS2.out w6 K6.out).2.1; have t2 := (HS2.out w6 K6.out).2.2; clear hb6 ho6))
      all_goals
        go_wp2_with fail
        go_meet
        exact ⟨_, _, rfl, rfl, rfl, I6.out, K6.out, R6.out⟩
    case rest =>
      obtain ⟨a2, c2, rfl, rfl, rfl, hin, hbc, hba⟩ := hcut
      have HB1 : Hid (Bld 56 5 w1 wc (.slice (some ⟨w.heap.size + 1, 0, none⟩) 0 0) (inTo R i j S 0).length (cellsL prV (inTo R i j S 0))) := Lib.hid (HB0.out.later hbc)
      have HI : Hid (RowsIn nV wc a2 S) := Lib.hid hin
      have HA1 : Hid (Away wc a2 (.slice (some ⟨w.heap.size + 1, 0, none⟩) 0 0)) := Lib.hid (fun x hx => by
        obtain ⟨h1, h2⟩ := hba x hx
        exact ⟨h2, fun e => by have e2 : x.block = w.heap.size + 1 := Option.some.inj e; omega⟩)
      clear hin hbc r0 r1 r2 HS2 HB0 HPL hba
      go_wp2_with fail
      go_loopw [7, 29] (fun vo vq wr => ∃ q : Nat, q ≤ S.length ∧ vq = .int .i64 (q : Nat) ∧ Bld 56 5 w1 wr vo (inTo R i j S q).length (cellsL prV (inTo R i j S q)) ∧ Hid (RowsIn nV wr a2 S) ∧ Hid (Away wr a2 vo)) (fun _ vq _ => S.length - (intOf vq).toNat)
      case atStart => exact ⟨0, Nat.zero_le _, rfl, HB1.out, HI, HA1⟩
      case round =>
        clear HB1 HI HA1
        obtain ⟨q, hq, rfl, hbd, HI, HAW⟩ := hrel
        obtain ⟨ao, co, rfl⟩ := owns_form hbd.1
        have HB := Lib.hid hbd
        have hil := inTo_len R i j S q
        by_cases hlt : q < S.length
        · obtain ⟨b2, off2, rfl, hb2, hcs⟩ := RowsIn.cell nV_len (by omega) HI.out hlt
          have c0 : wr.cell? ⟨b2, off2 + q, none⟩ = some (.int .i64 (S[q] : Nat)) := by have h := hcs q hlt 0 _ rfl; rw [Nat.mul_one] at h; exact h
          obtain ⟨s0, s1⟩ := HSC.out wr hbd.2
          have HNX := Lib.hid (inTo_succ R i j hlt)
          have HPI : Hid (inP R i j S[q] = (Li, i, j, S[q])) := Lib.hid (by unfold inP; rw [hLi])
          rw [HPI.out] at HNX
          clear hcs hbd
          generalize S[q] = z at *
          have HB2 := Lib.hid (HB.out.later (alloc_belowS wr (.cells #[.string Li, .int .i64 (i : Nat), .int .i64 0, .int .i64 (j : Nat), .int .i64 (z : Nat)] 56)))
          have HN1 : Hid ([Value.string Li, .int .i64 (i : Nat), .int .i64 0, .int .i64 (j : Nat), .int .i64 (z : Nat)].length = 1 * 5) := Lib.hid rfl
          have HN2 : Hid (∀ u ∈ [Value.string Li, .int .i64 (i : Nat), .int .i64 0, .int .i64 (j : Nat), .int .i64 (z : Nat)], u.oneCell' = true) := Lib.hid (fun u hu => by simp at hu; rcases hu with rfl | rfl | rfl | rfl | rfl <;> rfl)
          generalize hX : inTo R i j S q = X at *
          clear hX
          go_wp2_with (at_builtin; refine wpList_appM rfl (.tmp 33) (.tmp 46) rfl Tryz.underlying51 Tryz.infoPair rfl (by decide) rfl HB2.out rfl (Src.lit _) HN1.out HN2.out ?a1 ?a2 ?a3)
          case a1 => unfold maxLen; omega
          case a2 => omega
          intro v4 w4 hb4 hg4 ho4
          have HB4 : Hid (Bld 56 5 w1 w4 v4 (inTo R i j S (q + 1)).length (cellsL prV (inTo R i j S (q + 1)))) := Lib.hid (by
            rw [HNX.out, List.length_append, cells_prV]; exact hb4)
          have HG4 := Lib.hid ((World.grownBy_alloc wr _ (Value.slice ao X.length co).ownBlock).trans hg4)
          have HI4 : Hid (RowsIn nV w4 (some ⟨b2, off2, none⟩) S) := Lib.hid (CellsIn.grownC HI.out HG4.out (fun x hx => (HAW.out x hx).2))
          have HA4 : Hid (Away w4 (some ⟨b2, off2, none⟩) v4) := Lib.hid (fun x hx => by
            obtain ⟨h1, h2⟩ := HAW.out x hx
            refine ⟨Nat.lt_of_lt_of_le h1 HG4.out.size, fun e => ?_⟩
            rcases ho4 with h | h
            · exact h2 (e.trans h)
            · have e3 := e.trans h
              have e4 := Option.some.inj e3
              have e5 := (alloc_belowS wr (.cells #[.string Li, .int .i64 (i : Nat), .int .i64 0, .int .i64 (j : Nat), .int .i64 (z : Nat)] 56)).size
              first | omega | (simp at e4; omega))
          obtain ⟨a4, c4, hv4⟩ := owns_form HB4.out.1
          subst hv4
          clear hb4 hg4 ho4
          go_wp2_with fail
          go_roundw
          case rel => exact ⟨q + 1, by omega, by go_num, HB4.out, HI4, HA4⟩
          case measure => simp [intOf]; omega
        · obtain rfl : q = S.length := by omega
          have F : Hid (RetSl 56 5 (inF R i j).length (cellsL prV (inF R i j)) w (.returned (.slice ao (inTo R i j S S.length).length co)) wr) := Lib.hid (by
            rw [HF.out]
            exact (HB.out.since HW1.out).ret)
          clear hbd
          go_wp2_with fail
          go_ret
          exact F.out
/-- what across adds -/
theorem acP_eq {R : List RulD} {i j n : Nat} {Li Lj : ByteArray} (h1 : (nthR R i).1 = Li) (h2 : (nthR R j).1 = Lj) : acP R i j n = (Li ++ Lj.extract n Lj.size, i, j, Li.size - n) := by unfold acP; rw [h1, h2]
set_option maxRecDepth 100000 in
set_option maxHeartbeats 2000000 in
theorem l05Across_any (k : Int) (R : List RulD) (a : Option Addr) (cap : Nat) (i j : Nat) (w : World) (hl : RulesIn w a R) (hi : i < R.length) (hj : j < R.length) (h8 : ∀ r, (nthR R r).1.size ≤ 8) (h12 : R.length ≤ 12) :
    Calls Tryz.prog 140 #[.agg #[.int .i64 k, .slice a R.length cap], .int .i64 (i : Nat), .int .i64 (j : Nat)] w (RetSl 56 5 (acF R i j).length (cellsL prV (acF R i j)) w) := by
  obtain ⟨b, off, rfl, hc⟩ := left_at hl hi
  have HC := Lib.hid hc
  have hb1 := alloc_belowS w (.cells #[.int .i64 k, .slice (some ⟨b, off, none⟩) R.length cap] 29)
  have HBX := Lib.hid (fun W2 (h : Below (w.alloc (.cells #[.int .i64 k, .slice (some ⟨b, off, none⟩) R.length cap] 29)).heap.size (w.alloc (.cells #[.int .i64 k, .slice (some ⟨b, off, none⟩) R.length cap] 29)) W2) => box_two h)
  have HF : Hid (acF R i j = acTo R i j (overF (nthR R i).1 (nthR R j).1) (overF (nthR R i).1 (nthR R j).1).length) := Lib.hid (by unfold acF acTo; rw [List.take_length])
  have h8i := h8 i
  have h8j := h8 j
  have HPL := Lib.hid (fun W => specOverlapsOf_any (nthR R i).1 (nthR R j).1 W (by omega) (by omega))
  have hSl : (overF (nthR R i).1 (nthR R j).1).length ≤ 8 := Nat.le_trans (overTo_len _ _ _) (by omega)
  have HMEM : Hid (∀ n ∈ overF (nthR R i).1 (nthR R j).1, n < (nthR R i).1.size ∧ n < (nthR R j).1.size) := Lib.hid (fun n h => (mem_over.1 h).1)
  have HW1 := Lib.hid hb1
  clear hl hc h8
  go_enter Tryz.func140, Tryz.ntmps140
  have s0 := fun o => HC.out _ (Below.now HW1.out (alloc_belowS _ o)) i hi
  have s1 := fun o => HC.out _ (Below.now HW1.out (alloc_belowS _ o)) j hj
  go_wp2_with fail
  have HB0 : Hid (Bld 56 5 (w.alloc (.cells #[.int .i64 k, .slice (some ⟨b, off, none⟩) R.length cap] 29)) ((w.alloc (.cells #[.int .i64 k, .slice (some ⟨b, off, none⟩) R.length cap] 29)).alloc (.cells #[] 56)) (.slice (some ⟨(w.alloc (.cells #[.int .i64 k, .slice (some ⟨b, off, none⟩) R.length cap] 29)).heap.size, 0, none⟩) 0 0) 0 (cellsL prV [])) := Lib.hid (Bld.empty 56 5 _)
  have e1 : (w.alloc (.cells #[.int .i64 k, .slice (some ⟨b, off, none⟩) R.length cap] 29)).heap.size = w.heap.size + 1 := by simp
  rw [e1] at HB0
  clear s0 s1
  generalize hW1 : w.alloc (.cells #[.int .i64 k, .slice (some ⟨b, off, none⟩) R.length cap] 29) = w1 at *
  have hb3 := alloc_belowS w1 (.cells #[] 56)
  obtain ⟨w2, hw2⟩ : ∃ w2, w2 = w1.alloc (.cells #[] 56) := ⟨_, rfl⟩
  rw [← hw2] at hb3 HB0 ⊢
  have hs12 : w1.heap.size = w.heap.size + 1 := by rw [← hW1]; simp
  have hs22 : w2.heap.size = w1.heap.size + 1 := by rw [hw2]; simp
  clear hb1 hb3 hw2 e1 hW1 HBX
  generalize hLi : (nthR R i).1 = Li at *
  generalize hLj : (nthR R j).1 = Lj at *
  generalize hS : overF Li Lj = S at *
  refine (HPL.out _).mono ?_
  rintro e wc ⟨a2, c2, rfl, ho6, hbc⟩
  have hba : ∀ x, a2 = some x → w2.heap.size ≤ x.block ∧ x.block < wc.heap.size := fun x hx => ho6.lt x.block (by rw [hx]; rfl)
  have hin := owns_rows ho6
  have HB1 : Hid (Bld 56 5 w1 wc (.slice (some ⟨w.heap.size + 1, 0, none⟩) 0 0) (acTo R i j S 0).length (cellsL prV (acTo R i j S 0))) := Lib.hid (HB0.out.later hbc)
  have HI : Hid (RowsIn nV wc a2 S) := Lib.hid hin
  have HA1 : Hid (Away wc a2 (.slice (some ⟨w.heap.size + 1, 0, none⟩) 0 0)) := Lib.hid (fun x hx => by
    obtain ⟨h1, h2⟩ := hba x hx
    exact ⟨h2, fun e => by have e2 : x.block = w.heap.size + 1 := Option.some.inj e; omega⟩)
  clear hin hbc ho6 HB0 HPL hba
  go_wp2_with fail
  go_loopw [7, 29] (fun vo vq wr => ∃ q : Nat, q ≤ S.length ∧ vq = .int .i64 (q : Nat) ∧ Bld 56 5 w1 wr vo (acTo R i j S q).length (cellsL prV (acTo R i j S q)) ∧ Hid (RowsIn nV wr a2 S) ∧ Hid (Away wr a2 vo)) (fun _ vq _ => S.length - (intOf vq).toNat)
  case atStart => exact ⟨0, Nat.zero_le _, rfl, HB1.out, HI, HA1⟩
  case round =>
    clear HB1 HI HA1
    obtain ⟨q, hq, rfl, hbd, HI, HAW⟩ := hrel
    obtain ⟨ao, co, rfl⟩ := owns_form hbd.1
    have HB := Lib.hid hbd
    have hil := acTo_len R i j S q
    by_cases hlt : q < S.length
    · obtain ⟨b2, off2, rfl, hb2, hcs⟩ := RowsIn.cell nV_len (by omega) HI.out hlt
      have c0 : wr.cell? ⟨b2, off2 + q, none⟩ = some (.int .i64 (S[q] : Nat)) := by have h := hcs q hlt 0 _ rfl; rw [Nat.mul_one] at h; exact h
      have HNX := Lib.hid (acTo_succ R i j hlt)
      have hz := HMEM.out S[q] (List.getElem_mem hlt)
      rw [acP_eq hLi hLj] at HNX
      clear hcs hbd
      generalize S[q] = z at *
      have x1 : (Lj.extract z Lj.size).size = Lj.size - z := by rw [ByteArray.size_extract]; omega
      have x2 : ¬ 9223372036854775807 < Li.size + (Lj.extract z Lj.size).size := by omega
      have x3 : (z : Int) ≤ (Lj.size : Int) := by omega
      have x4 : z ≤ Lj.size := by omega
      have x5 : (Li.size : Int) - (z : Int) = ((Li.size - z : Nat) : Int) := by omega
      have x6 : IntKind.i64.wrap ((Li.size : Int) - (z : Int)) = ((Li.size - z : Nat) : Int) := by rw [IntWalk.i64_in _ (by omega)]; omega
      have HB2 := Lib.hid (HB.out.later (alloc_belowS wr (.cells #[.string (Li ++ Lj.extract z Lj.size), .int .i64 (i : Nat), .int .i64 0, .int .i64 (j : Nat), .int .i64 (Li.size - z : Nat)] 56)))
      have HN1 : Hid ([Value.string (Li ++ Lj.extract z Lj.size), .int .i64 (i : Nat), .int .i64 0, .int .i64 (j : Nat), .int .i64 (Li.size - z : Nat)].length = 1 * 5) := Lib.hid rfl
      have HN2 : Hid (∀ u ∈ [Value.string (Li ++ Lj.extract z Lj.size), .int .i64 (i : Nat), .int .i64 0, .int .i64 (j : Nat), .int .i64 (Li.size - z : Nat)], u.oneCell' = true) := Lib.hid (fun u hu => by simp at hu; rcases hu with rfl | rfl | rfl | rfl | rfl <;> rfl)
      generalize hX : acTo R i j S q = X at *
      clear hX
      go_wp2_with (at_builtin; refine wpList_appM rfl (.tmp 33) (.tmp 48) rfl Tryz.underlying51 Tryz.infoPair rfl (by decide) rfl HB2.out rfl (Src.lit _) HN1.out HN2.out ?a1 ?a2 ?a3)
      case a1 => unfold maxLen; omega
      case a2 => omega
      intro v4 w4 hb4 hg4 ho4
      have HB4 : Hid (Bld 56 5 w1 w4 v4 (acTo R i j S (q + 1)).length (cellsL prV (acTo R i j S (q + 1)))) := Lib.hid (by
        rw [HNX.out, List.length_append, cells_prV]; exact hb4)
      have HG4 := Lib.hid ((World.grownBy_alloc wr _ (Value.slice ao X.length co).ownBlock).trans hg4)
      have HI4 : Hid (RowsIn nV w4 (some ⟨b2, off2, none⟩) S) := Lib.hid (CellsIn.grownC HI.out HG4.out (fun x hx => (HAW.out x hx).2))
      have HA4 : Hid (Away w4 (some ⟨b2, off2, none⟩) v4) := Lib.hid (fun x hx => by
        obtain ⟨h1, h2⟩ := HAW.out x hx
        refine ⟨Nat.lt_of_lt_of_le h1 HG4.out.size, fun e => ?_⟩
        rcases ho4 with h | h
        · exact h2 (e.trans h)
        · have e3 := e.trans h
          have e4 := Option.some.inj e3
          have e5 := (alloc_belowS wr (.cells #[.string (Li ++ Lj.extract z Lj.size), .int .i64 (i : Nat), .int .i64 0, .int .i64 (j : Nat), .int .i64 (Li.size - z : Nat)] 56)).size
          first | omega | (simp at e4; omega))
      obtain ⟨a4, c4, hv4⟩ := owns_form HB4.out.1
      subst hv4
      clear hb4 hg4 ho4
      go_wp2_with fail
      go_roundw
      case rel => exact ⟨q + 1, by omega, by go_num, HB4.out, HI4, HA4⟩
      case measure => simp [intOf]; omega
    · obtain rfl : q = S.length := by omega
      have F : Hid (RetSl 56 5 (acF R i j).length (cellsL prV (acF R i j)) w (.returned (.slice ao (acTo R i j S S.length).length co)) wr) := Lib.hid (by
        rw [HF.out]
        exact (HB.out.since HW1.out).ret)
      clear hbd
      go_wp2_with fail
      go_ret
      exact F.out
end Go.Proofs.YtdpfgdckgchpdaaGreatDoor
