/-
  slices.IndexFunc and slices.DeleteFunc at pairs, over a slice of the call's own.
-/
import Derived.Test.YtgoeadgpbidgiaaGreatDoorMnp19
import Derived.Test.YtgoeadgpbidgiaaGreatDoorMnp12
import Derived.Test.YtgoeadgpbidgiaaGreatDoorMnp13
import Derived.Lib.SliceRun
namespace Go.Proofs.YtgoeadgpbidgiaaGreatDoor
open Go.RowKit
set_option linter.unusedVariables false
/-- what an append leaves of a place apart from the row -/
theorem Away.on {wr wx w' : World} {a : Option Addr} {v v' : Value} (h : Away wr a v) (hb : Below wr.heap.size wr wx) (hg : wx.grownBy w' v.ownBlock) (ho : v'.ownBlock = v.ownBlock ∨ v'.ownBlock = some wx.heap.size) : Away w' a v' := fun x hx => by
  obtain ⟨h1, h2⟩ := h x hx
  have h3 := hb.size
  have h4 := hg.size
  refine ⟨by omega, fun e => ?_⟩
  rcases ho with h | h
  · exact h2 (e.trans h)
  · have e4 := Option.some.inj (e.trans h)
    omega
theorem Away.later {wr wx : World} {a : Option Addr} {v : Value} (h : Away wr a v) (hb : Below wr.heap.size wr wx) : Away wx a v := fun x hx => ⟨Nat.lt_of_lt_of_le (h x hx).1 hb.size, (h x hx).2⟩
/-- a box with a string at its beginning, apart from the row -/
def BoxL (g : Nat) (l : ByteArray) (W : World) (v : Value) : Prop := W.cell? ⟨g, 0, none⟩ = some (.string l) ∧ Away W (some ⟨g, 0, none⟩) v
theorem BoxL.later {g : Nat} {l : ByteArray} {W W' : World} {v : Value} (h : BoxL g l W v) (hb : Below W.heap.size W W') : BoxL g l W' v := ⟨by rw [hb.cell (World.block_lt_of_cell? W _ h.1)]; exact h.1, h.2.later hb⟩
theorem BoxL.on {g : Nat} {l : ByteArray} {wr wx w' : World} {v v' : Value} (h : BoxL g l wr v) (hb : Below wr.heap.size wr wx) (hg : wx.grownBy w' v.ownBlock) (ho : v'.ownBlock = v.ownBlock ∨ v'.ownBlock = some wx.heap.size) : BoxL g l w' v' :=
  ⟨hg.cell (h.later hb).1 (h.2 _ rfl).2, h.2.on hb hg ho⟩
/-- numbers in memory, apart from the row -/
def NumL (a : Option Addr) (S : List Nat) (W : World) (v : Value) : Prop := RowsIn nV W a S ∧ Away W a v
theorem NumL.later {a : Option Addr} {S : List Nat} {W W' : World} {v : Value} (h : NumL a S W v) (hb : Below W.heap.size W W') : NumL a S W' v := ⟨h.1.later hb, h.2.later hb⟩
theorem NumL.on {a : Option Addr} {S : List Nat} {wr wx w' : World} {v v' : Value} (h : NumL a S wr v) (hb : Below wr.heap.size wr wx) (hg : wx.grownBy w' v.ownBlock) (ho : v'.ownBlock = v.ownBlock ∨ v'.ownBlock = some wx.heap.size) : NumL a S w' v' :=
  ⟨CellsIn.grownC (h.later hb).1 hg (fun x hx => (h.2 x hx).2), h.2.on hb hg ho⟩
/-- the pairs inside, of the first q places: none with itself -/
def inT (R : List RulD) (i j : Nat) (S : List Nat) (q : Nat) : List PairD := if i = j then [] else inTo R i j S q
theorem inT_same {R : List RulD} {i j : Nat} (h : i = j) (S : List Nat) (q : Nat) : inT R i j S q = [] := if_pos h
theorem inT_len (R : List RulD) (i j : Nat) (S : List Nat) (q : Nat) : (inT R i j S q).length ≤ S.length := by
  unfold inT
  split
  · simp
  · exact inTo_len R i j S q
theorem inT_succ {R : List RulD} {i j : Nat} (h : ¬ i = j) {S : List Nat} {q : Nat} (hq : q < S.length) : inT R i j S (q + 1) = inT R i j S q ++ [inP R i j S[q]] := by
  unfold inT; rw [if_neg h, if_neg h, inTo_succ R i j hq]
theorem inT_all (R : List RulD) (i j : Nat) : inT R i j (placesF (nthR R i).1 (nthR R j).1) (placesF (nthR R i).1 (nthR R j).1).length = inF R i j := by
  unfold inT inF inTo
  split
  · rfl
  · rw [List.take_length]
theorem acT_all (R : List RulD) (i j : Nat) : acTo R i j (overF (nthR R i).1 (nthR R j).1) (overF (nthR R i).1 (nthR R j).1).length = acF R i j := by
  unfold acTo acF
  rw [List.take_length]
theorem own_lt {T : TypeId} {size : Nat} {w wr : World} {v : Value} {n : Nat} {xs : List Value} (h : Bld T size w wr v n xs) {g : Nat} (hg : wr.heap.size ≤ g) : some g ≠ v.ownBlock := fun e => by
  have h1 := (h.1.lt g e.symm).2
  omega
set_option maxRecDepth 100000 in
set_option maxHeartbeats 4000000 in
theorem implPairs_any (k : Int) (R : List RulD) (a : Option Addr) (cap : Nat) (w : World) (hl : RulesIn w a R) (hs : sysP k R) :
    Calls Tryz.prog 130 #[.agg #[.int .i64 k, .slice a R.length cap]] w (RetSl 122 5 (pairsF R).length (cellsL prV (pairsF R)) w) := by
  have h12 : R.length ≤ 12 := hs.1.1.2
  have h8 := left8 hs
  have hb1 := alloc_belowS w (.cells #[.int .i64 k, .slice a R.length cap] 33)
  have HBX := Lib.hid (fun W2 (h : Below (w.alloc (.cells #[.int .i64 k, .slice a R.length cap] 33)).heap.size (w.alloc (.cells #[.int .i64 k, .slice a R.length cap] 33)) W2) => box_two h)
  have hpos : ∀ r, r < R.length → 0 < (nthR R r).1.size := fun r hr => by have := (hs.1.2 _ (nthR_mem hr)).2; omega
  have HPL := Lib.hid (fun i j W (hj : j < R.length) => implPlacesOf_any (nthR R i).1 (nthR R j).1 W (hpos j hj) (by have := h8 i; omega) (by have := h8 j; omega))
  have HOV := Lib.hid (fun i j W => implOverlapsOf_any (nthR R i).1 (nthR R j).1 W (by have := h8 i; omega) (by have := h8 j; omega))
  have HPS : Hid (∀ i j, (placesF (nthR R i).1 (nthR R j).1).length ≤ 8 ∧ (overF (nthR R i).1 (nthR R j).1).length ≤ 8 ∧ ∀ n ∈ overF (nthR R i).1 (nthR R j).1, n < (nthR R i).1.size ∧ n < (nthR R j).1.size) := Lib.hid (fun i j => ⟨Nat.le_trans (placeTo_len _ _ _) (h8 i), Nat.le_trans (overTo_len _ _ _) (by have := h8 i; omega), fun n h => (mem_over.1 h).1⟩)
  have HLN := Lib.hid (fun i j (hi : i ≤ 12) (hj : j ≤ 12) => pairTo_len h8 h12 (i := i) (j := j) hi hj)
  have HH8 := Lib.hid h8
  have HW1 := Lib.hid hb1
  have HL1 := Lib.hid (hl.later hb1)
  clear hl hs h8 hpos hb1
  go_enter Tryz.func130, Tryz.ntmps130
  go_wp2_with fail
  generalize w.alloc (.cells #[.int .i64 k, .slice a R.length cap] 33) = w1 at *
  have HB0 : Hid (Bld 122 5 w1 w1 (.slice none 0 0) (pairTo R 0 0).length (cellsL prV (pairTo R 0 0))) := Lib.hid (Bld.nil 122 5 (Below.refl _ _))
  go_loopw [3, 16] (fun vo vi wr => ∃ i : Nat, i ≤ R.length ∧ vi = .int .i64 (i : Nat) ∧ Bld 122 5 w1 wr vo (pairTo R i 0).length (cellsL prV (pairTo R i 0))) (fun _ vi _ => R.length - (intOf vi).toNat)
  case atStart => exact ⟨0, Nat.zero_le _, rfl, HB0.out⟩
  case round =>
    clear HB0
    obtain ⟨i, hi, rfl, hbd⟩ := hrel
    obtain ⟨ao, co, rfl⟩ := owns_form hbd.1
    by_cases hlt : i < R.length
    · obtain ⟨b, off, rfl, hb, k0, k1⟩ := rule_at HL1.out hbd.2 hlt
      have HXT := Lib.hid (pairTo_next R i)
      have HB := Lib.hid (hbd.later (alloc_belowS wr (.cells #[.string (nthR R i).1, .string (nthR R i).2] 39)))
      have s1 := fun o => (HBX.out _ (Below.now hbd.2 (alloc_belowS wr o))).2
      have HG5 : Hid (BoxL wr.heap.size (nthR R i).1 (wr.alloc (.cells #[.string (nthR R i).1, .string (nthR R i).2] 39)) (.slice ao (pairTo R i 0).length co)) := Lib.hid ⟨(sys_cells (alloc_at wr _)).1, fun x hx => by cases hx; exact ⟨by simp, own_lt hbd (Nat.le_refl _)⟩⟩
      clear hbd
      go_wp2_with fail
      clear s1 k0 k1
      generalize wr.heap.size = g5 at *
      generalize wr.alloc (.cells #[.string (nthR R i).1, .string (nthR R i).2] 39) = w5 at *
      go_loopw [3, 24] (fun vo vj wr => ∃ j : Nat, j ≤ R.length ∧ vj = .int .i64 (j : Nat) ∧ Bld 122 5 w1 wr vo (pairTo R i j).length (cellsL prV (pairTo R i j)) ∧ Hid (BoxL g5 (nthR R i).1 wr vo)) (fun _ vj _ => R.length - (intOf vj).toNat)
      case atStart => exact ⟨0, Nat.zero_le _, rfl, HB.out, HG5⟩
      case round =>
        clear HB HG5
        obtain ⟨j, hj, rfl, hbd, HG5⟩ := hrel
        obtain ⟨a2, c2, rfl⟩ := owns_form hbd.1
        have hln := HLN.out i j (by omega) (by omega)
        by_cases hlr : j < R.length
        · obtain ⟨b', off', e', hb', k0, k1⟩ := rule_at HL1.out hbd.2 hlr
          cases e'
          have HB := Lib.hid (hbd.later (alloc_belowS wr (.cells #[.string (nthR R j).1, .string (nthR R j).2] 39)))
          have q5 := fun o => (HG5.out.later (alloc_belowS wr o)).1
          have HG5a := Lib.hid (HG5.out.later (alloc_belowS wr (.cells #[.string (nthR R j).1, .string (nthR R j).2] 39)))
          have HG7a : Hid (BoxL wr.heap.size (nthR R j).1 (wr.alloc (.cells #[.string (nthR R j).1, .string (nthR R j).2] 39)) (.slice a2 (pairTo R i j).length c2)) := Lib.hid ⟨(sys_cells (alloc_at wr _)).1, fun x hx => by cases hx; exact ⟨by simp, own_lt hbd (Nat.le_refl _)⟩⟩
          have HXS := Lib.hid (pairTo_step R i j)
          obtain ⟨hS8, hO8, hOm⟩ := HPS.out i j
          have HOM := Lib.hid hOm
          have HC1 := Lib.hid (fun W => HPL.out i j W hlr)
          have HC2 := Lib.hid (fun W => HOV.out i j W)
          have HIA := Lib.hid (inT_all R i j)
          have HAA := Lib.hid (acT_all R i j)
          have hi8 := HH8.out i
          have hj8 := HH8.out j
          rw [← HIA.out, ← HAA.out] at HXS
          clear hbd hOm HIA HAA HG5
          generalize hLi : (nthR R i).1 = Li at *
          generalize hLj : (nthR R j).1 = Lj at *
          generalize hRj : (nthR R j).2 = Rj at *
          generalize placesF Li Lj = S at *
          generalize overF Li Lj = O at *
          generalize hX : pairTo R i j = X at *
          clear hX hRj
          go_wp2_with fail
          clear k0 k1 q5
          generalize wr.heap.size = g7 at *
          generalize wr.alloc (.cells #[.string Lj, .string Rj] 39) = w5b at *
          refine (HC1.out _).mono ?_
          rintro e w6 ⟨a6, c6, rfl, ho6, hb6⟩
          have HB6 : Hid (Bld 122 5 w1 w6 (.slice a2 X.length c2) (X ++ inT R i j S 0).length (cellsL prV (X ++ inT R i j S 0))) := Lib.hid (by
            have e0 : inT R i j S 0 = [] := by unfold inT inTo; split <;> rfl
            rw [e0, List.append_nil]
            exact HB.out.later hb6)
          have HG56 := Lib.hid (HG5a.out.later hb6)
          have HG76 := Lib.hid (HG7a.out.later hb6)
          have HN6 : Hid (NumL a6 S w6 (.slice a2 X.length c2)) := Lib.hid ⟨owns_rows ho6, fun x hx => by
            have h1 := ho6.lt x.block (by rw [hx]; rfl)
            exact ⟨h1.2, own_lt HB.out h1.1⟩⟩
          clear ho6 hb6 HB HG5a HG7a HC1
          go_wp2_with fail
          go_loopw [3, 35] (fun vo vq wr => ∃ q : Nat, q ≤ S.length ∧ vq = .int .i64 (q : Nat) ∧ Bld 122 5 w1 wr vo (X ++ inT R i j S q).length (cellsL prV (X ++ inT R i j S q)) ∧ Hid (BoxL g5 Li wr vo) ∧ Hid (BoxL g7 Lj wr vo) ∧ Hid (NumL a6 S wr vo)) (fun _ vq _ => S.length - (intOf vq).toNat)
          case atStart => exact ⟨0, Nat.zero_le _, rfl, HB6.out, HG56, HG76, HN6⟩
          case round =>
            clear HB6 HG56 HG76 HN6
            obtain ⟨q, hq, rfl, hbd, HG5, HG7, HN⟩ := hrel
            obtain ⟨a3, c3, rfl⟩ := owns_form hbd.1
            have hil := inT_len R i j S q
            have hxl : (X ++ inT R i j S q).length ≤ 2504 := by rw [List.length_append]; omega
            by_cases hlq : q < S.length
            · obtain ⟨b2, off2, rfl, hb2, hcs⟩ := RowsIn.cell nV_len (by omega) HN.out.1 hlq
              have c0 : wr.cell? ⟨b2, off2 + q, none⟩ = some (.int .i64 (S[q] : Nat)) := by have h := hcs q hlq 0 _ rfl; rw [Nat.mul_one] at h; exact h
              have d5 := HG5.out.1
              by_cases hij : i = j
              · have HNX : Hid (X ++ inT R i j S (q + 1) = X ++ inT R i j S q) := Lib.hid (by rw [inT_same hij, inT_same hij])
                have g1 : ((j : Int) == (i : Int)) = true := by rw [beq_iff_eq]; omega
                have g2 : ((j : Int) != (i : Int)) = false := by rw [hij]; simp
                have HB := Lib.hid hbd
                clear hij hcs hbd
                generalize X ++ inT R i j S q = Y at *
                go_wp2_with fail
                go_roundw
                case rel => exact ⟨q + 1, by omega, by go_num, by rw [HNX.out]; exact HB.out, HG5, HG7, HN⟩
                case measure => simp [intOf]; omega
              · have HNX : Hid (X ++ inT R i j S (q + 1) = (X ++ inT R i j S q) ++ [(Li, i, j, S[q])]) := Lib.hid (by
                  rw [inT_succ hij hlq, List.append_assoc]
                  unfold inP
                  rw [hLi])
                have g1 : ((j : Int) == (i : Int)) = false := by rw [beq_eq_false_iff_ne]; omega
                have g2 : ((j : Int) != (i : Int)) = true := by rw [bne_iff_ne]; omega
                generalize S[q] = z at *
                have HB2 := Lib.hid (hbd.later (alloc_belowS wr (.cells #[.string Li, .int .i64 (i : Nat), .int .i64 0, .int .i64 (j : Nat), .int .i64 (z : Nat)] 122)))
                have HAL := Lib.hid (alloc_belowS wr (.cells #[.string Li, .int .i64 (i : Nat), .int .i64 0, .int .i64 (j : Nat), .int .i64 (z : Nat)] 122))
                have HN1 : Hid ([Value.string Li, .int .i64 (i : Nat), .int .i64 0, .int .i64 (j : Nat), .int .i64 (z : Nat)].length = 1 * 5) := Lib.hid rfl
                have HN2 : Hid (∀ u ∈ [Value.string Li, .int .i64 (i : Nat), .int .i64 0, .int .i64 (j : Nat), .int .i64 (z : Nat)], u.oneCell' = true) := Lib.hid (fun u hu => by simp at hu; rcases hu with rfl | rfl | rfl | rfl | rfl <;> rfl)
                clear hij hcs hbd
                generalize X ++ inT R i j S q = Y at *
                go_wp2_with (at_builtin; refine wpList_appM rfl (.tmp 42) (.tmp 51) rfl Tryz.underlying77 Tryz.infoPair rfl (by decide) rfl HB2.out rfl (Src.lit _) HN1.out HN2.out ?a1 ?a2 ?a3)
                case a1 => unfold maxLen; omega
                case a2 => omega
                intro v4 w4 hb4 hg4 ho4
                have HB4 : Hid (Bld 122 5 w1 w4 v4 (X ++ inT R i j S (q + 1)).length (cellsL prV (X ++ inT R i j S (q + 1)))) := Lib.hid (by
                  rw [HNX.out, List.length_append, cells_prV]; exact hb4)
                have HG54 := Lib.hid (HG5.out.on HAL.out hg4 (by simpa using ho4))
                have HG74 := Lib.hid (HG7.out.on HAL.out hg4 (by simpa using ho4))
                have HN4 := Lib.hid (HN.out.on HAL.out hg4 (by simpa using ho4))
                obtain ⟨a4, c4, hv4⟩ := owns_form HB4.out.1
                subst hv4
                clear hb4 hg4 ho4 d5 c0
                go_wp2_with fail
                go_roundw
                case rel => exact ⟨q + 1, by omega, by go_num, HB4.out, HG54, HG74, HN4⟩
                case measure => simp [intOf]; omega
            · obtain rfl : q = S.length := by omega
              have d5 := HG5.out.1
              have d7 := HG7.out.1
              have HB := Lib.hid hbd
              clear hbd HN
              rw [← List.append_assoc] at HXS
              generalize X ++ inT R i j S S.length = X2 at *
              go_wp2_with fail
              refine (HC2.out _).mono ?_
              rintro e w8 ⟨a8, c8, rfl, ho8, hb8⟩
              have HB8 : Hid (Bld 122 5 w1 w8 (.slice a3 X2.length c3) (X2 ++ acTo R i j O 0).length (cellsL prV (X2 ++ acTo R i j O 0))) := Lib.hid (by
                have e0 : acTo R i j O 0 = [] := rfl
                rw [e0, List.append_nil]
                exact HB.out.later hb8)
              have HG58 := Lib.hid (HG5.out.later hb8)
              have HG78 := Lib.hid (HG7.out.later hb8)
              have HN8 : Hid (NumL a8 O w8 (.slice a3 X2.length c3)) := Lib.hid ⟨owns_rows ho8, fun x hx => by
                have h1 := ho8.lt x.block (by rw [hx]; rfl)
                exact ⟨h1.2, own_lt HB.out h1.1⟩⟩
              clear ho8 hb8 HB HG5 HG7 HC2 d5 d7
              go_wp2_with fail
              go_loopw [3, 60] (fun vo vq wr => ∃ q : Nat, q ≤ O.length ∧ vq = .int .i64 (q : Nat) ∧ Bld 122 5 w1 wr vo (X2 ++ acTo R i j O q).length (cellsL prV (X2 ++ acTo R i j O q)) ∧ Hid (BoxL g5 Li wr vo) ∧ Hid (BoxL g7 Lj wr vo) ∧ Hid (NumL a8 O wr vo)) (fun _ vq _ => O.length - (intOf vq).toNat)
              case atStart => exact ⟨0, Nat.zero_le _, rfl, HB8.out, HG58, HG78, HN8⟩
              case round =>
                clear HB8 HG58 HG78 HN8
                obtain ⟨q, hq, rfl, hbd, HG5, HG7, HN⟩ := hrel
                obtain ⟨a3, c3, rfl⟩ := owns_form hbd.1
                have hil2 := acTo_len R i j O q
                have hxl2 : (X2 ++ acTo R i j O q).length ≤ 2512 := by rw [List.length_append]; omega
                by_cases hlq : q < O.length
                · obtain ⟨b2, off2, rfl, hb2, hcs⟩ := RowsIn.cell nV_len (by omega) HN.out.1 hlq
                  have c0 : wr.cell? ⟨b2, off2 + q, none⟩ = some (.int .i64 (O[q] : Nat)) := by have h := hcs q hlq 0 _ rfl; rw [Nat.mul_one] at h; exact h
                  have d5 := HG5.out.1
                  have HNX : Hid (X2 ++ acTo R i j O (q + 1) = (X2 ++ acTo R i j O q) ++ [(Li ++ Lj.extract O[q] Lj.size, i, j, Li.size - O[q])]) := Lib.hid (by
                    rw [acTo_succ R i j hlq, acP_eq hLi hLj, List.append_assoc])
                  have hz := HOM.out O[q] (List.getElem_mem hlq)
                  have HB := Lib.hid hbd
                  clear hcs hbd
                  generalize O[q] = z at *
                  have x1 : (Lj.extract z Lj.size).size = Lj.size - z := by rw [ByteArray.size_extract]; omega
                  have x2 : ¬ 9223372036854775807 < Li.size + (Lj.extract z Lj.size).size := by omega
                  have x7 : ¬ 9223372036854775807 < Li.size + (Lj.size - z) := by omega
                  have x8 : Li.size + (Lj.size - z) ≤ 9223372036854775807 := by omega
                  have x3 : (z : Int) ≤ (Lj.size : Int) := by omega
                  have x4 : z ≤ Lj.size := by omega
                  have x5 : (Li.size : Int) - (z : Int) = ((Li.size - z : Nat) : Int) := by omega
                  have x6 : IntKind.i64.wrap ((Li.size : Int) - (z : Int)) = ((Li.size - z : Nat) : Int) := by rw [IntWalk.i64_in _ (by omega)]; omega
                  generalize X2 ++ acTo R i j O q = Y at *
                  generalize hn : Li.size - z = n at *
                  have HAL := Lib.hid (alloc_belowS wr (.cells #[.int .i64 (j : Nat), .int .i64 (n : Nat)] 116))
                  have hcb := sys_cells (alloc_at wr (.cells #[.int .i64 (j : Nat), .int .i64 (n : Nat)] 116))
                  have HB12 := Lib.hid (HB.out.later HAL.out)
                  have e5 := (HG5.out.later HAL.out).1
                  have e7 := (HG7.out.later HAL.out).1
                  have HO12 := Lib.hid (own_lt HB.out (Nat.le_refl _))
                  go_wp2_with fail
                  clear d5 c0
                  obtain ⟨g12, hg12⟩ : ∃ g, g = wr.heap.size := ⟨_, rfl⟩
                  have HE12 := Lib.hid hg12
                  rw [← hg12] at hcb HO12 ⊢
                  clear hg12
                  obtain ⟨w12, hw12⟩ : ∃ W, W = wr.alloc (.cells #[.int .i64 (j : Nat), .int .i64 (n : Nat)] 116) := ⟨_, rfl⟩
                  rw [← hw12] at hcb HAL HB12 e5 e7 ⊢
                  clear hw12
                  obtain ⟨f0, f1⟩ := hcb
                  have HK : Hid (∀ W, Below w12.heap.size w12 W → W.cell? ⟨g5, 0, none⟩ = some (.string Li) ∧ W.cell? ⟨g7, 0, none⟩ = some (.string Lj) ∧ W.cell? ⟨g12, 0, none⟩ = some (.int .i64 (j : Nat)) ∧ W.cell? ⟨g12, 1, none⟩ = some (.int .i64 (n : Nat))) := Lib.hid (fun W hW => ⟨(hW.cell (World.block_lt_of_cell? w12 _ e5)).trans e5, (hW.cell (World.block_lt_of_cell? w12 _ e7)).trans e7, (hW.cell (World.block_lt_of_cell? w12 _ f0)).trans f0, (hW.cell (World.block_lt_of_cell? w12 _ f1)).trans f1⟩)
                  have HN1 : Hid ([Value.string (Li ++ Lj.extract z Lj.size), .int .i64 (i : Nat), .int .i64 0, .int .i64 (j : Nat), .int .i64 (n : Nat)].length = 1 * 5) := Lib.hid rfl
                  have HN2 : Hid (∀ u ∈ [Value.string (Li ++ Lj.extract z Lj.size), .int .i64 (i : Nat), .int .i64 0, .int .i64 (j : Nat), .int .i64 (n : Nat)], u.oneCell' = true) := Lib.hid (fun u hu => by simp at hu; rcases hu with rfl | rfl | rfl | rfl | rfl <;> rfl)
                  have HMX : Hid (Y.length + 1 ≤ maxLen ∧ (Y.length + 1) * 48 ≤ 140737488355328) := Lib.hid ⟨by unfold maxLen; omega, by omega⟩
                  go_region_held3 (fun w' => w'.cell? ⟨g5, 0, none⟩ = some (.string Li) ∧ w'.cell? ⟨g7, 0, none⟩ = some (.string Lj) ∧ w'.cell? ⟨g12, 0, none⟩ = some (.int .i64 (j : Nat)) ∧ w'.cell? ⟨g12, 1, none⟩ = some (.int .i64 (n : Nat))) (go_keep) (first
                    | (refine step_appM rfl (.tmp 71) (.tmp 83) (by rfl) Tryz.underlying77 Tryz.infoPair rfl (by decide) (by rfl) (HB12.out.later (by repeat (first | exact Below.refl _ _ | refine Below.drew ?_ | refine below_drewN ?_ _ | refine Below.alloc ?_ (by first | (simp; done) | (simp; omega)) _))) (by rfl) (Src.lit _) HN1.out HN2.out HMX.out.1 HMX.out.2 ?_; intro v4 w4 hb4 hg4 ho4; have HG54 : Hid (BoxL g5 Li w4 v4) := Lib.hid (HG5.out.on (Below.now HAL.out (by repeat (first | exact Below.refl _ _ | refine Below.drew ?_ | refine below_drewN ?_ _ | refine Below.alloc ?_ (by first | (simp; done) | (simp; omega)) _))) hg4 ho4); have HG74 : Hid (BoxL g7 Lj w4 v4) := Lib.hid (HG7.out.on (Below.now HAL.out (by repeat (first | exact Below.refl _ _ | refine Below.drew ?_ | refine below_drewN ?_ _ | refine Below.alloc ?_ (by first | (simp; done) | (simp; omega)) _))) hg4 ho4); have HN4 : Hid (NumL (some ⟨b2, off2, none⟩) O w4 v4) := Lib.hid (HN.out.on (Below.now HAL.out (by repeat (first | exact Below.refl _ _ | refine Below.drew ?_ | refine below_drewN ?_ _ | refine Below.alloc ?_ (by first | (simp; done) | (simp; omega)) _))) hg4 ho4); have HB4 := Lib.hid hb4; have t0 : w4.cell? ⟨g5, 0, none⟩ = some (.string Li) := HG54.out.1; have t1 : w4.cell? ⟨g7, 0, none⟩ = some (.string Lj) := HG74.out.1; have t2 : w4.cell? ⟨g12, 0, none⟩ = some (.int .i64 (j : Nat)) := hg4.cell (HK.out _ (by repeat (first | exact Below.refl _ _ | refine Below.drew ?_ | refine below_drewN ?_ _ | refine Below.alloc ?_ (by first | (simp; done) | (simp; omega)) _))).2.2.1 HO12.out; have t3 : w4.cell? ⟨g12, 1, none⟩ = some (.int .i64 (n : Nat)) := hg4.cell (HK.out _ (by repeat (first | exact Below.refl _ _ | refine Below.drew ?_ | refine below_drewN ?_ _ | refine Below.alloc ?_ (by first | (simp; done) | (simp; omega)) _))).2.2.2 HO12.out; clear hb4 hg4 ho4))
                  all_goals
                    have HB5 : Hid (Bld 122 5 w1 w4 v4 (X2 ++ acTo R i j O (q + 1)).length (cellsL prV (X2 ++ acTo R i j O (q + 1)))) := Lib.hid (by
                      rw [HNX.out, List.length_append, cells_prV]; exact HB4.out)
                    obtain ⟨a4, c4, hv4⟩ := owns_form HB5.out.1
                    subst hv4
                    clear HB4 t0 t1 t2 t3 f0 f1 e5 e7
                    go_wp2_with fail
                    go_roundw
                    case rel => exact ⟨q + 1, by omega, by go_num, HB5.out, HG54, HG74, HN4⟩
                    case measure => simp [intOf]; omega
                · obtain rfl : q = O.length := by omega
                  have HB9 : Hid (Bld 122 5 w1 wr (.slice a3 (X2 ++ acTo R i j O O.length).length c3) (pairTo R i (j + 1)).length (cellsL prV (pairTo R i (j + 1)))) := Lib.hid (by rw [HXS.out]; exact hbd)
                  clear hbd HN
                  generalize X2 ++ acTo R i j O O.length = Y at *
                  go_wp2_with fail
                  go_roundw
                  case rel => exact ⟨j + 1, by omega, by go_num, HB9.out, HG5⟩
                  case measure => simp [intOf]; omega
        · obtain rfl : j = R.length := by omega
          have HB2 : Hid (Bld 122 5 w1 wr (.slice a2 (pairTo R i R.length).length c2) (pairTo R (i + 1) 0).length (cellsL prV (pairTo R (i + 1) 0))) := Lib.hid (by rw [← HXT.out]; exact hbd)
          clear hbd
          go_wp2_with fail
          go_roundw
          case rel => exact ⟨i + 1, by omega, by go_num, HB2.out⟩
          case measure => simp [intOf]; omega
    · obtain rfl : i = R.length := by omega
      have F : Hid (RetSl 122 5 (pairsF R).length (cellsL prV (pairsF R)) w (.returned (.slice ao (pairTo R R.length 0).length co)) wr) := Lib.hid (by
        rw [pairTo_done] at hbd ⊢
        exact ((hbd.since HW1.out).ret))
      clear hbd
      go_wp2_with fail
      go_ret
      exact F.out
end Go.Proofs.YtgoeadgpbidgiaaGreatDoor
namespace Go.Proofs.YtgoeadgpbidgiaaGreatDoor
open Go.RowKit
set_option linter.unusedVariables false
set_option maxRecDepth 100000 in
set_option maxHeartbeats 2000000 in
theorem implSidesOf_any (k : Int) (R : List RulD) (a : Option Addr) (cap : Nat) (p : PairD) (w : World) (hl : RulesIn w a R) (hs : sysP k R) (hp : PairOk R k p) :
    Calls Tryz.prog 137 #[.agg #[.int .i64 k, .slice a R.length cap], pairVal p] w fun e w' => e = .returned (.tuple #[.string (leftP R p), .string (rightP R p), .bool true]) ∧ Below w.heap.size w w' := by
  have HL := Lib.hid hl
  have HSO := Lib.hid (fun W h => implSystemOk_any k R a cap W h (by have := hs.1.1.2; omega) (szR_of hs))
  have HYES := Lib.hid hs
  have H1 := Lib.hid (fun W h => implApplyStep_any k R a cap p.1 p.2.1 0 W h hs (wdP_of hp.word).len hp.one)
  have H2 := Lib.hid (fun W h => implApplyStep_any k R a cap p.1 p.2.2.1 p.2.2.2 W h hs (wdP_of hp.word).len hp.two)
  have HLP : Hid (applyF R p.1 (p.2.1, 0) = leftP R p) := Lib.hid rfl
  have HRP : Hid (applyF R p.1 (p.2.2.1, p.2.2.2) = rightP R p) := Lib.hid rfl
  rw [HLP.out] at H1
  rw [HRP.out] at H2
  have HPO : Hid (Obj.cells #[.string p.1, .int .i64 (p.2.1 : Nat), .int .i64 0, .int .i64 (p.2.2.1 : Nat), .int .i64 (p.2.2.2 : Nat)] 122 = pairObj p) := Lib.hid rfl
  clear hl hs hp HLP HRP
  unfold pairVal
  generalize leftP R p = lp at *
  generalize rightP R p = rp at *
  have e1 : (w.alloc (.cells #[.int .i64 k, .slice a R.length cap] 33)).heap.size = w.heap.size + 1 := by simp
  have hbb := alloc_belowS (w.alloc (.cells #[.int .i64 k, .slice a R.length cap] 33)) (pairObj p)
  have HB0 := Lib.hid (Below.now (alloc_belowS w (.cells #[.int .i64 k, .slice a R.length cap] 33)) hbb)
  have HBX := Lib.hid (fun W2 (h : Below ((w.alloc (.cells #[.int .i64 k, .slice a R.length cap] 33)).alloc (pairObj p)).heap.size ((w.alloc (.cells #[.int .i64 k, .slice a R.length cap] 33)).alloc (pairObj p)) W2) => And.intro (box_two (Below.now hbb h)) (pairAt_box h))
  rw [e1] at HBX
  unfold PairAt at HBX
  clear hbb e1
  go_enter Tryz.func137, Tryz.ntmps137
  go_wp2_with fail
  rw [HPO.out]
  generalize (w.alloc (.cells #[.int .i64 k, .slice a R.length cap] 33)).alloc (pairObj p) = w1 at *
  refine (HSO.out _ (HL.out.later HB0.out)).mono ?_
  rintro e w2 ⟨bb, hbb, rfl, hb2⟩
  obtain rfl := hbb.2 HYES.out
  have HW2 := Lib.hid (Below.now HB0.out hb2)
  have HB2 := Lib.hid hb2
  obtain ⟨⟨s0, s1⟩, q0, q1, q2, q3, q4⟩ := HBX.out w2 hb2
  clear hbb hb2 HSO HPO
  obtain ⟨u, x, y, z⟩ := p
  go_wp2_with fail
  refine (H1.out _ (HL.out.later HW2.out)).mono ?_
  rintro e w3 ⟨rfl, hb3⟩
  have HW3 := Lib.hid (Below.now HW2.out hb3)
  have HB3 := Lib.hid (Below.now HB2.out hb3)
  obtain ⟨⟨t0, t1⟩, p0, p1, p2, p3, p4⟩ := HBX.out w3 HB3.out
  clear hb3 s0 s1 q0 q1 q2 q3 q4
  go_wp2_with fail
  refine (H2.out _ (HL.out.later HW3.out)).mono ?_
  rintro e w4 ⟨rfl, hb4⟩
  have HW4 := Lib.hid (Below.now HW3.out hb4)
  have F : Hid (∀ W, Below w.heap.size w W → Ending.returned (.tuple #[.string lp, .string rp, .bool true]) = .returned (.tuple #[.string lp, .string rp, .bool true]) ∧ Below w.heap.size w W) := Lib.hid (fun W h => ⟨rfl, h⟩)
  clear hb4 t0 t1 p0 p1 p2 p3 p4
  go_wp2_with fail
  refine bodyPost_ret (v := .tuple #[.string lp, .string rp, .bool true]) ?_ rfl ⟨rfl, HW4.out⟩
  simp [results, Tryz.results137, go_sem]
set_option maxRecDepth 100000 in
set_option maxHeartbeats 2000000 in
theorem implIsJoined_any (k : Int) (R : List RulD) (a : Option Addr) (cap : Nat) (p : PairD) (w : World) (hl : RulesIn w a R) (hs : sysP k R) (hp : PairOk R k p) :
    Calls Tryz.prog 93 #[.agg #[.int .i64 k, .slice a R.length cap], pairVal p] w (RetP (Joined R p) w) := by
  have HL := Lib.hid hl
  have HSD := Lib.hid (fun W h => implSidesOf_any k R a cap p W h hs hp)
  have HN1 := Lib.hid (fun W h => implNormalForm_ok k R a cap (leftP R p) W h hs (left_word hs hp))
  have HN2 := Lib.hid (fun W h => implNormalForm_ok k R a cap (rightP R p) W h hs (right_word hs hp))
  have HJ := Lib.hid (fun x y h1 h2 => joined_iff (R := R) (p := p) (x := x) (y := y) h1 h2)
  have HPO : Hid (Obj.cells #[.string p.1, .int .i64 (p.2.1 : Nat), .int .i64 0, .int .i64 (p.2.2.1 : Nat), .int .i64 (p.2.2.2 : Nat)] 122 = pairObj p) := Lib.hid rfl
  clear hl hs hp
  unfold pairVal at HSD
  unfold pairVal
  generalize leftP R p = lp at *
  generalize rightP R p = rp at *
  have e1 : (w.alloc (.cells #[.int .i64 k, .slice a R.length cap] 33)).heap.size = w.heap.size + 1 := by simp
  have hbb := alloc_belowS (w.alloc (.cells #[.int .i64 k, .slice a R.length cap] 33)) (pairObj p)
  have HB0 := Lib.hid (Below.now (alloc_belowS w (.cells #[.int .i64 k, .slice a R.length cap] 33)) hbb)
  have HBX := Lib.hid (fun W2 (h : Below ((w.alloc (.cells #[.int .i64 k, .slice a R.length cap] 33)).alloc (pairObj p)).heap.size ((w.alloc (.cells #[.int .i64 k, .slice a R.length cap] 33)).alloc (pairObj p)) W2) => (box_two (Below.now hbb h)))
  clear hbb e1
  go_enter Tryz.func93, Tryz.ntmps93
  go_wp2_with fail
  rw [HPO.out]
  generalize (w.alloc (.cells #[.int .i64 k, .slice a R.length cap] 33)).alloc (pairObj p) = w1 at *
  refine (HSD.out _ (HL.out.later HB0.out)).mono ?_
  rintro e w2 ⟨rfl, hb2⟩
  have HB2 := Lib.hid hb2
  obtain ⟨s0, s1⟩ := HBX.out w2 hb2
  clear hb2 HSD HPO
  go_wp2_with fail
  refine (HN1.out _ (HL.out.later (Below.now HB0.out HB2.out))).mono ?_
  rintro e w3 ⟨x, hx, rfl, hb3⟩
  have HX := Lib.hid hx
  have HB3 := Lib.hid (Below.now HB2.out hb3)
  obtain ⟨t0, t1⟩ := HBX.out w3 HB3.out
  clear hb3 hx s0 s1
  go_wp2_with fail
  refine (HN2.out _ (HL.out.later (Below.now HB0.out HB3.out))).mono ?_
  rintro e w4 ⟨y, hy, rfl, hb4⟩
  have F : Hid (RetP (Joined R p) w (.returned (.bool (x.toList == y.toList))) w4) := Lib.hid ⟨_, ⟨fun h => (HJ.out x y HX.out hy).2 (bytes_eq.1 h), fun h => bytes_eq.2 ((HJ.out x y HX.out hy).1 h)⟩, rfl, Below.now HB0.out (Below.now HB3.out hb4)⟩
  clear hb4 hy t0 t1
  go_wp2_with fail
  go_ret
  exact F.out
set_option maxHeartbeats 1000000 in
theorem implPairsOf_any (k : Int) (R : List RulD) (a : Option Addr) (cap : Nat) (w : World) (hl : RulesIn w a R) (hs : sysP k R) :
    Calls Tryz.prog 91 #[.agg #[.int .i64 k, .slice a R.length cap]] w (RetSl 122 5 (pairsF R).length (cellsL prV (pairsF R)) w) := by
  have HL := Lib.hid hl
  have HSO := Lib.hid (fun W h => implSystemOk_any k R a cap W h (by have := hs.1.1.2; omega) (szR_of hs))
  have HYES := Lib.hid hs
  have HPF := Lib.hid (fun W h => implPairs_any k R a cap W h hs)
  have HBX := Lib.hid (fun W2 (h : Below (w.alloc (.cells #[.int .i64 k, .slice a R.length cap] 33)).heap.size (w.alloc (.cells #[.int .i64 k, .slice a R.length cap] 33)) W2) => box_two h)
  have HA := Lib.hid (fun o => alloc_belowS w o)
  clear hl hs
  go_enter Tryz.func91, Tryz.ntmps91
  go_wp2_with fail
  refine (HSO.out _ (HL.out.later (HA.out _))).mono ?_
  rintro e w1 ⟨bb, hbb, rfl, hb1⟩
  obtain rfl := hbb.2 HYES.out
  obtain ⟨s0, s1⟩ := HBX.out _ hb1
  have HW1 := Lib.hid (Below.now (HA.out _) hb1)
  clear hbb hb1
  go_wp2_with fail
  refine (HPF.out _ (HL.out.later HW1.out)).mono ?_
  rintro e w2 ⟨a2, c2, rfl, ho, hb2⟩
  have F : Hid (RetSl 122 5 (pairsF R).length (cellsL prV (pairsF R)) w (.returned (.slice a2 (pairsF R).length c2)) w2) := Lib.hid ⟨a2, c2, rfl, owns_mono ho HW1.out.size, Below.now HW1.out hb2⟩
  clear ho hb2
  go_wp2_with fail
  go_ret
  exact F.out
end Go.Proofs.YtgoeadgpbidgiaaGreatDoor
namespace Go.Proofs.YtgoeadgpbidgiaaGreatDoor
open Go.RowKit
set_option linter.unusedVariables false
/-- clear of a part of a slice whose elements have several cells -/
theorem run_clear_rows {P : Program} (w : World) (t e ty : TypeId) (z : Value) (ht : P.underlying t = some (.slice e)) (hv : ∀ w, (zeroValue e).run P w = .ok z w) (b o n c : Nat) (hn : 0 < n) (zs : List Value) (hzs : (Builtin.zeroCells z.cells n).toList = zs) (h1 : ∀ v ∈ zs, v.oneCell' = true)
    (hc : ∀ j, j < zs.length → (w.cell? ⟨b, o + j, none⟩).isSome = true) (hf : ∀ j, j < zs.length → w.frozen? ⟨b, o + j, none⟩ = false) :
    (Builtin.clear_ #[t] ty #[.slice (some ⟨b, o, none⟩) n c]).run P w = .ok (.tuple #[]) (w.setCells b o zs) := by
  have hst := run_storeCells_cells (P := P) b o zs 0 w (by simpa using hc) (by simpa using hf) h1
  simp only [Nat.add_zero] at hst
  obtain ⟨m, rfl⟩ : ∃ m, n = m + 1 := ⟨n - 1, by omega⟩
  simp [Builtin.clear_, run_underlying ht, hv, hzs, hst]
/-- what is asked of the function -/
def PredP (R : List RulD) (g : Nat) (caps : Array Value) (S : List PairD) (B : Nat) (w : World) : Prop := ∀ j (h : j < S.length), ∀ W, Below B w W → Calls Tryz.prog g (#[pairVal S[j]] ++ caps) W (RetP (Joined R S[j]) W)
/-- what IndexFunc hands back -/
def RetIxP (R : List RulD) (S : List PairD) (w : World) (e : Ending) (w' : World) : Prop :=
  Below w.heap.size w w' ∧ ((openL R S = S ∧ e = .returned (.int .i64 (-1))) ∨ ∃ (i : Nat) (h : i < S.length), openL R (S.take i) = S.take i ∧ Joined R S[i] ∧ e = .returned (.int .i64 (i : Nat)))
set_option maxRecDepth 100000 in
set_option maxHeartbeats 2000000 in
theorem indexPairs_any (R : List RulD) (g : Nat) (caps : Array Value) (S : List PairD) (a : Option Addr) (cap : Nat) (w : World) (hl : RowsIn prV w a S) (hlen : S.length ≤ 5000) (B : Nat) (hB : B ≤ w.heap.size) (hf : PredP R g caps S B w) (eg : ∀ args w, (callFunc g args).run Tryz.prog w = .ok (.enter g args) w) :
    Calls Tryz.prog 136 #[.slice a S.length cap, .func (.func g) #[] caps] w (RetIxP R S w) := by
  have HF := Lib.hid hf
  have HL := Lib.hid hl
  clear hf hl
  go_enter Tryz.func136, Tryz.ntmps136
  go_wp2_with fail
  go_loopw [8] (fun i wr => ∃ j : Nat, j ≤ S.length ∧ i = .int .i64 j ∧ Hid (openL R (S.take j) = S.take j) ∧ Below w.heap.size w wr) (fun i _ => S.length - (intOf i).toNat)
  case atStart => exact ⟨0, Nat.zero_le _, rfl, Lib.hid rfl, Below.refl _ _⟩
  case round =>
    obtain ⟨j, hj, rfl, HNO, hbw⟩ := hrel
    have HBW := Lib.hid hbw
    by_cases hlt : j < S.length
    · obtain ⟨b2, off2, rfl, hb2, hcs⟩ := RowsIn.cell prV_len (by omega) (HL.out.later hbw) hlt
      have c0 : wr.cell? ⟨b2, off2 + j * 5, none⟩ = some (.string S[j].1) := hcs j hlt 0 _ rfl
      have c1 : wr.cell? ⟨b2, off2 + j * 5 + 1, none⟩ = some (.int .i64 (S[j].2.1 : Nat)) := hcs j hlt 1 _ rfl
      have c2 : wr.cell? ⟨b2, off2 + j * 5 + 2, none⟩ = some (.int .i64 0) := hcs j hlt 2 _ rfl
      have c3 : wr.cell? ⟨b2, off2 + j * 5 + 3, none⟩ = some (.int .i64 (S[j].2.2.1 : Nat)) := hcs j hlt 3 _ rfl
      have c4 : wr.cell? ⟨b2, off2 + j * 5 + 4, none⟩ = some (.int .i64 (S[j].2.2.2 : Nat)) := hcs j hlt 4 _ rfl
      have HC := Lib.hid (HF.out j hlt wr (hbw.mono hB))
      have HYES : Hid (Joined R S[j] → RetIxP R S w (.returned (.int .i64 (j : Nat))) = RetIxP R S w (.returned (.int .i64 (j : Nat)))) := Lib.hid (fun _ => rfl)
      have HT := Lib.hid (openL_take (R := R) hlt)
      have HTS : Hid (S.take (j + 1) = S.take j ++ [S[j]]) := Lib.hid (List.take_succ_eq_append_getElem hlt)
      have HRI : Hid (∀ W, Joined R S[j] → Below w.heap.size w W → RetIxP R S w (.returned (.int .i64 (j : Nat))) W) := Lib.hid (fun W h hb => ⟨hb, .inr ⟨j, hlt, HNO.out, h, rfl⟩⟩)
      unfold pairVal at HC
      clear hcs hbw HYES
      generalize S[j] = p at *
      obtain ⟨u, x, y, z⟩ := p
      go_wp2_with fail
      refine HC.out.mono ?_
      rintro e w5 ⟨bb, hbb, rfl, hb5⟩
      have HB5 := Lib.hid (Below.now HBW.out hb5)
      have HBB := Lib.hid hbb
      clear hb5 hbb c0 c1 c2 c3 c4 HC
      cases bb
      · have HNY : Hid (openL R (S.take (j + 1)) = S.take (j + 1)) := Lib.hid (by
          rw [HT.out, HNO.out, openL_no (fun h => by have := HBB.out.2 h; cases this), HTS.out])
        go_wp2_with fail
        go_roundw
        case rel => exact ⟨j + 1, by omega, by go_num, HNY, HB5.out⟩
        case measure => simp [intOf]; omega
      · have F := Lib.hid (HRI.out _ (HBB.out.1 rfl) HB5.out)
        go_wp2_with fail
        go_ret
        exact F.out
    · obtain rfl : j = S.length := by omega
      have F : Hid (RetIxP R S w (.returned (.int .i64 (-1))) wr) := Lib.hid ⟨hbw, .inl ⟨by have h := HNO.out; rw [List.take_length] at h; exact h, rfl⟩⟩
      go_wp2_with fail
      go_ret
      exact F.out
/-- a row of pairs of which some are being deleted: those from j on are as they were -/
def DelP (w wr : World) (base g n cap : Nat) (S : List PairD) (j : Nat) : Prop :=
  ∃ xs, wr.ownsRow base 122 5 (.slice (some ⟨g, 0, none⟩) n cap) n xs ∧ xs.drop (j * 5) = (cellsL prV S).drop (j * 5) ∧ Below base w wr ∧ n = S.length
theorem DelP.cell {w wr : World} {base g n cap : Nat} {S : List PairD} {j : Nat} (h : DelP w wr base g n cap S j) (hj : j < S.length) {c : Nat} {v : Value} (hv : (prV S[j])[c]? = some v) : wr.cell? ⟨g, j * 5 + c, none⟩ = some v := by
  obtain ⟨xs, ho, hd, hb, rfl⟩ := h
  have h1 := ho.1
  have hc : c < 5 := (List.getElem?_eq_some_iff.1 hv).1
  rw [ho.cellAt (j * 5 + c) (by omega)]
  have h2 : (xs.drop (j * 5))[c]? = ((cellsL prV S).drop (j * 5))[c]? := by rw [hd]
  rw [List.getElem?_drop, List.getElem?_drop, cellsL_at prV_len S j hj c hc, hv] at h2
  exact h2
theorem DelP.there {w wr : World} {base g n cap : Nat} {S : List PairD} {j : Nat} (h : DelP w wr base g n cap S j) {i : Nat} (hi : i < n * 5) : ∃ v, wr.cell? ⟨g, i, none⟩ = some v := by
  obtain ⟨xs, ho, _⟩ := h
  have h1 := ho.1
  exact ⟨xs[i]'(by omega), by rw [ho.cellAt i (by omega), List.getElem?_eq_getElem]⟩
theorem DelP.frozen {w wr : World} {base g n cap : Nat} {S : List PairD} {j : Nat} (h : DelP w wr base g n cap S j) (i : Nat) : wr.frozen? ⟨g, i, none⟩ = false := by
  obtain ⟨xs, ho, _⟩ := h
  exact ho.frozenAt i
theorem DelP.base {w wr : World} {base g n cap : Nat} {S : List PairD} {j : Nat} (h : DelP w wr base g n cap S j) : base ≤ g := by
  obtain ⟨xs, ho, _⟩ := h
  exact (ho.lt g rfl).1
theorem DelP.later {w wr wr' : World} {base g n cap : Nat} {S : List PairD} {j : Nat} (h : DelP w wr base g n cap S j) (hb' : Below wr.heap.size wr wr') (hbase : base ≤ w.heap.size) : DelP w wr' base g n cap S j := by
  obtain ⟨xs, ho, hd, hb, hn⟩ := h
  exact ⟨xs, owns_later ho hb', hd, hb.trans (hb'.mono (Nat.le_trans hbase hb.size)), hn⟩
theorem DelP.skip {w wr : World} {base g n cap : Nat} {S : List PairD} {j : Nat} (h : DelP w wr base g n cap S j) : DelP w wr base g n cap S (j + 1) := by
  obtain ⟨xs, ho, hd, hb, hn⟩ := h
  refine ⟨xs, ho, ?_, hb, hn⟩
  rw [Nat.succ_mul, ← List.drop_drop, ← List.drop_drop, hd]
theorem DelP.set {w wr : World} {base g n cap : Nat} {S : List PairD} {j : Nat} (h : DelP w wr base g n cap S j) {i : Nat} (hi : i < j * 5) (u : Value) : DelP w (wr.setCell ⟨g, i, none⟩ u) base g n cap S j := by
  have hbg := h.base
  obtain ⟨xs, ho, hd, hb, hn⟩ := h
  refine ⟨xs.set i u, (ho.stored _ _).1, ?_, hb.setCell hbg _, hn⟩
  rw [List.drop_set_of_lt (by omega), hd]
theorem DelP.fill {w : World} {base g n cap : Nat} {S : List PairD} {j : Nat} : ∀ (zs : List Value) (o : Nat) (wr : World), DelP w wr base g n cap S j → o + zs.length ≤ j * 5 → Below base w (wr.setCells g o zs)
  | [], o, wr, h, _ => by obtain ⟨xs, ho, hd, hb, hn⟩ := h; exact hb
  | z :: zs, o, wr, h, hz => DelP.fill zs (o + 1) _ (h.set (by simp at hz; omega) z) (by simp at hz; omega)
theorem Tryz.zeroPair (w : World) : (zeroValue 122).run Tryz.prog w = .ok (.agg #[.string ⟨#[]⟩, .int .i64 0, .int .i64 0, .int .i64 0, .int .i64 0]) w := by kernel_rfl
theorem zero_one (n : Nat) : ((Builtin.zeroCells #[.string ⟨#[]⟩, .int .i64 0, .int .i64 0, .int .i64 0, .int .i64 0] n).toList.length = n * 5) ∧ ∀ v ∈ (Builtin.zeroCells #[.string ⟨#[]⟩, .int .i64 0, .int .i64 0, .int .i64 0, .int .i64 0] n).toList, v.oneCell' = true := by
  unfold Builtin.zeroCells
  refine ⟨by simp, fun v hv => ?_⟩
  simp only [Array.toList_map, List.mem_map] at hv
  obtain ⟨i, _, rfl⟩ := hv
  have h : i % 5 = 0 ∨ i % 5 = 1 ∨ i % 5 = 2 ∨ i % 5 = 3 ∨ i % 5 = 4 := by omega
  have e : (#[Value.string ⟨#[]⟩, .int .i64 0, .int .i64 0, .int .i64 0, .int .i64 0] : Array Value).size = 5 := rfl
  rw [e]
  rcases h with h | h | h | h | h <;> rw [h] <;> rfl
end Go.Proofs.YtgoeadgpbidgiaaGreatDoor
