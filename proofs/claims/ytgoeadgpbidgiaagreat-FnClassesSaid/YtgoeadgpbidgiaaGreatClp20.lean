/-
  A search for all words that are linked with a word, as plain data.
-/
import Derived.Test.YtgoeadgpbidgiaaGreatClp16
import Derived.Test.YtgoeadgpbidgiaaGreatClp06
import Derived.Test.YtgoeadgpbidgiaaGreatClp19
import Derived.Test.YtgoeadgpbidgiaaGreatClp14
import Derived.Test.YtgoeadgpbidgiaaGreatClp08
namespace Go.Proofs.YtgoeadgpbidgiaaGreat
open Go.RowKit
set_option linter.unusedVariables false
theorem Tryz.infoLinkS : (Tryz.prog.info? 83).map (fun i => (i.zero, i.size, i.bytes)) = some (some (.agg #[.int .i64 0, .int .i64 0, .bool false]), 3, 24) := by kernel_rfl
abbrev LkD := Nat × Nat × Bool
def lkV (x : LkD) : List Value := [.int .i64 (x.1 : Nat), .int .i64 (x.2.1 : Nat), .bool x.2.2]
theorem lkV_len (x : LkD) : (lkV x).length = 3 := rfl
/-- a link that can be applied, to a word of at most n letters -/
def lkOk (R : List RulD) (n : Nat) (w0 : ByteArray) (i p : Nat) (b : Bool) : Bool := lkB R w0 i p b && decide ((lkW R w0 i p b).size ≤ n)
def lkOne (R : List RulD) (n : Nat) (w0 : ByteArray) (i p : Nat) (b : Bool) : List LkD := if lkOk R n w0 i p b = true then [(i, p, b)] else []
def bitN (j : Nat) : Bool := j == 1
/-- those at a place with a rule, at a place, at places -/
def lkBs (R : List RulD) (n : Nat) (w0 : ByteArray) (p i j : Nat) : List LkD := (List.range j).flatMap fun j => lkOne R n w0 i p (bitN j)
def lkIs (R : List RulD) (n : Nat) (w0 : ByteArray) (p i : Nat) : List LkD := (List.range i).flatMap fun i => lkBs R n w0 p i 2
def lkPs (R : List RulD) (n : Nat) (w0 : ByteArray) (p : Nat) : List LkD := (List.range p).flatMap fun p => lkIs R n w0 p R.length
def linksF (R : List RulD) (n : Nat) (w0 : ByteArray) : List LkD := lkPs R n w0 (w0.size + 1)
theorem flat_succ {α : Type} (f : Nat → List α) (i : Nat) : (List.range (i + 1)).flatMap f = (List.range i).flatMap f ++ f i := by
  rw [List.range_succ, List.flatMap_append]; simp
theorem lkBs_succ (R : List RulD) (n : Nat) (w0 : ByteArray) (p i j : Nat) : lkBs R n w0 p i (j + 1) = lkBs R n w0 p i j ++ lkOne R n w0 i p (bitN j) := flat_succ _ _
theorem lkIs_succ (R : List RulD) (n : Nat) (w0 : ByteArray) (p i : Nat) : lkIs R n w0 p (i + 1) = lkIs R n w0 p i ++ lkBs R n w0 p i 2 := flat_succ _ _
theorem lkPs_succ (R : List RulD) (n : Nat) (w0 : ByteArray) (p : Nat) : lkPs R n w0 (p + 1) = lkPs R n w0 p ++ lkIs R n w0 p R.length := flat_succ _ _
theorem lkOne_len (R : List RulD) (n : Nat) (w0 : ByteArray) (i p : Nat) (b : Bool) : (lkOne R n w0 i p b).length ≤ 1 := by
  unfold lkOne; split <;> simp
theorem flat_le {α : Type} (f : Nat → List α) (c : Nat) (h : ∀ i, (f i).length ≤ c) : ∀ n, ((List.range n).flatMap f).length ≤ n * c
  | 0 => by simp
  | n + 1 => by
    rw [flat_succ, List.length_append, Nat.succ_mul]
    have h1 := flat_le f c h n
    have h2 := h n
    omega
theorem lkBs_len (R : List RulD) (n : Nat) (w0 : ByteArray) (p i j : Nat) : (lkBs R n w0 p i j).length ≤ j * 1 := flat_le _ 1 (fun _ => lkOne_len _ _ _ _ _ _) _
theorem lkIs_len (R : List RulD) (n : Nat) (w0 : ByteArray) (p i : Nat) : (lkIs R n w0 p i).length ≤ i * 2 := flat_le _ 2 (fun _ => by have := lkBs_len R n w0 p ‹_› 2; omega) _
theorem lkPs_len (R : List RulD) (n : Nat) (w0 : ByteArray) (p : Nat) : (lkPs R n w0 p).length ≤ p * (R.length * 2) := flat_le _ _ (fun _ => lkIs_len _ _ _ _ _) _
def st2 (R : List RulD) (n : Nat) (w0 : ByteArray) (p i : Nat) : List LkD := lkPs R n w0 p ++ lkIs R n w0 p i
def st3 (R : List RulD) (n : Nat) (w0 : ByteArray) (p i j : Nat) : List LkD := st2 R n w0 p i ++ lkBs R n w0 p i j
theorem st2_zero (R : List RulD) (n : Nat) (w0 : ByteArray) (p : Nat) : st2 R n w0 p 0 = lkPs R n w0 p := List.append_nil _
theorem st2_full (R : List RulD) (n : Nat) (w0 : ByteArray) (p : Nat) : st2 R n w0 p R.length = lkPs R n w0 (p + 1) := (lkPs_succ R n w0 p).symm
theorem st3_zero (R : List RulD) (n : Nat) (w0 : ByteArray) (p i : Nat) : st3 R n w0 p i 0 = st2 R n w0 p i := List.append_nil _
theorem st3_full (R : List RulD) (n : Nat) (w0 : ByteArray) (p i : Nat) : st3 R n w0 p i 2 = st2 R n w0 p (i + 1) := by unfold st3 st2; rw [lkIs_succ, List.append_assoc]
theorem st3_succ (R : List RulD) (n : Nat) (w0 : ByteArray) (p i j : Nat) : st3 R n w0 p i (j + 1) = st3 R n w0 p i j ++ lkOne R n w0 i p (bitN j) := by unfold st3; rw [lkBs_succ, List.append_assoc]
theorem lk_room {R : List RulD} (hR : R.length ≤ 12) {n : Nat} {w0 : ByteArray} {p i j : Nat} (hp : p ≤ 9) (hi : i ≤ R.length) (hj : j ≤ 2) : (st3 R n w0 p i j).length ≤ 300 := by
  unfold st3 st2
  rw [List.length_append, List.length_append]
  have h1 := lkPs_len R n w0 p
  have h2 := lkIs_len R n w0 p i
  have h3 := lkBs_len R n w0 p i j
  have h4 : p * (R.length * 2) ≤ 9 * 24 := Nat.mul_le_mul hp (by omega)
  omega
theorem mem_links {R : List RulD} {n : Nat} {w0 : ByteArray} {x : LkD} : x ∈ linksF R n w0 ↔ x.2.1 ≤ w0.size ∧ x.1 < R.length ∧ lkOk R n w0 x.1 x.2.1 x.2.2 = true := by
  unfold linksF lkPs lkIs lkBs lkOne
  constructor
  · intro h
    obtain ⟨p, hp, h⟩ := List.mem_flatMap.1 h
    obtain ⟨i, hi, h⟩ := List.mem_flatMap.1 h
    obtain ⟨j, hj, h⟩ := List.mem_flatMap.1 h
    split at h
    · rename_i hok
      rw [List.mem_singleton.1 h]
      exact ⟨by have := List.mem_range.1 hp; show p ≤ _; omega, List.mem_range.1 hi, hok⟩
    · cases h
  · rintro ⟨h1, h2, h3⟩
    refine List.mem_flatMap.2 ⟨x.2.1, List.mem_range.2 (by omega), List.mem_flatMap.2 ⟨x.1, List.mem_range.2 h2, ?_⟩⟩
    cases hb : x.2.2
    · refine List.mem_flatMap.2 ⟨0, List.mem_range.2 (by omega), ?_⟩
      rw [hb] at h3
      rw [show bitN 0 = false from rfl, if_pos h3]
      exact List.mem_singleton.2 (by rw [← hb])
    · refine List.mem_flatMap.2 ⟨1, List.mem_range.2 (by omega), ?_⟩
      rw [hb] at h3
      rw [show bitN 1 = true from rfl, if_pos h3]
      exact List.mem_singleton.2 (by rw [← hb])
set_option maxRecDepth 100000 in
set_option maxHeartbeats 4000000 in
theorem links_any (k : Int) (R : List RulD) (a : Option Addr) (cap : Nat) (w0 : ByteArray) (n : Nat) (w : World) (hl : RulesIn w a R) (h8 : ∀ r ∈ R, r.1.size ≤ 8 ∧ r.2.size ≤ 8) (h12 : R.length ≤ 12) (hw : w0.size ≤ 8) (hn : n ≤ 8) :
    Calls Tryz.prog 43 #[.agg #[.int .i64 k, .slice a R.length cap], .string w0, .int .i64 (n : Nat)] w (RetSl 83 3 (linksF R n w0).length (cellsL lkV (linksF R n w0)) w) := by
  have HLK := Lib.hid (fun i p b W h hi hp => link_any k R a cap w0 i p b W h h8 hi hp hw)
  have HW1 := Lib.hid (alloc_belowS w (.cells #[.int .i64 k, .slice a R.length cap] 25))
  have HL := Lib.hid (fun W (hW : Below (w.alloc (.cells #[.int .i64 k, .slice a R.length cap] 25)).heap.size (w.alloc (.cells #[.int .i64 k, .slice a R.length cap] 25)) W) => RulesIn.later hl (Below.now HW1.out hW))
  have HX := Lib.hid (fun W2 (h : Below (w.alloc (.cells #[.int .i64 k, .slice a R.length cap] 25)).heap.size (w.alloc (.cells #[.int .i64 k, .slice a R.length cap] 25)) W2) => box_two h)
  have HFE : Hid (linksF R n w0 = lkPs R n w0 (w0.size + 1)) := Lib.hid rfl
  have HR := Lib.hid (fun p i j => lk_room (n := n) (w0 := w0) (p := p) (i := i) (j := j) h12)
  clear hl h8
  go_enter Tryz.func43, Tryz.ntmps43
  go_wp2_with fail
  generalize w.alloc (.cells #[.int .i64 k, .slice a R.length cap] 25) = w1 at *
  have HS0 : Hid (Bld 83 3 w1 w1 (.slice none 0 0) (lkPs R n w0 0).length (cellsL lkV (lkPs R n w0 0))) := Lib.hid (Bld.nil _ _ (Below.refl _ _))
  go_loopw [7, 18] (fun v vp wr => ∃ p : Nat, p ≤ w0.size + 1 ∧ vp = .int .i64 (p : Nat) ∧ Hid (Bld 83 3 w1 wr v (lkPs R n w0 p).length (cellsL lkV (lkPs R n w0 p)))) (fun _ vp _ => w0.size + 1 - (intOf vp).toNat)
  case atStart => exact ⟨0, Nat.zero_le _, rfl, HS0⟩
  case round =>
    clear HS0
    obtain ⟨p, hp, rfl, HB⟩ := hrel
    by_cases hlt : p < w0.size + 1
    · obtain ⟨a7, c7, rfl⟩ := owns_form HB.out.1
      obtain ⟨s0, s1⟩ := HX.out _ HB.out.2
      have HPN := Lib.hid (st2_full R n w0 p)
      have hpd : decide ((p : Int) < (w0.size : Int) + 1) = true := decide_eq_true (by omega)
      have HB0 : Hid (Bld 83 3 w1 wr (.slice a7 (lkPs R n w0 p).length c7) (st2 R n w0 p 0).length (cellsL lkV (st2 R n w0 p 0))) := Lib.hid (by rw [st2_zero]; exact HB.out)
      generalize hW0 : wr = wr0 at *
      clear hW0
      go_wp2_with fail
      clear HB s0 s1
      go_loopw [7, 24] (fun v vi wr => ∃ i : Nat, i ≤ R.length ∧ vi = .int .i64 (i : Nat) ∧ Hid (Bld 83 3 w1 wr v (st2 R n w0 p i).length (cellsL lkV (st2 R n w0 p i)))) (fun _ vi _ => R.length - (intOf vi).toNat)
      case atStart => exact ⟨0, Nat.zero_le _, rfl, HB0⟩
      case round =>
        clear HB0
        obtain ⟨i, hi, rfl, HB⟩ := hrel
        by_cases hli : i < R.length
        · obtain ⟨a7, c7, rfl⟩ := owns_form HB.out.1
          have HIN := Lib.hid (st3_full R n w0 p i)
          have HB1 : Hid (Bld 83 3 w1 (wr.alloc (.cells #[.bool false, .bool true] 4)) (.slice a7 (st2 R n w0 p i).length c7) (st3 R n w0 p i 0).length (cellsL lkV (st3 R n w0 p i 0))) := Lib.hid (by rw [st3_zero]; exact HB.out.later (alloc_belowS wr (.cells #[.bool false, .bool true] 4)))
          have HBT := Lib.hid (alloc_at wr (.cells #[.bool false, .bool true] 4))
          generalize hW0 : wr = wr1 at *
          clear hW0
          go_wp2_with fail
          generalize wr1.alloc (.cells #[.bool false, .bool true] 4) = wb at *
          generalize hgb : wr1.heap.size = gb at *
          clear hgb HB
          go_loopw [7, 29] (fun v vj wr => ∃ j : Nat, j ≤ 2 ∧ vj = .int .i64 (j : Nat) ∧ Hid (wr.heap[gb]? = some (.cells #[.bool false, .bool true] 4 (0, 0))) ∧ Hid (Bld 83 3 w1 wr v (st3 R n w0 p i j).length (cellsL lkV (st3 R n w0 p i j)))) (fun _ vj _ => 2 - (intOf vj).toNat)
          case atStart => exact ⟨0, Nat.zero_le _, rfl, HBT, HB1⟩
          case round =>
            clear HB1 HBT
            obtain ⟨j, hj, rfl, HBT, HB⟩ := hrel
            obtain ⟨a7, c7, rfl⟩ := owns_form HB.out.1
            by_cases hlj : j < 2
            · have hcell : wr.cell? ⟨gb, j, none⟩ = some (.bool (bitN j)) := by
                have h := rec_cells HBT.out
                rcases (by omega : j = 0 ∨ j = 1) with rfl | rfl
                · exact h.1
                · exact h.2.1
              have HBN := Lib.hid (st3_succ R n w0 p i j)
              have hroom := HR.out p i j (by omega) (by omega) (by omega)
              have HLC := Lib.hid (fun W h => HLK.out i p (bitN j) W h hli (by omega))
              have HON : Hid (lkOne R n w0 i p (bitN j) = if (lkB R w0 i p (bitN j) && decide ((lkW R w0 i p (bitN j)).size ≤ n)) = true then [(i, p, bitN j)] else []) := Lib.hid rfl
              generalize lkOne R n w0 i p (bitN j) = LO at *
              generalize lkB R w0 i p (bitN j) = bo at *
              generalize lkW R w0 i p (bitN j) = wo at *
              generalize bitN j = bj at *
              have HBL := Lib.hid (HB.out.later (alloc_belowS wr (.cells #[.int .i64 (i : Nat), .int .i64 (p : Nat), .bool bj] 83)))
              have hal := alloc_belowS wr (.cells #[.int .i64 (i : Nat), .int .i64 (p : Nat), .bool bj] 83)
              have HAL := Lib.hid hal
              have p0 := (HX.out _ HBL.out.2).1
              have p1 := (HX.out _ HBL.out.2).2
              have hbk := alloc_at wr (.cells #[.int .i64 (i : Nat), .int .i64 (p : Nat), .bool bj] 83)
              have HBK := Lib.hid hbk
              clear hbk hal
              go_wp2_with fail
              refine (HLC.out _ (HL.out _ HBL.out.2)).mono ?_
              rintro e w5 ⟨rfl, hb5⟩
              have HB5 := Lib.hid (HBL.out.later hb5)
              have hk5 := (hb5.block _ (by simp)).trans HBK.out
              have HT5 := Lib.hid ((Below.now HAL.out hb5).block gb (Array.getElem?_eq_some_iff.1 HBT.out).1 |>.trans HBT.out)
              have l0 : w5.cell? ⟨wr.heap.size, 0, none⟩ = some (.int .i64 (i : Nat)) := by simp [World.cell?, hk5]
              have l1 : w5.cell? ⟨wr.heap.size, 1, none⟩ = some (.int .i64 (p : Nat)) := by simp [World.cell?, hk5]
              have l2 : w5.cell? ⟨wr.heap.size, 2, none⟩ = some (.bool bj) := by simp [World.cell?, hk5]
              clear hb5 hk5 p0 p1 hcell HBL HAL HBK
              cases bo
              · have HNL : Hid (LO = []) := Lib.hid (by rw [HON.out]; simp)
                have HF : Hid (Bld 83 3 w1 w5 (.slice a7 (st3 R n w0 p i j).length c7) (st3 R n w0 p i (j + 1)).length (cellsL lkV (st3 R n w0 p i (j + 1)))) := Lib.hid (by rw [HBN.out, HNL.out, List.append_nil]; exact HB5.out)
                clear HON
                go_wp2_with fail
                go_roundw
                case rel => exact ⟨j + 1, by omega, by go_num, HT5, HF⟩
                case measure => simp [intOf]; omega
              · by_cases hle : wo.size ≤ n
                · have HNL : Hid (LO = [(i, p, bj)]) := Lib.hid (by rw [HON.out]; simp [hle])
                  have hle2 : (wo.size : Int) ≤ (n : Int) := by omega
                  have HFE2 : Hid (st3 R n w0 p i (j + 1) = st3 R n w0 p i j ++ [(i, p, bj)]) := Lib.hid (by rw [HBN.out, HNL.out])
                  clear HON hle HNL
                  generalize st3 R n w0 p i j = LL at *
                  have HN1 : Hid ([Value.int .i64 (i : Nat), .int .i64 (p : Nat), .bool bj].length = 1 * 3) := Lib.hid rfl
                  have HN2 : Hid (∀ v ∈ [Value.int .i64 (i : Nat), .int .i64 (p : Nat), .bool bj], v.oneCell' = true) := Lib.hid (fun v hv => by simp at hv; rcases hv with rfl | rfl | rfl <;> rfl)
                  go_wp2_with (at_builtin; refine wpList_appM rfl (.tmp 51) (.tmp 53) rfl Tryz.underlying86 Tryz.infoLinkS rfl (by decide) rfl (HB5.out.later (alloc_belowS w5 _)) rfl (Src.lit _) HN1.out HN2.out (by unfold maxLen; omega) (by omega) ?_; intro v4 w4 hb4 hg4 ho4)
                  have HT4 := Lib.hid ((hg4.block gb (by have := (Array.getElem?_eq_some_iff.1 HT5.out).1; simp; omega) (fun e => (ownsOff.of_row HB5.out.1).ne_block HT5.out (by decide) e.symm)).trans (alloc_oldI w5 _ HT5.out))
                  have HF : Hid (Bld 83 3 w1 w4 v4 (st3 R n w0 p i (j + 1)).length (cellsL lkV (st3 R n w0 p i (j + 1)))) := Lib.hid (by rw [HFE2.out, List.length_append, cellsL_app]; exact hb4)
                  clear hb4 hg4 ho4 l0 l1 l2
                  go_wp2_with fail
                  go_roundw
                  case rel => exact ⟨j + 1, by omega, by go_num, HT4, HF⟩
                  case measure => simp [intOf]; omega
                · have HNL : Hid (LO = []) := Lib.hid (by rw [HON.out]; simp [hle])
                  have HF : Hid (Bld 83 3 w1 w5 (.slice a7 (st3 R n w0 p i j).length c7) (st3 R n w0 p i (j + 1)).length (cellsL lkV (st3 R n w0 p i (j + 1)))) := Lib.hid (by rw [HBN.out, HNL.out, List.append_nil]; exact HB5.out)
                  have hle2 : ¬ (wo.size : Int) ≤ (n : Int) := by omega
                  clear HON hle
                  go_wp2_with fail
                  go_roundw
                  case rel => exact ⟨j + 1, by omega, by go_num, HT5, HF⟩
                  case measure => simp [intOf]; omega
            · obtain rfl : j = 2 := by omega
              have HF : Hid (Bld 83 3 w1 wr (.slice a7 (st3 R n w0 p i 2).length c7) (st2 R n w0 p (i + 1)).length (cellsL lkV (st2 R n w0 p (i + 1)))) := Lib.hid (by rw [← HIN.out]; exact HB.out)
              go_wp2_with fail
              go_roundw
              case rel => exact ⟨i + 1, by omega, by go_num, HF⟩
              case measure => simp [intOf]; omega
        · obtain rfl : i = R.length := by omega
          have HF := HB.out
          rw [HPN.out] at HF
          have HF := Lib.hid HF
          obtain ⟨a7, c7, rfl⟩ := owns_form HB.out.1
          clear HB
          go_wp2_with fail
          go_roundw
          case rel => exact ⟨p + 1, by omega, by go_num, HF⟩
          case measure => simp [intOf]; omega
    · obtain rfl : p = w0.size + 1 := by omega
      obtain ⟨a7, c7, rfl⟩ := owns_form HB.out.1
      have F : Hid (RetSl 83 3 (linksF R n w0).length (cellsL lkV (linksF R n w0)) w (.returned (.slice a7 (lkPs R n w0 (w0.size + 1)).length c7)) wr) := Lib.hid (by
        rw [HFE.out]
        exact ⟨a7, c7, rfl, owns_mono HB.out.1 HW1.out.size, Below.now HW1.out HB.out.2⟩)
      go_wp2_with fail
      go_ret
      exact F.out
end Go.Proofs.YtgoeadgpbidgiaaGreat
namespace Go.Proofs.YtgoeadgpbidgiaaGreat
open Go.RowKit
set_option linter.unusedVariables false
/-- the word behind a link -/
def lkT (R : List RulD) (u : ByteArray) (x : LkD) : ByteArray := lkW R u x.1 x.2.1 x.2.2
theorem mem_link {R : List RulD} {n : Nat} {u v : ByteArray} : (∃ x ∈ linksF R n u, lkT R u x = v) ↔ LinkL R n u.data.toList v.data.toList := by
  have hvs : v.data.toList.length = v.size := rfl
  constructor
  · rintro ⟨x, hx, rfl⟩
    obtain ⟨h1, h2, h3⟩ := mem_links.1 hx
    unfold lkOk at h3
    rw [Bool.and_eq_true, decide_eq_true_eq] at h3
    obtain ⟨h4, h5⟩ := h3
    unfold lkB at h4
    refine ⟨h5, ?_⟩
    have e := split_at h4
    unfold lkT lkW
    rw [if_pos h4, replF_list]
    have hm := nthR_mem h2
    cases hb : x.2.2
    · left
      rw [hb] at e
      exact ⟨_, _, _, _, ⟨_, hm, rfl, rfl⟩, e, rfl⟩
    · right
      rw [hb] at e
      exact ⟨_, _, _, _, ⟨_, hm, rfl, rfl⟩, rfl, e⟩
  · rintro ⟨hn, hs⟩
    have key : ∀ (b : Bool) (i : Nat) (x y : List UInt8), i < R.length → u.data.toList = x ++ ((fromF R i b).data.toList ++ y) → v.data.toList = x ++ ((toF R i b).data.toList ++ y) → ∃ z ∈ linksF R n u, lkT R u z = v := fun b i x y hi hu hv => by
      have e1 : (fromF R i b).data.toList.length = (fromF R i b).size := rfl
      have e2 : u.data.toList.length = u.size := rfl
      have hp : preAt u x.length (fromF R i b) = true := by
        unfold preAt
        rw [hu, List.drop_left, List.isPrefixOf_iff_prefix]
        exact List.prefix_append _ _
      have hw : lkW R u i x.length b = v := by
        unfold lkW
        rw [if_pos hp]
        apply ba_lists
        rw [replF_list, hu, List.take_left, ← e1, ← List.drop_drop, List.drop_left, List.drop_left, hv]
      refine ⟨(i, x.length, b), mem_links.2 ⟨?_, hi, ?_⟩, hw⟩
      · show x.length ≤ u.size
        rw [hu] at e2
        simp only [List.length_append] at e2
        omega
      · unfold lkOk
        rw [Bool.and_eq_true, decide_eq_true_eq]
        exact ⟨hp, by rw [hw]; exact hn⟩
    rcases hs with s | s
    · obtain ⟨x, _, _, y, ⟨p, hp, rfl, rfl⟩, h1, h2⟩ := s
      obtain ⟨i, hi, rfl⟩ := mem_nthR hp
      exact key false i x y hi h1 h2
    · obtain ⟨x, _, _, y, ⟨p, hp, rfl, rfl⟩, h1, h2⟩ := s
      obtain ⟨i, hi, rfl⟩ := mem_nthR hp
      exact key true i x y hi h2 h1
/-- a search under way: S the words met, the links of the first j of them followed, and t links of the next one -/
structure SeaP (R : List RulD) (n : Nat) (u : ByteArray) (S : List ByteArray) (j t : Nat) : Prop where
  nd : S.Nodup
  pos : 0 < S.length
  fst : nthS S 0 = u
  re : ∀ v ∈ S, ReachL R n u.data.toList v.data.toList
  cl : ∀ i, i < j → ∀ x ∈ linksF R n (nthS S i), lkT R (nthS S i) x ∈ S
  cur : ∀ x ∈ (linksF R n (nthS S j)).take t, lkT R (nthS S j) x ∈ S
section
variable {R : List RulD} {n : Nat} {u : ByteArray} {S : List ByteArray} {j t : Nat}
theorem SeaP.start (R : List RulD) (n : Nat) (u : ByteArray) : SeaP R n u [u] 0 0 := by
  refine ⟨List.nodup_cons.2 ⟨by simp, List.nodup_nil⟩, by simp, rfl, fun v hv => ?_, fun i hi => by omega, fun x hx => by simp at hx⟩
  rw [List.mem_singleton.1 hv]; exact .refl
theorem nthS_app {S T : List ByteArray} {i : Nat} (h : i < S.length) : nthS (S ++ T) i = nthS S i := by
  unfold nthS
  rw [List.getD_eq_getElem?_getD, List.getD_eq_getElem?_getD, List.getElem?_append_left h]
theorem mem_nthS {S : List ByteArray} {i : Nat} (h : i < S.length) : nthS S i ∈ S := by rw [nthS_lt h]; exact List.getElem_mem h
theorem take_one {α : Type} {l : List α} {t : Nat} (h : t < l.length) : l.take (t + 1) = l.take t ++ [l[t]] := by
  rw [List.take_add_one, List.getElem?_eq_getElem h]; rfl
theorem SeaP.old (h : SeaP R n u S j t) (ht : t < (linksF R n (nthS S j)).length) (hm : lkT R (nthS S j) (linksF R n (nthS S j))[t] ∈ S) : SeaP R n u S j (t + 1) := by
  refine ⟨h.nd, h.pos, h.fst, h.re, h.cl, fun x hx => ?_⟩
  rw [take_one ht] at hx
  rcases List.mem_append.1 hx with hx | hx
  · exact h.cur x hx
  · rw [List.mem_singleton.1 hx]; exact hm
theorem SeaP.new (h : SeaP R n u S j t) (hj : j < S.length) (ht : t < (linksF R n (nthS S j)).length) (hm : lkT R (nthS S j) (linksF R n (nthS S j))[t] ∉ S) : SeaP R n u (S ++ [lkT R (nthS S j) (linksF R n (nthS S j))[t]]) j (t + 1) := by
  have hl : LinkL R n (nthS S j).data.toList (lkT R (nthS S j) (linksF R n (nthS S j))[t]).data.toList := mem_link.1 ⟨_, List.getElem_mem ht, rfl⟩
  refine ⟨?_, by simp, ?_, fun v hv => ?_, fun i hi x hx => ?_, fun x hx => ?_⟩
  · rw [List.nodup_append]
    exact ⟨h.nd, List.nodup_cons.2 ⟨by simp, List.nodup_nil⟩, fun a ha b hb e => hm (by rw [← List.mem_singleton.1 hb, ← e]; exact ha)⟩
  · rw [nthS_app h.pos]; exact h.fst
  · rcases List.mem_append.1 hv with hv | hv
    · exact h.re v hv
    · rw [List.mem_singleton.1 hv]
      exact .step (h.re _ (mem_nthS hj)) hl
  · have hi2 : i < S.length := by omega
    rw [nthS_app hi2] at hx ⊢
    exact List.mem_append.2 (.inl (h.cl i hi x hx))
  · rw [nthS_app hj] at hx ⊢
    rw [take_one ht] at hx
    rcases List.mem_append.1 hx with hx | hx
    · exact List.mem_append.2 (.inl (h.cur x hx))
    · rw [List.mem_singleton.1 hx]
      exact List.mem_append.2 (.inr (List.mem_singleton.2 rfl))
theorem SeaP.oldX {x y : ByteArray} (h : SeaP R n u S j t) (hx : nthS S j = x) (ht : t < (linksF R n x).length) (hy : lkT R x (linksF R n x)[t] = y) (hm : y ∈ S) : SeaP R n u S j (t + 1) := by
  subst hx hy
  exact h.old ht hm
theorem SeaP.newX {x y : ByteArray} (h : SeaP R n u S j t) (hj : j < S.length) (hx : nthS S j = x) (ht : t < (linksF R n x).length) (hy : lkT R x (linksF R n x)[t] = y) (hm : y ∉ S) : SeaP R n u (S ++ [y]) j (t + 1) := by
  subst hx hy
  exact h.new hj ht hm
theorem SeaP.next (h : SeaP R n u S j t) (ht : t = (linksF R n (nthS S j)).length) : SeaP R n u S (j + 1) 0 := by
  refine ⟨h.nd, h.pos, h.fst, h.re, fun i hi x hx => ?_, fun x hx => by simp at hx⟩
  by_cases e : i = j
  · subst e
    exact h.cur x (by rw [ht, List.take_length]; exact hx)
  · exact h.cl i (by omega) x hx
theorem SeaP.nextX {x : ByteArray} (h : SeaP R n u S j t) (hx : nthS S j = x) (ht : t = (linksF R n x).length) : SeaP R n u S (j + 1) 0 := by
  subst hx
  exact h.next ht
theorem SeaP.done (h : SeaP R n u S S.length 0) (v : ByteArray) (hn : u.size ≤ n) : v ∈ S ↔ ReachL R n u.data.toList v.data.toList := by
  refine ⟨h.re v, fun hr => ?_⟩
  have key : ∀ {y : List UInt8}, ReachL R n u.data.toList y → (⟨y.toArray⟩ : ByteArray) ∈ S := fun hr => by
    induction hr with
    | refl =>
      have : (⟨u.data.toList.toArray⟩ : ByteArray) = u := ba_lists rfl
      rw [this, ← h.fst]
      exact mem_nthS h.pos
    | @step a x r l ih =>
      obtain ⟨i, hi, e⟩ := List.getElem_of_mem ih
      have he : nthS S i = ⟨a.toArray⟩ := by rw [nthS_lt hi]; exact e
      obtain ⟨z, hz, hzv⟩ := (mem_link (R := R) (n := n) (u := nthS S i) (v := ⟨x.toArray⟩)).2 (by rw [he]; exact l)
      rw [← hzv]
      exact h.cl i hi z hz
  have := key hr
  rw [show (⟨v.data.toList.toArray⟩ : ByteArray) = v from ba_lists rfl] at this
  exact this
/-- they are few -/
theorem SeaP.few {kn : Nat} (h : SeaP R n u S j t) (hc : ComplP (kn : Int) R) (hn : n ≤ 16) (hu : wordOkB (kn : Int) u = true) (hun : u.size ≤ n) (hk : kn ≤ 4) : S.length ≤ (up kn n).length :=
  nodup_len h.nd fun v hv => by
    obtain ⟨v', e, h1, h2, _⟩ := reach_word hc hn hu hun (h.re v hv)
    obtain rfl := ba_lists e
    exact (mem_up hk).2 ⟨(wordOk_iff.1 h1).2.2, h2⟩
theorem SeaP.word {kn : Nat} (h : SeaP R n u S j t) (hc : ComplP (kn : Int) R) (hn : n ≤ 16) (hu : wordOkB (kn : Int) u = true) (hun : u.size ≤ n) {v : ByteArray} (hv : v ∈ S) : wordOkB (kn : Int) v = true ∧ v.size ≤ n := by
  obtain ⟨v', e, h1, h2, _⟩ := reach_word hc hn hu hun (h.re v hv)
  obtain rfl := ba_lists e
  exact ⟨h1, h2⟩
end
end Go.Proofs.YtgoeadgpbidgiaaGreat
