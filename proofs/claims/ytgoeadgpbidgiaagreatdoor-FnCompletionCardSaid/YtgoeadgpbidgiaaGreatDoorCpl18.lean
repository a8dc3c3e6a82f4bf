/-
  StartWork of the reference.
-/
import Derived.Test.YtgoeadgpbidgiaaGreatDoorCpl17
import Derived.Test.YtgoeadgpbidgiaaGreatDoorCpl15
import Derived.Test.YtgoeadgpbidgiaaGreatDoorCpl16
namespace Go.Proofs.YtgoeadgpbidgiaaGreatDoor
open Go.RowKit
set_option linter.unusedVariables false
/-- a system's text and the system -/
structure SysTx (s : ByteArray) (k : Nat) (R : List RulD) (l : List ByteArray) : Prop where
  size : s.size ≤ 1000
  dig : k < 10
  split : splitB s 32 = dgB k :: l
  len : l.length = R.length
  rule : ∀ i, i < R.length → ∃ u v, RuleTx (nthS l i) u v ∧ nthR R i = (undot u, undot v)
  ok : rulesP (k : Int) R
  text : (sysT0 (k : Int) R).toList = s.toList
def RetPX (k : Nat) (R : List RulD) (w : World) (e : Ending) (w' : World) : Prop := ∃ (a : Option Addr) (cap : Nat), e = .returned (.tuple #[.agg #[.int .i64 (k : Nat), .slice a R.length cap], .bool true]) ∧ RulesIn w' a R ∧ Below w.heap.size w w'
theorem take_nthR {R : List RulD} {j : Nat} (h : j < R.length) : R.take (j + 1) = R.take j ++ [nthR R j] := by
  rw [List.take_add_one, List.getElem?_eq_getElem h, nthR_lt h]; rfl
set_option maxRecDepth 20000 in
set_option maxHeartbeats 4000000 in
theorem specParseSystem_x (s : ByteArray) (k : Nat) (R : List RulD) (l : List ByteArray) (w : World) (hs : SysTx s k R l) :
    Calls Tryz.prog 77 #[.string s] w (RetPX k R w) := by
  have HX := Lib.hid hs
  have hsz1 := hs.size
  have HSP := Lib.hid (fun W => specSplitAny_x s 32 W (by omega))
  have HLR := Lib.hid hs.len
  have HR12 : Hid (R.length ≤ 12) := Lib.hid hs.ok.1.2
  have hSzR : SzR R := fun j hj => by
    have h1 := (hs.ok.2 _ (nthR_mem hj)).1
    have h2 := h1.2
    unfold maxLen
    omega
  have HSZ := Lib.hid hSzR
  clear hSzR
  rw [HX.out.split] at HSP
  have HW1 := Lib.hid ((Below.refl w.heap.size w).alloc (Nat.le_refl _) (.cells #[.int .i64 0, .slice none 0 0] 33))
  clear hs
  go_enter Tryz.func77, Tryz.ntmps77
  go_wp2_with fail
  refine (HSP.out _).mono ?_
  rintro e w2 ⟨a, cap, rfl, ho, hb2⟩
  have hb0 := (hb2.block w.heap.size (by simp)).trans (alloc_at w (.cells #[.int .i64 0, .slice none 0 0] 33))
  have hcap := owns_capS ho
  obtain ⟨g, hg, off, rfl, hcells⟩ : ∃ g, g < w2.heap.size ∧ ∃ off, a = some ⟨g, off, none⟩ ∧ ∀ j, j < (dgB k :: l).length → w2.cell? ⟨g, off + j, none⟩ = some (.string (nthS (dgB k :: l) j)) := by
    obtain ⟨b, off, ha, hb, hc⟩ := (owns_strs ho).cell (show 0 < (dgB k :: l).length by simp)
    exact ⟨b, hb, off, ha, hc⟩
  have hc0 : w2.cell? ⟨g, off, none⟩ = some (.string (dgB k)) := hcells 0 (by simp)
  have HPI := Lib.hid (fun W => specParseInt_x k W HX.out.dig)
  have HB2 := Lib.hid (Below.now HW1.out hb2)
  have HC : Hid (∀ j, j < l.length → w2.cell? ⟨g, off + 1 + j, none⟩ = some (.string (nthS l j))) := Lib.hid (fun j hj => by
    have := hcells (j + 1) (by simp; omega)
    rw [show off + (j + 1) = off + 1 + j by omega] at this
    exact this)
  have HO := Lib.hid hb0
  have hk10 := HX.out.dig
  clear hcells hb2 ho hb0 HSP
  generalize dgB k = s0 at *
  simp only [List.length_cons] at hcap ⊢
  obtain ⟨m, hm⟩ : ∃ m, l.length = m := ⟨_, rfl⟩
  have hRm : R.length = m := by rw [← HLR.out, hm]
  have hm12 : m ≤ 12 := by have := HR12.out; omega
  rw [hm] at hcap HC ⊢
  have HRM := Lib.hid hRm
  clear hRm
  go_wp2_with fail
  refine (HPI.out _).mono ?_
  rintro e w3 ⟨rfl, hb3⟩
  have hb0 := (hb3.block w.heap.size (Array.getElem?_eq_some_iff.1 HO.out).1).trans HO.out
  have HB3 := Lib.hid (Below.now HB2.out hb3)
  have HC3 : Hid (∀ j, j < m → w3.cell? ⟨g, off + 1 + j, none⟩ = some (.string (nthS l j))) := Lib.hid (fun j hj => by rw [hb3.cell (World.block_lt_of_cell? w2 _ (HC.out j hj))]; exact HC.out j hj)
  clear hb3 HC HO HPI hc0
  have HR := Lib.hid (Rec2.start 33 39 2 (w := w3) (w1 := w3) (Below.refl _ _) (.int .i64 (k : Nat)))
  have HZ := Lib.hid hb0
  clear hb0
  go_upto_region 6 with fail
  generalize hW4 : w3.alloc (.cells #[.int .i64 (k : Nat), .slice none 0 0] 33) = w4 at *
  go_cut [27, 28, 29] (fun v u i wx => ∃ off2 cap2, v = .slice (some ⟨g, off2, none⟩) m cap2 ∧ u = .int .i64 (m : Nat) ∧ i = .int .i64 0 ∧ (∀ j, j < m → w3.cell? ⟨g, off2 + j, none⟩ = some (.string (nthS l j))) ∧ wx = w4)
  case first =>
    by_cases hc1 : cap = 1
    · subst hc1
      obtain rfl : m = 0 := by omega
      go_wp2_with fail
      go_meet
      exact ⟨_, _, rfl, rfl, rfl, fun j hj => by omega, rfl⟩
    · have hc2 : (1 : Int) < (cap : Int) := by omega
      have hc3 : ¬ (cap : Int) = 1 := by omega
      go_wp2_with fail
      go_meet
      exact ⟨_, _, rfl, rfl, rfl, HC3.out, rfl⟩
  case rest =>
    obtain ⟨off2, cap2, rfl, rfl, rfl, hcs, rfl⟩ := hcut
    have HCS := Lib.hid hcs
    clear hcs HC3 hW4
    go_wp2_with fail
    go_loopw [29] (fun i wr => ∃ (j : Nat) (v : Value), j ≤ m ∧ i = .int .i64 (j : Nat) ∧ Hid (Rec2 33 39 2 w3 wr w3.heap.size (.int .i64 (k : Nat)) v j (ruleCells (R.take j)))) (fun i _ => m - (intOf i).toNat)
    case atStart => exact ⟨0, .slice none 0 0, Nat.zero_le _, rfl, HR⟩
    case round =>
      clear HR
      obtain ⟨j, v, hj, rfl, HRC⟩ := hrel
      obtain ⟨a3, c3, rfl⟩ := owns_form HRC.out.own
      have HBW := Lib.hid (Below.now HB3.out HRC.out.below)
      have hz := (HRC.out.below.block w.heap.size (Array.getElem?_eq_some_iff.1 HZ.out).1).trans HZ.out
      have hsz := HRC.out.lt
      by_cases hlt : j < m
      · have cw : wr.cell? ⟨g, off2 + j, none⟩ = some (.string (nthS l j)) := by rw [HRC.out.below.cell (World.block_lt_of_cell? w3 _ (HCS.out j hlt))]; exact HCS.out j hlt
        obtain ⟨u, v, hrt, hre⟩ := HX.out.rule j (by rw [HRM.out]; exact hlt)
        have HPR := Lib.hid (fun W => specParseRule_x (nthS l j) u v W hrt)
        have HTK : Hid (R.take (j + 1) = R.take j ++ [(undot u, undot v)]) := Lib.hid (by rw [take_nthR (by rw [HRM.out]; exact hlt), hre])
        clear hrt hre
        generalize undot u = x at *
        generalize undot v = y at *
        generalize nthS l j = sj at *
        have HZW := Lib.hid hz
        clear hz
        go_wp2_with fail
        refine (HPR.out _).mono ?_
        rintro e w5 ⟨rfl, hb5⟩
        have HR5 := Lib.hid (HRC.out.later hb5)
        have HB5 := Lib.hid (Below.now HBW.out hb5)
        have hz5 := (hb5.block w.heap.size (Array.getElem?_eq_some_iff.1 HZW.out).1).trans HZW.out
        have HK6 := Lib.hid (fun o => alloc_belowS w5 o)
        have hz := ((HK6.out (.cells #[.string x, .string y] 39)).block w.heap.size (Array.getElem?_eq_some_iff.1 hz5).1).trans hz5
        have HR6 := Lib.hid (HR5.out.later (HK6.out (.cells #[.string x, .string y] 39)))
        replace HBW := Lib.hid (Below.now HB5.out (HK6.out (.cells #[.string x, .string y] 39)))
        obtain ⟨n0, n1⟩ := sys_cells (alloc_at w5 (.cells #[.string x, .string y] 39))
        clear HRC HZW cw hb5 HR5 HB5 hz5 HK6 HPR
        go_upto_region 10 with fail
        generalize w5.alloc (.cells #[.string x, .string y] 39) = w6 at *
        have HN1 : Hid ([Value.string x, .string y].length = 1 * 2) := Lib.hid rfl
        have HN2 : Hid (∀ v ∈ [Value.string x, .string y], v.oneCell' = true) := Lib.hid (fun v hv => by simp at hv; rcases hv with rfl | rfl <;> rfl)
        obtain ⟨_, y1, _, y3⟩ := HR6.out.facts
        clear hz
        go_wp2_with (at_builtin; refine wpList_appH (n := j) (wr := w6) (news := [Value.string x, .string y]) rfl (.tmp 42) (.tmp 44) rfl Tryz.underlying25 Tryz.infoRule rfl (by decide) rfl HR6.out.own HR6.out.lt rfl HN1.out HN2.out (by unfold maxLen; omega) (by omega) ?_; intro g4 c4 w4 ho4 hg4 hr4; obtain ⟨_, x1, _, x3⟩ := rec_cells (HR6.out.grown (Below.refl _ _) hg4))
        have HR4 : Hid (Rec2 33 39 2 w3 (w4.setCell ⟨w3.heap.size, 1, none⟩ (.slice (some ⟨g4, 0, none⟩) (j + 1) c4)) w3.heap.size (.int .i64 (k : Nat)) (.slice (some ⟨g4, 0, none⟩) (j + 1) c4) (j + 1) (ruleCells (R.take (j + 1)))) := Lib.hid (by
          rw [HTK.out, ruleCells_app, show ruleCells [(x, y)] = [Value.string x, .string y] from rfl]; exact HR6.out.put (Below.refl _ _) hg4 ho4)
        clear ho4 hg4 hr4 y1 y3 n0 n1 x1 x3
        go_wp2_with fail
        go_roundw
        case rel => exact ⟨j + 1, _, by omega, by simp, HR4⟩
        case measure => simp [intOf]; omega
      · obtain rfl : m = j := by omega
        have hRC : Hid (Rec2 33 39 2 w3 wr w3.heap.size (.int .i64 (k : Nat)) (.slice a3 m c3) m (ruleCells R)) := Lib.hid (by have := HRC.out; rw [List.take_of_length_le (by rw [HRM.out]; exact Nat.le_refl _)] at this; exact this)
        clear HRC
        have HRC := hRC
        clear hRC
        have HRO : Hid (∀ W, RulesIn W a3 R → Calls Tryz.prog 73 #[.agg #[.int .i64 (k : Nat), .slice a3 m c3]] W fun e w' => e = .returned (.bool true) ∧ Below W.heap.size W w') := Lib.hid (fun W h => by
          have := specRulesOk_any (k : Int) R a3 c3 W h (by rw [HRM.out]; omega) HSZ.out
          rw [HRM.out] at this
          refine this.mono ?_
          rintro e w' ⟨b, hb, rfl, hb5⟩
          have : b = true := hb.2 HX.out.ok
          subst this
          exact ⟨rfl, hb5⟩)
        have HFS := Lib.hid (fun W h => specFormatSystem_any (k : Int) R a3 c3 W h (by rw [HRM.out]; omega) HSZ.out)
        rw [HRM.out] at HFS
        have HRI : Hid (RulesIn wr a3 R) := Lib.hid (owns_rules HRC.out.own)
        obtain ⟨y0, y1, _, _⟩ := HRC.out.facts
        have HZW := Lib.hid hz
        clear hz
        go_wp2_with fail
        refine (HRO.out _ HRI.out).mono ?_
        rintro e w5 ⟨rfl, hb5⟩
        have HR5 := Lib.hid (HRC.out.later hb5)
        replace HBW := Lib.hid (Below.now HBW.out hb5)
        have hz := (hb5.block w.heap.size (Array.getElem?_eq_some_iff.1 HZW.out).1).trans HZW.out
        have HRI2 := Lib.hid (HRI.out.later hb5)
        clear HRC HZW hb5 HRO y0 y1 HRI
        obtain ⟨y0, y1, _, _⟩ := HR5.out.facts
        have HZW := Lib.hid hz
        clear hz
        go_wp2_with fail
        refine (HFS.out _ HRI2.out).mono ?_
        rintro e w6 ⟨rfl, hb6⟩
        have HR6 := Lib.hid (HR5.out.later hb6)
        replace HBW := Lib.hid (Below.now HBW.out hb6)
        have hz := (hb6.block w.heap.size (Array.getElem?_eq_some_iff.1 HZW.out).1).trans HZW.out
        have hq : ((sysT0 (k : Int) R).toList == s.toList) = true := by rw [HX.out.text]; simp
        clear HR5 HZW hb6 HFS y0 y1 HRI2
        generalize sysT0 (k : Int) R = st at *
        have F : Hid (RetPX k R w (.returned (.tuple #[.agg #[.int .i64 (k : Nat), .slice a3 m c3], .bool true])) ((w6.setCell ⟨w.heap.size, 0, none⟩ (.int .i64 (k : Nat))).setCell ⟨w.heap.size, 1, none⟩ (.slice a3 m c3))) := Lib.hid ⟨a3, c3, by rw [HRM.out],
          owns_rules (ownsRow_setCell_below (ownsRow_setCell_below HR6.out.own (by show w.heap.size < w3.heap.size + 1; have := HB3.out.size; omega) _) (by show w.heap.size < w3.heap.size + 1; have := HB3.out.size; omega) _), (HBW.out.setCell (Nat.le_refl _) _).setCell (Nat.le_refl _) _⟩
        obtain ⟨y0, y1, _, _⟩ := HR6.out.facts
        obtain ⟨z0, z1⟩ := sys_cells hz
        obtain ⟨u0, u1⟩ := sys_cells (set_two hz (.int .i64 (k : Nat)) (.slice a3 m c3))
        have ff0 : w6.frozen? ⟨w.heap.size, 0, none⟩ = false := by simp [World.frozen?, hz]
        have ff1 : w6.frozen? ⟨w.heap.size, 1, none⟩ = false := by simp [World.frozen?, hz]
        clear hz HX
        go_wp2_with fail
        refine bodyPost_ret (v := .tuple #[.agg #[.int .i64 (k : Nat), .slice a3 m c3], .bool true]) ?_ rfl F.out
        simp [results, Tryz.results77, go_sem, u0, u1]
end Go.Proofs.YtgoeadgpbidgiaaGreatDoor
namespace Go.Proofs.YtgoeadgpbidgiaaGreatDoor
open Go.RowKit
set_option linter.unusedVariables false
/-- one rule's text and its two parts -/
abbrev TxD := ByteArray × ByteArray × ByteArray
def ruleD (p : TxD) : RulD := (undot p.2.1, undot p.2.2)
def chkR (k : Nat) (p : TxD) : Bool :=
  decide (p.1.size ≤ 100) && decide (p.2.1.size ≤ p.1.size) && decide (p.2.2.size ≤ p.1.size) && decide (splitB p.1 62 = [p.2.1, p.2.2]) && wordOkB 4 (undot p.2.1) && wordOkB 4 (undot p.2.2) &&
  decide ((ruleT (ruleD p)).data.toList = p.1.data.toList) && wordOkB (k : Int) (undot p.2.1) && wordOkB (k : Int) (undot p.2.2) && decide ((undot p.2.1).size ≤ 8) && decide ((undot p.2.2).size ≤ 8) && decide ((undot p.2.1).size ≠ 0)
def chkS (s : ByteArray) (k : Nat) (ps : List TxD) : Bool :=
  decide (s.size ≤ 100) && decide (1 ≤ k) && decide (k ≤ 4) && decide (ps.length ≤ 12) && decide (splitB s 32 = dgB k :: ps.map (·.1)) && ps.all (chkR k) && decide ((rulesT (dgB k) (ps.map ruleD) (ps.map ruleD).length).data.toList = s.data.toList)
theorem toList_data (a : ByteArray) : ∀ b : ByteArray, a.data.toList = b.data.toList → a.toList = b.toList := fun b h => by
  rw [ba_lists h]
theorem chk_tx {s : ByteArray} {k : Nat} {ps : List TxD} (h : chkS s k ps = true) : SysTx s k (ps.map ruleD) (ps.map (·.1)) := by
  unfold chkS at h
  simp only [Bool.and_eq_true, decide_eq_true_eq] at h
  obtain ⟨⟨⟨⟨⟨⟨h1, h2⟩, h3⟩, h4⟩, h5⟩, h6⟩, h7⟩ := h
  rw [List.all_eq_true] at h6
  have hr : ∀ p ∈ ps, chkR k p = true := h6
  have hP : rulesP (k : Int) (ps.map ruleD) := by
    refine ⟨⟨by omega, by rw [List.length_map]; exact h4⟩, fun r hr2 => ?_⟩
    obtain ⟨p, hp, rfl⟩ := List.mem_map.1 hr2
    have := hr p hp
    unfold chkR at this
    simp only [Bool.and_eq_true, decide_eq_true_eq] at this
    obtain ⟨⟨⟨⟨⟨⟨⟨⟨⟨⟨⟨_, _⟩, _⟩, _⟩, _⟩, _⟩, _⟩, a8⟩, a9⟩, a10⟩, a11⟩, a12⟩ := this
    exact ⟨⟨⟨a8, a9⟩, a10, a11⟩, a12⟩
  refine ⟨by omega, by omega, h5, by simp, fun i hi => ?_, hP, ?_⟩
  · rw [List.length_map] at hi
    have := hr _ (List.getElem_mem hi)
    unfold chkR at this
    simp only [Bool.and_eq_true, decide_eq_true_eq] at this
    obtain ⟨⟨⟨⟨⟨⟨⟨⟨⟨⟨⟨a1, a2⟩, a3⟩, a4⟩, a5⟩, a6⟩, a7⟩, _⟩, _⟩, _⟩, _⟩, _⟩ := this
    refine ⟨ps[i].2.1, ps[i].2.2, ?_, ?_⟩
    · rw [nthS_lt (by simpa using hi), List.getElem_map]
      exact ⟨by omega, ⟨a2, a3⟩, a4, a5, a6, toList_data _ _ a7⟩
    · rw [nthR_lt (by simpa using hi), List.getElem_map]
      rfl
  · unfold sysT0
    rw [if_pos hP]
    unfold sysT
    rw [numB_dg (by omega)]
    exact toList_data _ _ h7
def eqLits : List ByteArray := [⟨#[49, 32, 97, 97, 97, 62, 46]⟩, ⟨#[50, 32, 97, 97, 62, 46, 32, 98, 98, 62, 46, 32, 97, 98, 97, 62, 98, 97, 98]⟩, ⟨#[50, 32, 97, 97, 62, 46, 32, 98, 98, 98, 62, 46, 32, 97, 98, 97, 98, 62, 46]⟩, ⟨#[50, 32, 97, 98, 62, 98, 97, 32, 97, 97, 62, 97]⟩, ⟨#[50, 32, 97, 98, 62, 46]⟩, ⟨#[50, 32, 97, 98, 97, 62, 98, 32, 98, 97, 98, 62, 97]⟩, ⟨#[50, 32, 97, 97, 97, 97, 62, 46, 32, 98, 98, 62, 46, 32, 98, 97, 62, 97, 97, 97, 98]⟩]
theorem eq_tx0 : chkS (nthS eqLits 0) 1 [(⟨#[97, 97, 97, 62, 46]⟩, ⟨#[97, 97, 97]⟩, ⟨#[46]⟩)] = true := by decide +kernel
theorem eq_tx1 : chkS (nthS eqLits 1) 2 [(⟨#[97, 97, 62, 46]⟩, ⟨#[97, 97]⟩, ⟨#[46]⟩), (⟨#[98, 98, 62, 46]⟩, ⟨#[98, 98]⟩, ⟨#[46]⟩), (⟨#[97, 98, 97, 62, 98, 97, 98]⟩, ⟨#[97, 98, 97]⟩, ⟨#[98, 97, 98]⟩)] = true := by decide +kernel
theorem eq_tx2 : chkS (nthS eqLits 2) 2 [(⟨#[97, 97, 62, 46]⟩, ⟨#[97, 97]⟩, ⟨#[46]⟩), (⟨#[98, 98, 98, 62, 46]⟩, ⟨#[98, 98, 98]⟩, ⟨#[46]⟩), (⟨#[97, 98, 97, 98, 62, 46]⟩, ⟨#[97, 98, 97, 98]⟩, ⟨#[46]⟩)] = true := by decide +kernel
theorem eq_tx3 : chkS (nthS eqLits 3) 2 [(⟨#[97, 98, 62, 98, 97]⟩, ⟨#[97, 98]⟩, ⟨#[98, 97]⟩), (⟨#[97, 97, 62, 97]⟩, ⟨#[97, 97]⟩, ⟨#[97]⟩)] = true := by decide +kernel
theorem eq_tx4 : chkS (nthS eqLits 4) 2 [(⟨#[97, 98, 62, 46]⟩, ⟨#[97, 98]⟩, ⟨#[46]⟩)] = true := by decide +kernel
theorem eq_tx5 : chkS (nthS eqLits 5) 2 [(⟨#[97, 98, 97, 62, 98]⟩, ⟨#[97, 98, 97]⟩, ⟨#[98]⟩), (⟨#[98, 97, 98, 62, 97]⟩, ⟨#[98, 97, 98]⟩, ⟨#[97]⟩)] = true := by decide +kernel
theorem eq_tx6 : chkS (nthS eqLits 6) 2 [(⟨#[97, 97, 97, 97, 62, 46]⟩, ⟨#[97, 97, 97, 97]⟩, ⟨#[46]⟩), (⟨#[98, 98, 62, 46]⟩, ⟨#[98, 98]⟩, ⟨#[46]⟩), (⟨#[98, 97, 62, 97, 97, 97, 98]⟩, ⟨#[98, 97]⟩, ⟨#[97, 97, 97, 98]⟩)] = true := by decide +kernel
/-- what a text of equations says -/
def EqTx (s : ByteArray) : Prop := ∃ k R l, SysTx s k R l
theorem eqLits_tx : ∀ i, i < 7 → EqTx (nthS eqLits i) := fun i hi => by
  match i, hi with
  | 0, _ => exact ⟨_, _, _, chk_tx eq_tx0⟩
  | 1, _ => exact ⟨_, _, _, chk_tx eq_tx1⟩
  | 2, _ => exact ⟨_, _, _, chk_tx eq_tx2⟩
  | 3, _ => exact ⟨_, _, _, chk_tx eq_tx3⟩
  | 4, _ => exact ⟨_, _, _, chk_tx eq_tx4⟩
  | 5, _ => exact ⟨_, _, _, chk_tx eq_tx5⟩
  | 6, _ => exact ⟨_, _, _, chk_tx eq_tx6⟩
end Go.Proofs.YtgoeadgpbidgiaaGreatDoor
namespace Go.Proofs.YtgoeadgpbidgiaaGreatDoor
open Go.RowKit
set_option linter.unusedVariables false
section
variable {P : Program}
theorem run_append_off2 {tsl ty T : TypeId} {z : Value} {size bytes : Nat} (ht : P.underlying tsl = some (.slice T)) (hinfo : (P.info? T).map (fun i => (i.zero, i.size, i.bytes)) = some (some z, size, bytes))
    (hzs : z.cells.size = size) (hpos : 0 < size) {w : World} {base : Nat} {v x : Value} {n m : Nat} {xs news : List Value} (hb : ownsOff w base T size v n xs) (hbase : base ≤ w.heap.size) (hS : Go.Src P size tsl x m news w) (h63 : n + m ≤ maxLen) (hbytes : (n + m) * bytes ≤ 140737488355328) :
    ∃ v' w', (Builtin.append_ #[tsl, tsl] ty #[v, x]).run P w = .ok v' w' ∧ ownsOff w' base T size v' (n + m) (xs ++ news) ∧ w.grownBy w' v.ownBlock ∧ ∀ b, v'.ownBlock = some b → v.ownBlock = some b ∨ w.heap.size ≤ b := by
  have hn := hS.newsLen
  have h1 := hS.one
  obtain ⟨i, hi, hz, hsize, hby⟩ := info_parts hinfo
  subst hsize
  subst hby
  have hlen : (xs ++ news).length = (n + m) * i.size := by rw [List.length_append, hb.1, hn, Nat.add_mul]
  have h63' : ((n + m : Nat) : Int) ≤ 9223372036854775807 := by simp only [maxLen] at h63; omega
  have grown : ∀ (base0 : Option Addr) (cap : Nat), cap < n + m → (Builtin.firstCells i.size n (.slice base0 n cap)).run P w.drew = .ok xs.toArray w.drew → ∀ row,
      ∃ v' w', (Builtin.append_ #[tsl, tsl] ty #[.slice base0 n cap, x]).run P w = .ok v' w' ∧ ownsOff w' base T i.size v' (n + m) (xs ++ news) ∧ w.grownBy w' row ∧ ∀ b, v'.ownBlock = some b → w.heap.size ≤ b := by
    intro base0 cap hg hold row
    have hr := run_append_grow_src (P := P) w tsl tsl ty T i z ht hi hz base0 n cap xs hold x m news hS hg h63' (growslice_fits hg hbytes)
    have hge := grownCap_ge w (n + m) cap T
    have hcm : grownCap w (n + m) cap T ≤ maxLen := grownCap_le_maxLen w (n + m) cap T h63
    refine ⟨_, _, hr, ownsOff.of_row ⟨hlen, .inr ⟨w.heap.size, _, _, rfl, hbase, heap_alloc_new w.drew _, hge, hcm, ?_, ?_⟩⟩, ⟨rfl, rfl, rfl, by simp, fun k hk _ => heap_alloc_old w.drew _ hk⟩, fun b hb => by simp [Value.ownBlock] at hb; omega⟩
    · simp only [Array.size_append, List.size_toArray, size_zeroCells, hzs, hlen, ← Nat.add_mul]
      congr 1
      omega
    · simp only [Array.toList_append, List.append_assoc]
      rw [← List.append_assoc, ← hlen]
      exact List.take_left
  rcases hb.2 with ⟨rfl, rfl⟩ | ⟨g, o, cap, cur, rfl, hbg, hg, hnc, hcm, hcs, htake⟩
  · have hxs : xs = [] := List.eq_nil_of_length_eq_zero (by simpa using hb.1)
    subst hxs
    by_cases hm : m = 0
    · subst hm
      have hnn : news = [] := List.eq_nil_of_length_eq_zero (by simpa using hn)
      subst hnn
      refine ⟨.slice none 0 0, w, ?_, hb, ⟨rfl, rfl, rfl, Nat.le_refl _, fun _ _ _ => rfl⟩, fun b hb => by simp [Value.ownBlock] at hb⟩
      simp [Builtin.append_, run_underlying ht, sizeOf, typeInfo, hi, hS.len, hS.cells]
    · obtain ⟨v', w', h1, h2, h3, h4⟩ := grown none 0 (by omega) (by simp [Builtin.firstCells]) _
      exact ⟨v', w', h1, h2, h3, fun b hb => .inr (h4 b hb)⟩
  · by_cases hroom : n + m ≤ cap
    · have hfit : o + n * i.size + news.length ≤ cur.size := by
        rw [hn, Nat.add_assoc, ← Nat.add_mul]
        exact Nat.le_trans (Nat.add_le_add_left (Nat.mul_le_mul_right _ hroom) _) hcs
      have hst := run_storeCells_at P g (o + n * i.size) T news 0 cur w hg (by simpa using hfit) h1
      simp only [Nat.add_zero] at hst
      have hr : (Builtin.append_ #[tsl, tsl] ty #[.slice (some ⟨g, o, none⟩) n cap, x]).run P w = .ok (.slice (some ⟨g, o, none⟩) (n + m) cap) (w.setRow g (cur.toList.take (o + n * i.size) ++ news ++ cur.toList.drop (o + n * i.size + news.length)).toArray) := by
        simp [Builtin.append_, run_underlying ht, sizeOf, typeInfo, hi, hS.len, hroom, hS.cells, Addr.add_lit, hst]
      refine ⟨_, _, hr, ⟨hlen, .inr ⟨g, o, cap, _, rfl, hbg, setRow_heap w g cur _ T _ hg, hroom, hcm, ?_, ?_⟩⟩, ⟨rfl, rfl, rfl, by simp, fun k _ hk => setRow_other w g k _ (fun e => hk (by simp [Value.ownBlock, e]))⟩, fun b hb => .inl hb⟩
      · simp only [List.size_toArray, List.length_append, List.length_take, List.length_drop, Array.length_toList]
        omega
      · have e1 : (cur.toList.take (o + n * i.size)).drop o = xs := by rw [List.drop_take, Nat.add_sub_cancel_left, htake]
        have e2 : (cur.toList.take (o + n * i.size)).length = o + n * i.size := by rw [List.length_take, Array.length_toList]; omega
        have e3 : ((cur.toList.take (o + n * i.size) ++ news ++ cur.toList.drop (o + n * i.size + news.length)).toArray.toList).drop o = xs ++ news ++ cur.toList.drop (o + n * i.size + news.length) := by
          show (cur.toList.take (o + n * i.size) ++ news ++ cur.toList.drop (o + n * i.size + news.length)).drop o = _
          rw [List.append_assoc, List.drop_append_of_le_length (by omega), e1, List.append_assoc]
        rw [e3, ← hlen]
        exact List.take_left
    · have hc := hb.cellAt
      have := run_firstCells_some (P := P) w.drew i.size n ⟨g, o, none⟩ n cap xs hb.1 (fun j u hu => by rw [add_off]; simpa using hc j u hu)
      obtain ⟨v', w', h1, h2, h3, h4⟩ := grown (some ⟨g, o, none⟩) cap (by omega) this _
      exact ⟨v', w', h1, h2, h3, fun b hb => .inr (h4 b hb)⟩
theorem wpList_append_off2 {ops : Array Oper} {rest : List Oper} {o : Oper} {a : Act} {Q : Exit → Act → World → Prop} {T tsl : TypeId} {z : Value} {size bytes : Nat} (hgd : o.guard = none) (s x : Operand)
    (ho : o.op = .call { callee := .builtin .append, args := #[s, x], argTypes := #[tsl, tsl] }) (ht : P.underlying tsl = some (.slice T)) (hinfo : (P.info? T).map (fun i => (i.zero, i.size, i.bytes)) = some (some z, size, bytes))
    (hzs : z.cells.size = size) (hpos : 0 < size) {w : World} {base : Nat} {v u : Value} {n m : Nat} {xs news : List Value} (hs : a.eval s = v) (hb : ownsOff w base T size v n xs) (hbase : base ≤ w.heap.size) (hx : a.eval x = u) (hsrc : Go.Src P size tsl u m news w) (h63 : n + m ≤ maxLen) (hbytes : (n + m) * bytes ≤ 140737488355328)
    (hK : ∀ v' w', ownsOff w' base T size v' (n + m) (xs ++ news) → w.grownBy w' v.ownBlock → (∀ b, v'.ownBlock = some b → v.ownBlock = some b ∨ w.heap.size ≤ b) → wpList P ops Q rest (a.put o.dst v') w') : wpList P ops Q (o :: rest) a w := by
  refine wpList_plain hgd fun K hK' => ?_
  obtain ⟨v', w', hr, h2, h3, h4⟩ := run_append_off2 (P := P) (ty := o.type) ht hinfo hzs hpos hb hbase hsrc h63 hbytes
  unfold Oper.wp
  simp [execOp, ho, resolve, invoke, builtin, hs, hx, hr, Result.andThen]
  exact hK' _ _ (hK v' w' h2 h3 h4)
end
end Go.Proofs.YtgoeadgpbidgiaaGreatDoor
namespace Go.Proofs.YtgoeadgpbidgiaaGreatDoor
open Go.RowKit
set_option linter.unusedVariables false
def RetCl (l : List RulD) (w : World) (e : Ending) (w' : World) : Prop := ∃ a c, e = .returned (.slice a l.length c) ∧ ownsOff w' w.heap.size 39 2 (.slice a l.length c) l.length (ruleCells l) ∧ Below w.heap.size w w'
set_option maxRecDepth 20000 in
set_option maxHeartbeats 2000000 in
theorem cloneR_any (l : List RulD) (a : Option Addr) (cap : Nat) (w : World) (hl : RulesIn w a l) (hlen : l.length ≤ 1000000) :
    Calls Tryz.prog 127 #[.slice a l.length cap] w (RetCl l w) := by
  have q24 : ∀ (w : World) (a : Option Addr) (n c n' c' : Nat), (binOp .eql 25 (.slice a n c) (.slice none n' c')).run Tryz.prog w = .ok (.bool a.isNone) w := fun w a n c n' c' => Lib.run_eql_slice_nil w _ _ a n c n' c' Tryz.underlying25
  cases a with
  | none =>
    have hn : l = [] := by
      rcases hl with h | ⟨b, off, ha, _⟩
      · have hc := ruleCells_len l
        rw [h] at hc
        exact List.eq_nil_of_length_eq_zero (by simp at hc; omega)
      · cases ha
    subst hn
    have F : Hid (RetCl [] w (.returned (.slice none 0 0)) w) := Lib.hid ⟨none, 0, rfl, ⟨rfl, .inl ⟨rfl, rfl⟩⟩, Below.refl _ _⟩
    simp only [List.length_nil]
    go_enter Tryz.func127, Tryz.ntmps127
    go_wp2_with fail
    go_ret
    exact F.out
  | some ad =>
    have HE := Lib.hid (off_empty 39 2 w _ (Below.refl _ _))
    have HB2 := Lib.hid (alloc_belowS w (.cells #[] 39))
    have HSR := Lib.hid (src_rules (P := Tryz.prog) Tryz.underlying25 (RulesIn.later hl HB2.out) cap)
    have N3 : Hid (0 + l.length ≤ maxLen) := Lib.hid (by unfold maxLen; omega)
    have N4 : Hid ((0 + l.length) * 32 ≤ 140737488355328) := Lib.hid (by omega)
    clear hl hlen
    go_enter Tryz.func127, Tryz.ntmps127
    go_wp2_with (at_builtin; refine wpList_append_off2 rfl (.tmp 5) (.tmp 6) rfl Tryz.underlying25 Tryz.infoRule rfl (by decide) (by rfl) HE.out (by simp) (by rfl) HSR.out N3.out N4.out ?_; intro v2 w2 ho2 hg2 _; rw [Nat.zero_add, List.nil_append] at ho2; obtain ⟨va, vc, rfl⟩ := ho2.form; have k2 : Below w.heap.size w w2 := Below.grown HB2.out hg2 (by simp) (fun k hk => by simp [Value.ownBlock] at hk; omega))
    have F : Hid (RetCl l w (.returned (.slice va l.length vc)) w2) := Lib.hid ⟨va, vc, rfl, ho2, k2⟩
    clear ho2 hg2 k2
    go_wp2_with fail
    go_ret
    exact F.out
set_option maxHeartbeats 1000000 in
/-- an equation, the greater side on the left -/
theorem oriented_any (x y : ByteArray) (w : World) : Calls Tryz.prog 129 #[.agg #[.string x, .string y]] w fun e w' => e = .returned (.agg #[.string (orF2 x y).1, .string (orF2 x y).2]) ∧ Below w.heap.size w w' := by
  have HIL := Lib.hid (fun W => implIsLess_any x y W)
  have hlt := alloc_two w (.cells #[.string x, .string y] 39) (.cells #[.string ⟨#[]⟩, .string ⟨#[]⟩] 39)
  have hsz : ((w.alloc (.cells #[.string x, .string y] 39)).alloc (.cells #[.string ⟨#[]⟩, .string ⟨#[]⟩] 39)).heap.size = w.heap.size + 2 := by simp
  have HW0 : Hid (Below w.heap.size w ((w.alloc (.cells #[.string x, .string y] 39)).alloc (.cells #[.string ⟨#[]⟩, .string ⟨#[]⟩] 39))) := Lib.hid (Below.now (alloc_belowS w _) (alloc_belowS _ _))
  go_enter Tryz.func129, Tryz.ntmps129
  go_wp2_with fail
  refine (HIL.out _).mono ?_
  rintro e w2 ⟨rfl, hb2⟩
  have hbx := (hb2.block w.heap.size (by rw [hsz]; omega)).trans hlt.1
  have hz := (hb2.block (w.heap.size + 1) (by rw [hsz]; omega)).trans hlt.2
  have HBW := Lib.hid (Below.now HW0.out hb2)
  clear hb2 hlt hsz
  obtain ⟨s0, s1⟩ := sys_cells hbx
  obtain ⟨z0, z1⟩ := sys_cells hz
  have ff0 : w2.frozen? ⟨w.heap.size + 1, 0, none⟩ = false := by simp [World.frozen?, hz]
  have ff1 : w2.frozen? ⟨w.heap.size + 1, 1, none⟩ = false := by simp [World.frozen?, hz]
  cases hls : lessS x y
  · obtain ⟨u0, u1⟩ := sys_cells (set_two hz (.string x) (.string y))
    have F : Hid (Below w.heap.size w ((w2.setCell ⟨w.heap.size + 1, 0, none⟩ (.string x)).setCell ⟨w.heap.size + 1, 1, none⟩ (.string y))) := Lib.hid ((HBW.out.setCell (by show w.heap.size ≤ w.heap.size + 1; omega) _).setCell (by show w.heap.size ≤ w.heap.size + 1; omega) _)
    have E : orF2 x y = (x, y) := if_neg (by rw [hls]; simp)
    have HE := Lib.hid E
    clear E hls hbx hz
    go_wp2_with fail
    refine bodyPost_ret (v := .agg #[.string x, .string y]) ?_ rfl ⟨by rw [HE.out], F.out⟩
    simp [results, Tryz.results129, go_sem, u0, u1]
  · obtain ⟨u0, u1⟩ := sys_cells (set_two hz (.string y) (.string x))
    have F : Hid (Below w.heap.size w ((w2.setCell ⟨w.heap.size + 1, 0, none⟩ (.string y)).setCell ⟨w.heap.size + 1, 1, none⟩ (.string x))) := Lib.hid ((HBW.out.setCell (by show w.heap.size ≤ w.heap.size + 1; omega) _).setCell (by show w.heap.size ≤ w.heap.size + 1; omega) _)
    have E : orF2 x y = (y, x) := if_pos hls
    have HE := Lib.hid E
    clear E hls hbx hz
    go_wp2_with fail
    refine bodyPost_ret (v := .agg #[.string y, .string x]) ?_ rfl ⟨by rw [HE.out], F.out⟩
    simp [results, Tryz.results129, go_sem, u0, u1]
end Go.Proofs.YtgoeadgpbidgiaaGreatDoor
namespace Go.Proofs.YtgoeadgpbidgiaaGreatDoor
open Go.RowKit
set_option linter.unusedVariables false
/-- equations that a completion may start from -/
def startP (k : Int) (E : List RulD) : Prop := (1 ≤ k ∧ k ≤ 4) ∧ E.length ≤ 12 ∧ ∀ r ∈ E, sideP k r
theorem startP.work {k : Int} {E : List RulD} (h : startP k E) : WorkP k [] E 0 :=
  ⟨⟨⟨⟨h.1, by simp⟩, fun r hr => by cases hr⟩, fun r hr => by cases hr⟩, by have := h.2.1; omega, fun q hq => (h.2.2 q hq).1, by omega⟩
/-- what StartWork hands back -/
def RetSt (k : Int) (E : List RulD) (w : World) (e : Ending) (w' : World) : Prop :=
  (startP k E ∧ ∃ aQ cQ, e = .returned (.tuple #[workVal k none 0 0 aQ E.length cQ 0, .bool true]) ∧ RulesIn w' aQ E ∧ Below w.heap.size w w') ∨
  (¬ startP k E ∧ e = .returned (.tuple #[workVal 0 none 0 0 none 0 0 0, .bool false]) ∧ Below w.heap.size w w')
/-- a box of four cells is set -/
def put4 (W : World) (g : Nat) (a b c d : Value) : World := (((W.setCell ⟨g, 0, none⟩ a).setCell ⟨g, 1, none⟩ b).setCell ⟨g, 2, none⟩ c).setCell ⟨g, 3, none⟩ d
theorem put4_sets {W : World} {g : Nat} {x0 x1 x2 x3 : Value} {T : TypeId} (h : W.heap[g]? = some (.cells #[x0, x1, x2, x3] T (0, 0))) (a b c d : Value) :
    (W.frozen? ⟨g, 0, none⟩ = false ∧ W.frozen? ⟨g, 1, none⟩ = false ∧ W.frozen? ⟨g, 2, none⟩ = false ∧ W.frozen? ⟨g, 3, none⟩ = false) ∧
    ((put4 W g a b c d).cell? ⟨g, 0, none⟩ = some a ∧ (put4 W g a b c d).cell? ⟨g, 1, none⟩ = some b ∧ (put4 W g a b c d).cell? ⟨g, 2, none⟩ = some c ∧ (put4 W g a b c d).cell? ⟨g, 3, none⟩ = some d) ∧
    (W.cell? ⟨g, 0, none⟩ = some x0 ∧ W.cell? ⟨g, 1, none⟩ = some x1 ∧ W.cell? ⟨g, 2, none⟩ = some x2 ∧ W.cell? ⟨g, 3, none⟩ = some x3) ∧
    (put4 W g a b c d).heap[g]? = some (.cells #[a, b, c, d] T (0, 0)) := by
  have e : (put4 W g a b c d).heap[g]? = some (.cells #[a, b, c, d] T (0, 0)) := by
    unfold put4 World.setCell
    simp [Array.getElem?_modify, h]
  refine ⟨⟨by simp [World.frozen?, h], by simp [World.frozen?, h], by simp [World.frozen?, h], by simp [World.frozen?, h]⟩, ⟨by simp [World.cell?, e], by simp [World.cell?, e], by simp [World.cell?, e], by simp [World.cell?, e]⟩, ⟨by simp [World.cell?, h], by simp [World.cell?, h], by simp [World.cell?, h], by simp [World.cell?, h]⟩, e⟩
theorem put4_owns {W : World} {base : Nat} {T : TypeId} {size : Nat} {v : Value} {n : Nat} {xs : List Value} (h : ownsOff W base T size v n xs) {g : Nat} (hg : g < base) (a b c d : Value) : ownsOff (put4 W g a b c d) base T size v n xs :=
  (((h.setBelow (show g < base from hg) a).setBelow (show g < base from hg) b).setBelow (show g < base from hg) c).setBelow (show g < base from hg) d
theorem put4_below {B : Nat} {w W : World} (h : Below B w W) {g : Nat} (hg : B ≤ g) (a b c d : Value) : Below B w (put4 W g a b c d) := (((h.setCell (show B ≤ g from hg) a).setCell (show B ≤ g from hg) b).setCell (show B ≤ g from hg) c).setCell (show B ≤ g from hg) d
set_option maxRecDepth 100000 in
set_option maxHeartbeats 4000000 in
theorem specStartWork_any (k : Int) (E : List RulD) (a : Option Addr) (cap : Nat) (w : World) (hl : RulesIn w a E) (hlen : E.length ≤ 2 ^ 40) (hz : SzR E) :
    Calls Tryz.prog 118 #[.int .i64 k, .slice a E.length cap] w (RetSt k E w) := by
  have HL := Lib.hid hl
  have HZ := Lib.hid hz
  have HW1 := Lib.hid (alloc_belowS w (.cells #[.int .i64 0, .slice none 0 0, .slice none 0 0, .int .i64 0] 69))
  have hsz : w.heap.size < (w.alloc (.cells #[.int .i64 0, .slice none 0 0, .slice none 0 0, .int .i64 0] 69)).heap.size := by simp
  have hat := alloc_at w (.cells #[.int .i64 0, .slice none 0 0, .slice none 0 0, .int .i64 0] 69)
  have HBK : Hid (∀ W, Below (w.alloc (.cells #[.int .i64 0, .slice none 0 0, .slice none 0 0, .int .i64 0] 69)).heap.size (w.alloc (.cells #[.int .i64 0, .slice none 0 0, .slice none 0 0, .int .i64 0] 69)) W → W.heap[w.heap.size]? = some (.cells #[.int .i64 0, .slice none 0 0, .slice none 0 0, .int .i64 0] 69 (0, 0))) := Lib.hid (fun W hW => (hW.block _ hsz).trans hat)
  have HIN := Lib.hid (fun W => l01In_any k 1 4 W)
  have HSD := Lib.hid (fun (r : RulD) W (h1 : r.1.size ≤ maxLen) (h2 : r.2.size ≤ maxLen) => specSidesOk_any k r.1 r.2 W h1 h2)
  have HNO : Hid (∀ W, Below (w.alloc (.cells #[.int .i64 0, .slice none 0 0, .slice none 0 0, .int .i64 0] 69)).heap.size (w.alloc (.cells #[.int .i64 0, .slice none 0 0, .slice none 0 0, .int .i64 0] 69)) W → ¬ startP k E → RetSt k E w (.returned (.tuple #[.agg #[.int .i64 0, .slice none 0 0, .slice none 0 0, .int .i64 0], .bool false])) (put4 W w.heap.size (.int .i64 0) (.slice none 0 0) (.slice none 0 0) (.int .i64 0))) :=
    Lib.hid (fun W hW hn => .inr ⟨hn, rfl, put4_below (Below.now HW1.out hW) (Nat.le_refl _) _ _ _ _⟩)
  have HS1 := Lib.hid hsz
  clear hl hz hat hsz
  go_enter Tryz.func118, Tryz.ntmps118
  go_wp2_with fail
  generalize w.alloc (.cells #[.int .i64 0, .slice none 0 0, .slice none 0 0, .int .i64 0] 69) = w1 at *
  refine (HIN.out _).mono ?_
  rintro e w2 ⟨rfl, rfl⟩
  cases hk : inB k 1 4
  · have F := Lib.hid (HNO.out _ (Below.refl _ _) (fun h => by have h1 := h.1; unfold inB at hk; simp at hk; omega))
    obtain ⟨⟨f0, f1, f2, f3⟩, ⟨u0, u1, u2, u3⟩, ⟨q0, q1, q2, q3⟩, _⟩ := put4_sets (HBK.out _ (Below.refl _ _)) (.int .i64 0) (.slice none 0 0) (.slice none 0 0) (.int .i64 0)
    unfold put4 at F u0 u1 u2 u3
    go_wp2_with fail
    refine bodyPost_ret (v := .tuple #[.agg #[.int .i64 0, .slice none 0 0, .slice none 0 0, .int .i64 0], .bool false]) ?_ rfl F.out
    simp [results, Tryz.results118, go_sem, u0, u1, u2, u3]
  · have hk2 : 1 ≤ k ∧ k ≤ 4 := by unfold inB at hk; simp at hk; omega
    have HK := Lib.hid hk2
    clear hk2 HIN
    by_cases h12 : 12 < E.length
    · have hd : decide ((12 : Int) < (E.length : Int)) = true := by simp; omega
      have hd2 : (12 : Int) < (E.length : Int) := by omega
      have F := Lib.hid (HNO.out _ (Below.refl _ _) (fun h => by have h1 := h.2.1; omega))
      obtain ⟨⟨f0, f1, f2, f3⟩, ⟨u0, u1, u2, u3⟩, ⟨q0, q1, q2, q3⟩, _⟩ := put4_sets (HBK.out _ (Below.refl _ _)) (.int .i64 0) (.slice none 0 0) (.slice none 0 0) (.int .i64 0)
      unfold put4 at F u0 u1 u2 u3
      go_wp2_with fail
      refine bodyPost_ret (v := .tuple #[.agg #[.int .i64 0, .slice none 0 0, .slice none 0 0, .int .i64 0], .bool false]) ?_ rfl F.out
      simp [results, Tryz.results118, go_sem, u0, u1, u2, u3]
    · have hd : decide ((12 : Int) < (E.length : Int)) = false := by simp; omega
      have hd2 : ¬ (12 : Int) < (E.length : Int) := by omega
      go_wp2_with fail
      go_loopw [19] (fun vi wr => ∃ i : Nat, i ≤ E.length ∧ vi = .int .i64 (i : Nat) ∧ Below w1.heap.size w1 wr ∧ Hid (∀ j, j < i → sideP k (nthR E j))) (fun vi _ => E.length - (intOf vi).toNat)
      case atStart => exact ⟨0, Nat.zero_le _, rfl, Below.refl _ _, Lib.hid (fun j hj => by omega)⟩
      case round =>
        obtain ⟨i, hi, rfl, hbw, HD⟩ := hrel
        have HB := Lib.hid hbw
        clear hbw
        by_cases hlt : i < E.length
        · obtain ⟨b, off, rfl, hb, k0, k1⟩ := rule_at HL.out (Below.now HW1.out HB.out) hlt
          have hz := HZ.out i hlt
          have HC := Lib.hid (fun W => HSD.out (nthR E i) W hz.1 hz.2)
          have HMEM := Lib.hid (nthR_mem hlt)
          have HDS : Hid (sideP k (nthR E i) → ∀ j, j < i + 1 → sideP k (nthR E j)) := Lib.hid (fun h j hj => by
            rcases Nat.lt_succ_iff_lt_or_eq.1 hj with h1 | rfl
            · exact HD.out j h1
            · exact h)
          clear hz
          generalize nthR E i = r at *
          have HB2 := Lib.hid (Below.now HB.out (alloc_belowS wr (.cells #[.string r.1, .string r.2] 39)))
          go_wp2_with fail
          refine (HC.out _).mono ?_
          rintro e w3 ⟨bb, hbb, rfl, hb3⟩
          have HBB := Lib.hid hbb
          have HB3 := Lib.hid (Below.now HB2.out hb3)
          clear hbb hb3 k0 k1
          cases bb
          · have F := Lib.hid (HNO.out _ HB3.out (fun h => by
              have h1 := h.2.2 r HMEM.out
              have := HBB.out.2 h1
              cases this))
            obtain ⟨⟨f0, f1, f2, f3⟩, ⟨u0, u1, u2, u3⟩, ⟨q0, q1, q2, q3⟩, _⟩ := put4_sets (HBK.out _ HB3.out) (.int .i64 0) (.slice none 0 0) (.slice none 0 0) (.int .i64 0)
            unfold put4 at F u0 u1 u2 u3
            go_wp2_with fail
            refine bodyPost_ret (v := .tuple #[.agg #[.int .i64 0, .slice none 0 0, .slice none 0 0, .int .i64 0], .bool false]) ?_ rfl F.out
            simp [results, Tryz.results118, go_sem, u0, u1, u2, u3]
          · have HD2 := Lib.hid (HDS.out (HBB.out.1 rfl))
            go_wp2_with fail
            go_roundw
            case rel => exact ⟨i + 1, by omega, by go_num, HB3.out, HD2⟩
            case measure => simp [intOf]; omega
        · obtain rfl : i = E.length := by omega
          have HP : Hid (startP k E) := Lib.hid ⟨HK.out, by omega, fun r hr => by
            obtain ⟨j, hj, rfl⟩ := mem_nthR hr
            exact HD.out j hj⟩
          have HE := Lib.hid (off_empty 39 2 wr _ (Below.refl _ _))
          have HB2 := Lib.hid (alloc_belowS wr (.cells #[] 39))
          have HSR := Lib.hid (src_rules (P := Tryz.prog) Tryz.underlying25 (HL.out.later (Below.now HW1.out (Below.now HB.out HB2.out))) cap)
          generalize hW : wr = wm at *
          clear hW
          go_wp2_with (at_builtin; (refine wpList_append_off2 rfl (.tmp 31) (.tmp 32) rfl Tryz.underlying25 Tryz.infoRule rfl (by decide) (by rfl) HE.out (by simp) (by rfl) HSR.out (by unfold maxLen; omega) (by omega) ?_; intro v2 w2 ho2 hg2 _; rw [Nat.zero_add, List.nil_append] at ho2; obtain ⟨va, vc, rfl⟩ := ho2.form; have k2 : Below wm.heap.size wm w2 := Below.grown HB2.out hg2 (by simp) (fun k hk => by simp [Value.ownBlock] at hk; omega); obtain ⟨⟨f0, f1, f2, f3⟩, ⟨u0, u1, u2, u3⟩, ⟨q0, q1, q2, q3⟩, _⟩ := put4_sets (HBK.out _ (Below.now HB.out k2)) (.int .i64 k) (.slice none 0 0) (.slice va E.length vc) (.int .i64 0); have HO2 := Lib.hid ho2; have K2 := Lib.hid k2; clear ho2 hg2 k2))
          have F : Hid (RetSt k E w (.returned (.tuple #[.agg #[.int .i64 k, .slice none 0 0, .slice va E.length vc, .int .i64 0], .bool true])) (put4 w2 w.heap.size (.int .i64 k) (.slice none 0 0) (.slice va E.length vc) (.int .i64 0))) := Lib.hid (.inl ⟨HP.out, va, vc, rfl, (put4_owns HO2.out (by have := HS1.out; have := HB.out.size; omega) _ _ _ _).cells, put4_below (Below.now HW1.out (Below.now HB.out K2.out)) (Nat.le_refl _) _ _ _ _⟩)
          unfold put4 at F u0 u1 u2 u3
          refine bodyPost_ret (v := .tuple #[.agg #[.int .i64 k, .slice none 0 0, .slice va E.length vc, .int .i64 0], .bool true]) ?_ rfl F.out
          simp [results, Tryz.results118, go_sem, u0, u1, u2, u3]
end Go.Proofs.YtgoeadgpbidgiaaGreatDoor
