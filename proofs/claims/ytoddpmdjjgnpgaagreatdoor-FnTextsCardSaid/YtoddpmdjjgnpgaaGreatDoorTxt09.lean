/-
  slices.IndexFunc and slices.ContainsFunc at strings.
-/
import Derived.Test.YtoddpmdjjgnpgaaGreatDoorTxt08
import Derived.Test.YtoddpmdjjgnpgaaGreatDoorTxt04
import Derived.Test.YtoddpmdjjgnpgaaGreatDoorTxt06
import Derived.Test.YtoddpmdjjgnpgaaGreatDoorTxt07
import Derived.Test.YtoddpmdjjgnpgaaGreatDoorTxt03
import Derived.Test.YtoddpmdjjgnpgaaGreatDoorTxt01
import Derived.Shelf.Abstract
namespace Go.Proofs.YtoddpmdjjgnpgaaGreatDoor
open Go.RowKit
set_option linter.unusedVariables false
/-- rules whose sides have at most m bytes -/
def ShortR (m : Nat) (R : List RulD) : Prop := ∀ r ∈ R, r.1.size ≤ m ∧ r.2.size ≤ m
theorem ShortR.app {m : Nat} {R : List RulD} {r : RulD} (h : ShortR m R) (hr : r.1.size ≤ m ∧ r.2.size ≤ m) : ShortR m (R ++ [r]) := by
  intro x hx
  rcases List.mem_append.1 hx with h1 | h1
  · exact h x h1
  · obtain rfl : x = r := by simpa using h1
    exact hr
theorem ShortR.sz {m : Nat} {R : List RulD} (h : ShortR m R) (hm : m ≤ maxLen) : SzR R := fun j hj => ⟨Nat.le_trans (h _ (nthR_mem hj)).1 hm, Nat.le_trans (h _ (nthR_mem hj)).2 hm⟩
/-- some system in memory of its own -/
def RetPSo (m : Nat) (w : World) (e : Ending) (w' : World) : Prop := ∃ (k : Int) (R : List RulD) (a : Option Addr) (cap : Nat) (b : Bool),
  (ShortR m R ∧ R.length ≤ m) ∧ e = .returned (.tuple #[.agg #[.int .i64 k, .slice a R.length cap], .bool b]) ∧ w'.ownsRow (w.heap.size + 1) 120 2 (.slice a R.length cap) R.length (ruleCells R) ∧ Below w.heap.size w w'
theorem RetPSo.zero {m : Nat} {w wr : World} (h : Below w.heap.size w wr) : RetPSo m w (.returned (.tuple #[.agg #[.int .i64 0, .slice none 0 0], .bool false])) ((wr.setCell ⟨w.heap.size, 0, none⟩ (.int .i64 0)).setCell ⟨w.heap.size, 1, none⟩ (.slice none 0 0)) :=
  ⟨0, [], none, 0, false, ⟨fun r hr => by simp at hr, Nat.zero_le _⟩, rfl, World.ownsRow_nil _ _ _ _, (h.setCell (Nat.le_refl _) _).setCell (Nat.le_refl _) _⟩
set_option maxRecDepth 20000 in
set_option maxHeartbeats 4000000 in
theorem specParseSystem_o (s : ByteArray) (w : World) (hs : s.size ≤ 1000) :
    Calls Tryz.prog 86 #[.string s] w (RetPSo (s.size + 1) w) := by
  have HSP := Lib.hid (fun W => specSplitAny_any s 32 W (by omega))
  have HW1 := Lib.hid ((Below.refl w.heap.size w).alloc (Nat.le_refl _) (.cells #[.int .i64 0, .slice none 0 0] 25))
  go_enter Tryz.func86, Tryz.ntmps86
  go_wp2_with fail
  refine (HSP.out _).mono ?_
  rintro e w2 ⟨l, ⟨hl1, hl2, hl3⟩, a, cap, rfl, ho, hb2⟩
  have hb0 := (hb2.block w.heap.size (by simp)).trans (alloc_at w (.cells #[.int .i64 0, .slice none 0 0] 25))
  have hcap := owns_capS ho
  obtain ⟨g, hg, off, rfl, hcells⟩ : ∃ g, g < w2.heap.size ∧ ∃ off, a = some ⟨g, off, none⟩ ∧ ∀ j, j < l.length → w2.cell? ⟨g, off + j, none⟩ = some (.string (nthS l j)) := by
    obtain ⟨b, off, ha, hb, hc⟩ := (owns_strs ho).cell (show 0 < l.length by omega)
    exact ⟨b, hb, off, ha, hc⟩
  have hc0 : w2.cell? ⟨g, off, none⟩ = some (.string (nthS l 0)) := hcells 0 (by omega)
  have hz0 := hl1.at_ (show 0 < l.length by omega)
  have HPI := Lib.hid (fun W => specParseInt_any (nthS l 0) W (by omega))
  have HB2 := Lib.hid (Below.now HW1.out hb2)
  have HC := Lib.hid hcells
  have HO := Lib.hid hb0
  clear hcells hb2 ho hz0 hb0
  generalize nthS l 0 = s0 at *
  go_wp2_with fail
  refine (HPI.out _).mono ?_
  rintro e w3 ⟨n, b, ⟨hn1, hn2⟩, rfl, hb3⟩
  have hb0 := (hb3.block w.heap.size (Array.getElem?_eq_some_iff.1 HO.out).1).trans HO.out
  have HB3 := Lib.hid (Below.now HB2.out hb3)
  have HC3 : Hid (∀ j, j < l.length → w3.cell? ⟨g, off + j, none⟩ = some (.string (nthS l j))) := Lib.hid (fun j hj => by rw [hb3.cell (World.block_lt_of_cell? w2 _ (HC.out j hj))]; exact HC.out j hj)
  clear hb3 HC HO HPI hc0
  cases b
  · have F := Lib.hid (RetPSo.zero (m := s.size + 1) HB3.out)
    obtain ⟨z0, z1⟩ := sys_cells hb0
    obtain ⟨u0, u1⟩ := sys_cells (set_two hb0 (.int .i64 0) (.slice none 0 0))
    have ff0 : w3.frozen? ⟨w.heap.size, 0, none⟩ = false := by simp [World.frozen?, hb0]
    have ff1 : w3.frozen? ⟨w.heap.size, 1, none⟩ = false := by simp [World.frozen?, hb0]
    clear hb0
    go_wp2_with fail
    refine bodyPost_ret (v := .tuple #[.agg #[.int .i64 0, .slice none 0 0], .bool false]) ?_ rfl F.out
    simp [results, Tryz.results86, go_sem, u0, u1]
  · have HR := Lib.hid (Rec2.start 25 120 2 (w := w3) (w1 := w3) (Below.refl _ _) (.int .i64 n))
    obtain ⟨m, hm⟩ : ∃ m, l.length = m + 1 := ⟨l.length - 1, by omega⟩
    have HZ := Lib.hid hb0
    clear hb0
    go_upto_region 6 with fail
    generalize hW4 : w3.alloc (.cells #[.int .i64 n, .slice none 0 0] 25) = w4 at *
    go_cut [27, 28, 29] (fun v u i wx => ∃ off2 cap2, v = .slice (some ⟨g, off2, none⟩) m cap2 ∧ u = .int .i64 (m : Nat) ∧ i = .int .i64 0 ∧ (∀ j, j < m → w3.cell? ⟨g, off2 + j, none⟩ = some (.string (nthS l (j + 1)))) ∧ wx = w4)
    case first =>
      by_cases hc1 : cap = 1
      · subst hc1
        obtain rfl : m = 0 := by omega
        go_wp2_with fail
        go_meet
        exact ⟨_, _, rfl, rfl, rfl, fun j hj => by omega, rfl⟩
      · have hc2 : (1 : Int) < (cap : Int) := by omega
        have hc3 : ¬ (cap : Int) = 1 := by omega
        have HCC : Hid (∀ j, j < m → w3.cell? ⟨g, off + 1 + j, none⟩ = some (.string (nthS l (j + 1)))) := Lib.hid (fun j hj => by rw [show off + 1 + j = off + (j + 1) by omega]; exact HC3.out (j + 1) (by omega))
        go_wp2_with fail
        go_meet
        exact ⟨_, _, rfl, rfl, rfl, HCC.out, rfl⟩
    case rest =>
      obtain ⟨off2, cap2, rfl, rfl, rfl, hcs, rfl⟩ := hcut
      have HCS := Lib.hid hcs
      clear hcs HC3 hW4
      go_wp2_with fail
      go_loopw [29] (fun i wr => ∃ (R : List RulD) (v : Value), R.length ≤ m ∧ i = .int .i64 (R.length : Nat) ∧ Hid (ShortR s.size R) ∧ Hid (Rec2 25 120 2 w3 wr w3.heap.size (.int .i64 n) v R.length (ruleCells R))) (fun i _ => m - (intOf i).toNat)
      case atStart => exact ⟨[], .slice none 0 0, Nat.zero_le _, rfl, Lib.hid (fun r hr => by simp at hr), HR⟩
      case round =>
        clear HR
        obtain ⟨R, v, hj, rfl, hsh, HRC⟩ := hrel
        obtain ⟨a3, c3, rfl⟩ := owns_form HRC.out.own
        have HBW := Lib.hid (Below.now HB3.out HRC.out.below)
        have hz := (HRC.out.below.block w.heap.size (Array.getElem?_eq_some_iff.1 HZ.out).1).trans HZ.out
        have hsz := HRC.out.lt
        by_cases hlt : R.length < m
        · have cw : wr.cell? ⟨g, off2 + R.length, none⟩ = some (.string (nthS l (R.length + 1))) := by rw [HRC.out.below.cell (World.block_lt_of_cell? w3 _ (HCS.out R.length hlt))]; exact HCS.out R.length hlt
          have hnz := hl1.at_ (show R.length + 1 < l.length by omega)
          have HPR := Lib.hid (fun W => specParseRule_any (nthS l (R.length + 1)) W (by omega))
          generalize nthS l (R.length + 1) = sj at *
          have HZW := Lib.hid hz
          clear hz
          go_wp2_with fail
          refine (HPR.out _).mono ?_
          rintro e w5 ⟨x, y, b, ⟨hx, hy⟩, rfl, hb5⟩
          have HR5 := Lib.hid (HRC.out.later hb5)
          have HB5 := Lib.hid (Below.now HBW.out hb5)
          have hz5 := (hb5.block w.heap.size (Array.getElem?_eq_some_iff.1 HZW.out).1).trans HZW.out
          have HK6 := Lib.hid (fun o => alloc_belowS w5 o)
          have hz := ((HK6.out (.cells #[.string x, .string y] 120)).block w.heap.size (Array.getElem?_eq_some_iff.1 hz5).1).trans hz5
          have HR6 := Lib.hid (HR5.out.later (HK6.out (.cells #[.string x, .string y] 120)))
          replace HBW := Lib.hid (Below.now HB5.out (HK6.out (.cells #[.string x, .string y] 120)))
          obtain ⟨n0, n1⟩ := sys_cells (alloc_at w5 (.cells #[.string x, .string y] 120))
          clear HRC HZW cw hb5 HR5 HB5 hz5 HK6 HPR
          go_upto_region 10 with fail
          generalize w5.alloc (.cells #[.string x, .string y] 120) = w6 at *
          cases b
          · have F := Lib.hid (RetPSo.zero (m := s.size + 1) HBW.out)
            obtain ⟨z0, z1⟩ := sys_cells hz
            obtain ⟨u0, u1⟩ := sys_cells (set_two hz (.int .i64 0) (.slice none 0 0))
            have ff0 : w6.frozen? ⟨w.heap.size, 0, none⟩ = false := by simp [World.frozen?, hz]
            have ff1 : w6.frozen? ⟨w.heap.size, 1, none⟩ = false := by simp [World.frozen?, hz]
            clear hz
            go_wp2_with fail
            refine bodyPost_ret (v := .tuple #[.agg #[.int .i64 0, .slice none 0 0], .bool false]) ?_ rfl F.out
            simp [results, Tryz.results86, go_sem, u0, u1]
          · have HN1 : Hid ([Value.string x, .string y].length = 1 * 2) := Lib.hid rfl
            have HN2 : Hid (∀ v ∈ [Value.string x, .string y], v.oneCell' = true) := Lib.hid (fun v hv => by simp at hv; rcases hv with rfl | rfl <;> rfl)
            obtain ⟨_, y1, _, y3⟩ := HR6.out.facts
            clear hz
            go_wp2_with (at_builtin; refine wpList_appH (n := R.length) (wr := w6) (news := [Value.string x, .string y]) rfl (.tmp 42) (.tmp 44) rfl Tryz.underlying23 Tryz.infoRule rfl (by decide) rfl HR6.out.own HR6.out.lt rfl HN1.out HN2.out (by unfold maxLen; omega) (by omega) ?_; intro g4 c4 w4 ho4 hg4 hr4; obtain ⟨_, x1, _, x3⟩ := rec_cells (HR6.out.grown (Below.refl _ _) hg4))
            have HR4 : Hid (Rec2 25 120 2 w3 (w4.setCell ⟨w3.heap.size, 1, none⟩ (.slice (some ⟨g4, 0, none⟩) (R.length + 1) c4)) w3.heap.size (.int .i64 n) (.slice (some ⟨g4, 0, none⟩) (R.length + 1) c4) (R ++ [(x, y)]).length (ruleCells (R ++ [(x, y)]))) := Lib.hid (by
              rw [List.length_append, ruleCells_app, show ruleCells [(x, y)] = [Value.string x, .string y] from rfl]; exact HR6.out.put (Below.refl _ _) hg4 ho4)
            have HSH := Lib.hid (hsh.out.app (r := (x, y)) ⟨by show x.size ≤ s.size; omega, by show y.size ≤ s.size; omega⟩)
            clear ho4 hg4 hr4 y1 y3 n0 n1 x1 x3
            go_wp2_with fail
            go_roundw
            case rel => exact ⟨R ++ [(x, y)], _, by simp; omega, by simp, HSH, HR4⟩
            case measure => simp [intOf]; omega
        · obtain rfl : m = R.length := by omega
          have HRO := Lib.hid (fun W h => specRulesOk_any n R a3 c3 W h (by omega) (hsh.out.sz (by unfold maxLen; omega)))
          have HFS := Lib.hid (fun W h => specFormatSystem_any n R a3 c3 W h (by omega) (hsh.out.sz (by unfold maxLen; omega)))
          have HRI := Lib.hid (owns_rules HRC.out.own)
          obtain ⟨y0, y1, _, _⟩ := HRC.out.facts
          have HZW := Lib.hid hz
          clear hz
          go_wp2_with fail
          refine (HRO.out _ HRI.out).mono ?_
          rintro e w5 ⟨bb, hbb, rfl, hb5⟩
          have HR5 := Lib.hid (HRC.out.later hb5)
          replace HBW := Lib.hid (Below.now HBW.out hb5)
          have hz := (hb5.block w.heap.size (Array.getElem?_eq_some_iff.1 HZW.out).1).trans HZW.out
          clear HRC HZW hb5 HRO hbb y0 y1 HRI
          cases bb
          · have F := Lib.hid (RetPSo.zero (m := s.size + 1) HBW.out)
            obtain ⟨z0, z1⟩ := sys_cells hz
            obtain ⟨u0, u1⟩ := sys_cells (set_two hz (.int .i64 0) (.slice none 0 0))
            have ff0 : w5.frozen? ⟨w.heap.size, 0, none⟩ = false := by simp [World.frozen?, hz]
            have ff1 : w5.frozen? ⟨w.heap.size, 1, none⟩ = false := by simp [World.frozen?, hz]
            clear hz
            go_wp2_with fail
            refine bodyPost_ret (v := .tuple #[.agg #[.int .i64 0, .slice none 0 0], .bool false]) ?_ rfl F.out
            simp [results, Tryz.results86, go_sem, u0, u1]
          · have HRI := Lib.hid (owns_rules HR5.out.own)
            obtain ⟨y0, y1, _, _⟩ := HR5.out.facts
            have HZW := Lib.hid hz
            clear hz
            go_wp2_with fail
            refine (HFS.out _ HRI.out).mono ?_
            rintro e w6 ⟨rfl, hb6⟩
            have HR6 := Lib.hid (HR5.out.later hb6)
            replace HBW := Lib.hid (Below.now HBW.out hb6)
            have hz := (hb6.block w.heap.size (Array.getElem?_eq_some_iff.1 HZW.out).1).trans HZW.out
            clear HR5 HZW hb6 HFS y0 y1 HRI
            generalize sysT0 n R = st at *
            cases hq : (st.toList == s.toList)
            · have F := Lib.hid (RetPSo.zero (m := s.size + 1) HBW.out)
              obtain ⟨z0, z1⟩ := sys_cells hz
              obtain ⟨u0, u1⟩ := sys_cells (set_two hz (.int .i64 0) (.slice none 0 0))
              have ff0 : w6.frozen? ⟨w.heap.size, 0, none⟩ = false := by simp [World.frozen?, hz]
              have ff1 : w6.frozen? ⟨w.heap.size, 1, none⟩ = false := by simp [World.frozen?, hz]
              clear hz
              go_wp2_with fail
              refine bodyPost_ret (v := .tuple #[.agg #[.int .i64 0, .slice none 0 0], .bool false]) ?_ rfl F.out
              simp [results, Tryz.results86, go_sem, u0, u1]
            · have F : Hid (RetPSo (s.size + 1) w (.returned (.tuple #[.agg #[.int .i64 n, .slice a3 R.length c3], .bool true])) ((w6.setCell ⟨w.heap.size, 0, none⟩ (.int .i64 n)).setCell ⟨w.heap.size, 1, none⟩ (.slice a3 R.length c3))) := Lib.hid ⟨n, R, a3, c3, true, ⟨fun r hr => ⟨Nat.le_trans (hsh.out r hr).1 (by omega), Nat.le_trans (hsh.out r hr).2 (by omega)⟩, by omega⟩, rfl,
                owns_mono (ownsRow_setCell_below (ownsRow_setCell_below HR6.out.own (by show w.heap.size < w3.heap.size + 1; have := HB3.out.size; omega) _) (by show w.heap.size < w3.heap.size + 1; have := HB3.out.size; omega) _) (by have := HB3.out.size; omega), (HBW.out.setCell (Nat.le_refl _) _).setCell (Nat.le_refl _) _⟩
              obtain ⟨y0, y1, _, _⟩ := HR6.out.facts
              obtain ⟨z0, z1⟩ := sys_cells hz
              obtain ⟨u0, u1⟩ := sys_cells (set_two hz (.int .i64 n) (.slice a3 R.length c3))
              have ff0 : w6.frozen? ⟨w.heap.size, 0, none⟩ = false := by simp [World.frozen?, hz]
              have ff1 : w6.frozen? ⟨w.heap.size, 1, none⟩ = false := by simp [World.frozen?, hz]
              clear hz
              go_wp2_with fail
              refine bodyPost_ret (v := .tuple #[.agg #[.int .i64 n, .slice a3 R.length c3], .bool true]) ?_ rfl F.out
              simp [results, Tryz.results86, go_sem, u0, u1]
end Go.Proofs.YtoddpmdjjgnpgaaGreatDoor
namespace Go.Proofs.YtoddpmdjjgnpgaaGreatDoor
open Go.RowKit
set_option linter.unusedVariables false
def RetOri (k : Int) (w : World) (e : Ending) (w' : World) : Prop := ∃ (p : RulD) (b : Bool), (b = true → ruleP k p ∧ lessS p.2 p.1 = true) ∧ e = .returned (.tuple #[.agg #[.string p.1, .string p.2], .bool b]) ∧ Below w.heap.size w w'
theorem RetOri.zero {k : Int} {w wr : World} (h : Below w.heap.size w wr) : RetOri k w (.returned (.tuple #[.agg #[.string ⟨#[]⟩, .string ⟨#[]⟩], .bool false])) ((wr.setCell ⟨w.heap.size + 1, 0, none⟩ (.string ⟨#[]⟩)).setCell ⟨w.heap.size + 1, 1, none⟩ (.string ⟨#[]⟩)) :=
  ⟨(⟨#[]⟩, ⟨#[]⟩), false, fun h => Bool.noConfusion h, rfl, (h.setCell (by show w.heap.size ≤ w.heap.size + 1; omega) _).setCell (by show w.heap.size ≤ w.heap.size + 1; omega) _⟩
theorem RetOri.some {k : Int} {w wr : World} {x y : ByteArray} (hr : ruleP k (x, y)) (hl : lessS y x = true) (h : Below w.heap.size w wr) : RetOri k w (.returned (.tuple #[.agg #[.string x, .string y], .bool true])) ((wr.setCell ⟨w.heap.size + 1, 0, none⟩ (.string x)).setCell ⟨w.heap.size + 1, 1, none⟩ (.string y)) :=
  ⟨(x, y), true, fun _ => ⟨hr, hl⟩, rfl, (h.setCell (by show w.heap.size ≤ w.heap.size + 1; omega) _).setCell (by show w.heap.size ≤ w.heap.size + 1; omega) _⟩
set_option maxRecDepth 20000 in
set_option maxHeartbeats 4000000 in
theorem specOrientRule_any (k : Int) (x y : ByteArray) (w : World) (hx : x.size ≤ maxLen) (hy : y.size ≤ maxLen) :
    Calls Tryz.prog 88 #[.int .i64 k, .agg #[.string x, .string y]] w (RetOri k w) := by
  have HSD := Lib.hid (fun W => specSidesOk_any k x y W hx hy)
  have HIL := Lib.hid (fun W => specIsLess_any x y W hx hy)
  have hlt := alloc_two w (.cells #[.string x, .string y] 120) (.cells #[.string ⟨#[]⟩, .string ⟨#[]⟩] 120)
  have hsz : ((w.alloc (.cells #[.string x, .string y] 120)).alloc (.cells #[.string ⟨#[]⟩, .string ⟨#[]⟩] 120)).heap.size = w.heap.size + 2 := by simp
  have HW0 : Hid (Below w.heap.size w ((w.alloc (.cells #[.string x, .string y] 120)).alloc (.cells #[.string ⟨#[]⟩, .string ⟨#[]⟩] 120))) := Lib.hid (Below.now (alloc_belowS w _) (alloc_belowS _ _))
  go_enter Tryz.func88, Tryz.ntmps88
  go_wp2_with fail
  refine (HSD.out _).mono ?_
  rintro e w2 ⟨bb, hbb, rfl, hb2⟩
  have HBB := Lib.hid hbb
  have hbx := (hb2.block w.heap.size (by rw [hsz]; omega)).trans hlt.1
  have hz := (hb2.block (w.heap.size + 1) (by rw [hsz]; omega)).trans hlt.2
  have HBW := Lib.hid (Below.now HW0.out hb2)
  clear hbb hb2 HSD hlt hsz
  obtain ⟨s0, s1⟩ := sys_cells hbx
  obtain ⟨z0, z1⟩ := sys_cells hz
  have ff0 : w2.frozen? ⟨w.heap.size + 1, 0, none⟩ = false := by simp [World.frozen?, hz]
  have ff1 : w2.frozen? ⟨w.heap.size + 1, 1, none⟩ = false := by simp [World.frozen?, hz]
  cases bb
  · have F := Lib.hid (RetOri.zero (k := k) HBW.out)
    obtain ⟨u0, u1⟩ := sys_cells (set_two hz (.string ⟨#[]⟩) (.string ⟨#[]⟩))
    go_wp2_with fail
    refine bodyPost_ret (v := .tuple #[.agg #[.string ⟨#[]⟩, .string ⟨#[]⟩], .bool false]) ?_ rfl F.out
    simp [results, Tryz.results88, go_sem, u0, u1]
  · have hsd := HBB.out.1 rfl
    cases hq : (x.toList == y.toList)
    · have hne : x ≠ y := fun e => by rw [e] at hq; simp at hq
      have hor := orF2_less hne
      unfold orF2 at hor
      cases hls : lessS x y
      · have F := Lib.hid (RetOri.some (k := k) (x := x) (y := y) ⟨hsd, by rw [hls] at hor; exact less_ne hor⟩ (by rw [hls] at hor; exact hor) HBW.out)
        obtain ⟨u0, u1⟩ := sys_cells (set_two hz (.string x) (.string y))
        rw [hls] at HIL
        clear hor hsd hne hbx hz HBB
        go_wp2_with (go_at_call 113; refine (HIL.out _).mono ?_; rintro e w' ⟨rfl, rfl⟩)
        refine bodyPost_ret (v := .tuple #[.agg #[.string x, .string y], .bool true]) ?_ rfl F.out
        simp [results, Tryz.results88, go_sem, u0, u1]
      · have F := Lib.hid (RetOri.some (k := k) (x := y) (y := x) ⟨⟨⟨hsd.1.2, hsd.1.1⟩, hsd.2.2, hsd.2.1⟩, less_ne hls⟩ hls HBW.out)
        obtain ⟨u0, u1⟩ := sys_cells (set_two hz (.string y) (.string x))
        rw [hls] at HIL
        clear hor hsd hne hbx hz HBB
        go_wp2_with (go_at_call 113; refine (HIL.out _).mono ?_; rintro e w' ⟨rfl, rfl⟩)
        refine bodyPost_ret (v := .tuple #[.agg #[.string y, .string x], .bool true]) ?_ rfl F.out
        simp [results, Tryz.results88, go_sem, u0, u1]
    · have F := Lib.hid (RetOri.zero (k := k) HBW.out)
      obtain ⟨u0, u1⟩ := sys_cells (set_two hz (.string ⟨#[]⟩) (.string ⟨#[]⟩))
      clear hsd hbx hz HBB
      go_wp2_with fail
      refine bodyPost_ret (v := .tuple #[.agg #[.string ⟨#[]⟩, .string ⟨#[]⟩], .bool false]) ?_ rfl F.out
      simp [results, Tryz.results88, go_sem, u0, u1]
end Go.Proofs.YtoddpmdjjgnpgaaGreatDoor
namespace Go.Proofs.YtoddpmdjjgnpgaaGreatDoor
open Go.RowKit
set_option linter.unusedVariables false
end Go.Proofs.YtoddpmdjjgnpgaaGreatDoor
namespace Go.Proofs.YtoddpmdjjgnpgaaGreatDoor
open Go.RowKit
set_option linter.unusedVariables false
end Go.Proofs.YtoddpmdjjgnpgaaGreatDoor
namespace Go.Proofs.YtoddpmdjjgnpgaaGreatDoor
open Go.RowKit
set_option linter.unusedVariables false
/-- what the first loop has made: the rules that fell out, and those that are kept -/
structure InsSt (w1 wr : World) (g : Nat) (k : Int) (v6 vL : Value) (G K : List RulD) : Prop where
  gone : Bld 120 2 w1 wr v6 G.length (ruleCells G)
  rec2 : Rec2 25 120 2 w1 wr g (.int .i64 k) vL K.length (ruleCells K)
  far : ∀ b, v6.ownBlock = some b → b ≠ g ∧ vL.ownBlock ≠ some b
theorem InsSt.later {w1 wr wr' : World} {g : Nat} {k : Int} {v6 vL : Value} {G K : List RulD} (h : InsSt w1 wr g k v6 vL G K) (hb : Below wr.heap.size wr wr') : InsSt w1 wr' g k v6 vL G K := ⟨h.gone.later hb, h.rec2.later hb, h.far⟩
theorem Rec2.keptG {TT T : TypeId} {size : Nat} {w wr wr' : World} {g : Nat} {x v : Value} {n : Nat} {xs : List Value} {own : Option Nat} (h : Rec2 TT T size w wr g x v n xs) (hg : wr.grownBy wr' own) (h1 : own ≠ some g) (h2 : ∀ b, v.ownBlock = some b → own ≠ some b) (h3 : ∀ b, own = some b → w.heap.size ≤ b) : Rec2 TT T size w wr' g x v n xs := by
  refine ⟨(hg.block g h.lt (fun e => h1 e.symm)).trans h.blk, h.own.kept hg ?_, h.le, h.below.grown hg h.below.size h3⟩
  cases hv : v.ownBlock with
  | none => exact .inl rfl
  | some b => exact .inr (fun e => h2 b hv e.symm)
theorem block_later {W : World} {i : Nat} {o : Obj} (h : W.heap[i]? = some o) : ∀ W', Below W.heap.size W W' → W'.heap[i]? = some o := fun W' hW => (hW.block i (Array.getElem?_eq_some_iff.1 h).1).trans h
theorem alloc_oldI (W : World) (o : Obj) {n : Nat} {x : Obj} (h : W.heap[n]? = some x) : (W.alloc o).heap[n]? = some x := (block_later h) _ (alloc_belowS W o)
/-- another block is set -/
theorem Rec2.setFar {TT T : TypeId} {size : Nat} {w wr : World} {g : Nat} {x v : Value} {n : Nat} {xs : List Value} (h : Rec2 TT T size w wr g x v n xs) {b : Nat} (o : Nat) (u : Value) (h1 : b ≠ g) (h2 : v.ownBlock ≠ some b) (h3 : w.heap.size ≤ b) : Rec2 TT T size w (wr.setCell ⟨b, o, none⟩ u) g x v n xs :=
  h.keptG (setGrownB wr b o u) (fun e => h1 (Option.some.inj e)) (fun c hc e => h2 (by rw [hc, ← e])) (fun c e => by have := Option.some.inj e; omega)
end Go.Proofs.YtoddpmdjjgnpgaaGreatDoor
namespace Go.Proofs.YtoddpmdjjgnpgaaGreatDoor
open Go.RowKit
set_option linter.unusedVariables false
theorem CurOk.grownO {w w' : World} {B : Nat} {a : Option Addr} {l : List UInt8} {cap : Nat} {own : Option Nat} (h : CurOk w B a l cap) (hg : w.grownBy w' own) (h1 : own ≠ some B) (h2 : l ≠ [] → ∀ x, a = some x → own ≠ some x.block) : CurOk w' B a l cap := by
  refine ⟨?_, ?_, h.ne, h.len⟩
  · obtain ⟨i, hh, hb, hi⟩ := h.at_
    exact ⟨i, hh, (hg.block B h.lt (fun e => h1 e.symm)).trans hb, hi⟩
  · rcases h.bytes with hb | ⟨b, off, ha, hc⟩
    · exact .inl hb
    · refine .inr ⟨b, off, ha, fun i hi => ?_⟩
      rw [World.cell?_of_block (w := w) (hg.block b (World.block_lt_of_cell? w _ (hc i hi)) (fun e => h2 (fun e2 => by subst e2; simp at hi) _ ha e.symm))]
      exact hc i hi
theorem grown_since {w wr w' : World} {B : Nat} {own : Option Nat} (h : w.grownBy wr (some B)) (hg : wr.grownBy w' own) (ho : ∀ b, own = some b → w.heap.size ≤ b) : w.grownBy w' (some B) :=
  ⟨hg.os.trans h.os, hg.tape.trans h.tape, hg.output.trans h.output, Nat.le_trans h.size hg.size, fun k hk hne => (hg.block k (Nat.lt_of_lt_of_le hk h.size) (fun e => by have := ho k e.symm; omega)).trans (h.block k hk hne)⟩
theorem grown_self (w : World) (r : Option Nat) : w.grownBy w r := ⟨rfl, rfl, rfl, Nat.le_refl _, fun _ _ _ => rfl⟩
theorem grown_below {w wr w' : World} {B : Nat} (h : w.grownBy wr (some B)) (hb : Below wr.heap.size wr w') : w.grownBy w' (some B) :=
  grown_since (own := none) h ⟨hb.os, hb.tape, hb.output, hb.size, fun k hk _ => hb.block k hk⟩ (fun b e => by cases e)
/-- a system that is being drawn -/
structure DrwAt (B : Nat) (a : Option Addr) (l : List UInt8) (cap : Nat) (w0 w wr : World) (k : Nat) (v : Value) (R : List RulD) : Prop where
  rc : Rec2 25 120 2 w0 wr (w.heap.size + 1) (.int .i64 (k : Nat)) v R.length (ruleCells R)
  cur : CurOk wr B a l cap
  zero : wr.heap[w.heap.size]? = some (.cells #[.int .i64 0, .slice none 0 0] 25 (0, 0))
  k1 : 1 ≤ k ∧ k ≤ 3
  ok : ∀ r ∈ R, ruleP k r ∧ lessS r.2 r.1 = true
  lt : B < w.heap.size ∧ w0.heap.size ≤ B
  far : l ≠ [] → ∀ x, a = some x → x.block < w.heap.size
  gr : w.grownBy wr (some B)
section
variable {B : Nat} {a : Option Addr} {l : List UInt8} {cap : Nat} {w0 w wr : World} {k : Nat} {v : Value} {R : List RulD}
theorem DrwAt.later {w' : World} (h : DrwAt B a l cap w0 w wr k v R) (hb : Below wr.heap.size wr w') : DrwAt B a l cap w0 w w' k v R :=
  ⟨h.rc.later hb, h.cur.later hb, block_later h.zero _ hb, h.k1, h.ok, h.lt, h.far, grown_below h.gr hb⟩
theorem DrwAt.next {w' : World} (h : DrwAt B a l cap w0 w wr k v R) (hc : CurOk w' B a l cap) (hg : wr.grownBy w' (some B)) : DrwAt B a l cap w0 w w' k v R := by
  have h1 := h.lt
  have h2 := h.rc.lt
  refine ⟨h.rc.keptG hg (fun e => by have := Option.some.inj e; omega) (fun b hb e => by have := (h.rc.own.lt b hb).1; have := Option.some.inj e; omega) (fun b e => by have := Option.some.inj e; omega), hc, ?_, h.k1, h.ok, h.lt, h.far, grown_tr h.gr hg⟩
  exact (hg.block _ (by omega) (fun e => by have := Option.some.inj e; omega)).trans h.zero
theorem DrwAt.start (hc : CurOk w B a l cap) (hb : Below w0.heap.size w0 w) (hB : w0.heap.size ≤ B) : DrwAt B a l cap w0 w ((w.alloc (.cells #[.int .i64 0, .slice none 0 0] 25)).alloc (.cells #[.int .i64 ((2 : Nat) : Int), .slice none 0 0] 25)) 2 (.slice none 0 0) [] := by
  have h1 := Rec2.start 25 120 2 (w := w0) (hb.alloc hb.size (.cells #[.int .i64 0, .slice none 0 0] 25)) (.int .i64 ((2 : Nat) : Int))
  have e : (w.alloc (.cells #[.int .i64 0, .slice none 0 0] 25)).heap.size = w.heap.size + 1 := by simp
  rw [e] at h1
  exact ⟨h1, (hc.alloc _).alloc _, (alloc_two w _ _).1, by omega, fun r hr => by simp at hr, ⟨hc.lt, hB⟩, curNe hc.bytes, grown_alloc (grown_alloc (grown_self w _) _) _⟩
theorem DrwAt.setK (h : DrwAt B a l cap w0 w wr k (.slice none 0 0) []) {k' : Nat} (hk : 1 ≤ k' ∧ k' ≤ 3) : DrwAt B a l cap w0 w (wr.setCell ⟨w.heap.size + 1, 0, none⟩ (.int .i64 (k' : Nat))) k' (.slice none 0 0) [] := by
  have h1 := h.lt
  have h2 := h.rc.blk
  refine ⟨⟨?_, World.ownsRow_nil _ _ _ _, h.rc.le, h.rc.below.setCell h.rc.le _⟩, h.cur.grownO (setGrownB wr _ 0 _) (fun e => by have := Option.some.inj e; omega) (fun hne x hx e => by have := h.far hne x hx; have := Option.some.inj e; omega), ?_, hk, fun r hr => by simp at hr, h.lt, h.far, grown_since h.gr (setGrownB wr _ 0 _) (fun b e => by have := Option.some.inj e; omega)⟩
  · unfold World.setCell
    rw [Array.getElem?_modify, if_pos rfl, h2]
    rfl
  · unfold World.setCell
    rw [Array.getElem?_modify, if_neg (by show ¬ w.heap.size + 1 = w.heap.size; omega)]
    exact h.zero
theorem DrwAt.put (h : DrwAt B a l cap w0 w wr k v R) {p : RulD} (hp : ruleP k p ∧ lessS p.2 p.1 = true) {w4 : World} {ob : Obj} {v' : Value} (hg : (wr.alloc ob).grownBy w4 v.ownBlock) (ho : w4.ownsRow (w.heap.size + 1 + 1) 120 2 v' (R.length + 1) (ruleCells R ++ [.string p.1, .string p.2])) :
    DrwAt B a l cap w0 w (w4.setCell ⟨w.heap.size + 1, 1, none⟩ v') k v' (R ++ [p]) := by
  have h1 := h.lt
  have hlt := h.rc.lt
  have hr : Rec2 25 120 2 w0 (w4.setCell ⟨w.heap.size + 1, 1, none⟩ v') (w.heap.size + 1) (.int .i64 (k : Nat)) v' (R ++ [p]).length (ruleCells (R ++ [p])) := by
    rw [List.length_append, ruleCells_app, show ruleCells [p] = [Value.string p.1, .string p.2] from rfl]
    exact h.rc.put (Below.refl _ _) hg ho
  have hb : ∀ b, v.ownBlock = some b → w.heap.size + 1 + 1 ≤ b := fun b hb => (h.rc.own.lt b hb).1
  have hc1 : CurOk w4 B a l cap := (h.cur.alloc ob).grownO hg (fun e => by have := hb _ e; omega) (fun hne x hx e => by have := h.far hne x hx; have := hb _ e; omega)
  have hz1 : w4.heap[w.heap.size]? = some (.cells #[.int .i64 0, .slice none 0 0] 25 (0, 0)) := (hg.block _ (by simp; omega) (fun e => by have := hb _ e.symm; omega)).trans (alloc_oldI wr ob h.zero)
  refine ⟨hr, hc1.grownO (setGrownB w4 _ 1 _) (fun e => by have := Option.some.inj e; omega) (fun hne x hx e => by have := h.far hne x hx; have := Option.some.inj e; omega), ?_, h.k1, ?_, h.lt, h.far, grown_since (grown_since (grown_alloc h.gr ob) hg (fun b e => by have := hb b e; omega)) (setGrownB w4 _ 1 _) (fun b e => by have := Option.some.inj e; omega)⟩
  · unfold World.setCell
    rw [Array.getElem?_modify, if_neg (by show ¬ w.heap.size + 1 = w.heap.size; omega)]
    exact hz1
  · intro r hr
    rcases List.mem_append.1 hr with h3 | h3
    · exact h.ok r h3
    · obtain rfl : r = p := by simpa using h3
      exact hp
end
/-- the given systems -/
def syss : List ByteArray := [⟨#[49, 32, 97, 97, 97, 62, 46]⟩, ⟨#[50, 32, 97, 97, 62, 46, 32, 98, 98, 62, 46, 32, 98, 97, 62, 97, 98]⟩, ⟨#[50, 32, 97, 97, 62, 46, 32, 98, 98, 62, 46, 32, 98, 97, 98, 62, 97, 98, 97]⟩, ⟨#[50, 32, 98, 97, 62, 97, 98]⟩, ⟨#[50, 32, 97, 98, 62, 46]⟩, ⟨#[50, 32, 97, 97, 62, 97, 32, 98, 98, 62, 98]⟩, ⟨#[50, 32, 97, 97, 62, 46, 32, 98, 98, 98, 62, 46, 32, 97, 98, 98, 62, 98, 97, 32, 97, 98, 97, 62, 98, 98, 32, 98, 97, 98, 62, 97, 32, 98, 98, 97, 62, 97, 98]⟩, ⟨#[49, 32, 97, 97, 97, 97, 62, 97, 97]⟩, ⟨#[50, 32, 97, 97, 62, 98]⟩, ⟨#[50, 32, 98, 97, 62, 97, 98, 32, 98, 98, 62, 98]⟩, ⟨#[51, 32, 98, 97, 62, 97, 98, 32, 99, 97, 62, 97, 99, 32, 99, 98, 62, 98, 99]⟩]
theorem syss_ok : ∀ i, i < 11 → (nthS syss i).size ≤ 1000 := by decide +kernel
def RetDrwO (B : Nat) (a : Option Addr) (l : List UInt8) (cap : Nat) (w0 w : World) (e : Ending) (w' : World) : Prop := ∃ (k : Int) (R : List RulD) (aR : Option Addr) (cR : Nat),
  sysP k R ∧ e = .returned (.agg #[.int .i64 k, .slice aR R.length cR]) ∧ w'.ownsRow w.heap.size 120 2 (.slice aR R.length cR) R.length (ruleCells R) ∧ CurOk w' B a l cap ∧ Below w0.heap.size w0 w' ∧ w.grownBy w' (some B)
def RetDrw (B : Nat) (a : Option Addr) (l : List UInt8) (cap : Nat) (w0 : World) (e : Ending) (w' : World) : Prop := ∃ (k : Int) (R : List RulD) (aR : Option Addr) (cR : Nat),
  sysP k R ∧ e = .returned (.agg #[.int .i64 k, .slice aR R.length cR]) ∧ RulesIn w' aR R ∧ CurOk w' B a l cap ∧ Below w0.heap.size w0 w'
end Go.Proofs.YtoddpmdjjgnpgaaGreatDoor
namespace Go.Proofs.YtoddpmdjjgnpgaaGreatDoor
open Go.RowKit
set_option linter.unusedVariables false
/-- a function value that answers p for the strings of a list -/
def PredStrs (B : Nat) (g : Nat) (caps : Array Value) (p : ByteArray → Bool) (l : List ByteArray) (w : World) : Prop :=
  ∀ j, j < l.length → ∀ W, Below B w W → Calls Tryz.prog g (#[.string (nthS l j)] ++ caps) W fun e W' => e = .returned (.bool (p (nthS l j))) ∧ Below W.heap.size W W'
def idxS (p : ByteArray → Bool) (l : List ByteArray) : Int := match l.findIdx? p with | some i => i | none => -1
def noneToS (p : ByteArray → Bool) (l : List ByteArray) (j : Nat) : Prop := ∀ i, i < j → p (nthS l i) = false
theorem noneToS_succ {p : ByteArray → Bool} {l : List ByteArray} {j : Nat} (h : noneToS p l j) (hj : p (nthS l j) = false) : noneToS p l (j + 1) := fun i hi => by
  by_cases e : i = j
  · rw [e]; exact hj
  · exact h i (by omega)
theorem idxS_at {p : ByteArray → Bool} {l : List ByteArray} {j : Nat} (h : noneToS p l j) (hlt : j < l.length) (hj : p (nthS l j) = true) : idxS p l = j := by
  have : l.findIdx? p = some j := by
    rw [List.findIdx?_eq_some_iff_getElem]
    refine ⟨hlt, by rw [← nthS_lt hlt]; exact hj, fun i hi => ?_⟩
    have := h i hi
    rw [nthS_lt (by omega)] at this
    simp [this]
  simp [idxS, this]
theorem idxS_none {p : ByteArray → Bool} {l : List ByteArray} {j : Nat} (h : noneToS p l j) (hlt : ¬ j < l.length) : idxS p l = -1 := by
  have : l.findIdx? p = none := by
    rw [List.findIdx?_eq_none_iff]
    intro x hx
    obtain ⟨i, hi, rfl⟩ := List.getElem_of_mem hx
    rw [← nthS_lt hi]
    exact h i (by omega)
  simp [idxS, this]
theorem idxS_nonneg (p : ByteArray → Bool) (l : List ByteArray) : decide (0 ≤ idxS p l) = l.any p := by
  unfold idxS
  cases h : l.findIdx? p
  · rw [List.findIdx?_eq_none_iff] at h
    have : l.any p = false := by rw [List.any_eq_false]; intro x hx; simp [h x hx]
    simp [this]
  · rename_i i
    rw [List.findIdx?_eq_some_iff_getElem] at h
    obtain ⟨hi, hp, _⟩ := h
    have : l.any p = true := by rw [List.any_eq_true]; exact ⟨l[i], List.getElem_mem hi, hp⟩
    simp [this]
set_option maxHeartbeats 400000 in
theorem indexFuncStrs_any (g : Nat) (caps : Array Value) (p : ByteArray → Bool) (l : List ByteArray) (a : Option Addr) (cap : Nat) (w : World) (hl : StrsIn w a l) (hlen : l.length ≤ 2 ^ 47)
    (B : Nat) (hB : B ≤ w.heap.size) (hf : PredStrs B g caps p l w) (eg : ∀ args w, (callFunc g args).run Tryz.prog w = .ok (.enter g args) w) :
    Calls Tryz.prog 164 #[.slice a l.length cap, .func (.func g) #[] caps] w fun e w' => e = .returned (.int .i64 (idxS p l)) ∧ Below w.heap.size w w' := by
  have HF := Lib.hid hf
  clear hf
  go_enter Tryz.func164, Tryz.ntmps164
  go_wp2
  go_loopw [8] (fun i wr => ∃ j : Nat, j ≤ l.length ∧ i = .int .i64 j ∧ noneToS p l j ∧ Below w.heap.size w wr) (fun i _ => l.length - (intOf i).toNat)
  case atStart => exact ⟨0, Nat.zero_le _, rfl, fun _ h => absurd h (Nat.not_lt_zero _), Below.refl _ _⟩
  case round =>
    obtain ⟨j, hj, rfl, hall, hbel⟩ := hrel
    have H := Lib.hid hall
    clear hall
    by_cases hlt : j < l.length
    · obtain ⟨b, off, rfl, hb, hc⟩ := hl.cell hlt
      have h1 : wr.cell? ⟨b, off + j, none⟩ = some (.string (nthS l j)) := by rw [hbel.cell hb]; exact hc j hlt
      clear hc
      cases hp : p (nthS l j)
      · have F := Lib.hid (noneToS_succ H.out hp)
        go_wp2_with fail
        refine (HF.out j hlt _ (hbel.mono hB)).mono ?_
        rintro e w2 ⟨rfl, hb2⟩
        have hbel2 := Below.now hbel hb2
        clear hb2 h1 hbel
        go_wp2_with fail
        go_roundw
        case rel => exact ⟨j + 1, by omega, by go_num, F.out, hbel2⟩
        case measure => simp [intOf]; omega
      · have F := Lib.hid (idxS_at H.out hlt hp)
        go_wp2_with fail
        refine (HF.out j hlt _ (hbel.mono hB)).mono ?_
        rintro e w2 ⟨rfl, hb2⟩
        have hbel2 := Below.now hbel hb2
        clear hb2 h1 hbel
        go_wp2_with fail
        go_ret
        exact ⟨ret_int F.out.symm, hbel2⟩
    · have F := Lib.hid (idxS_none H.out hlt)
      go_wp2_with fail
      go_ret
      exact ⟨ret_int F.out.symm, hbel⟩
set_option maxHeartbeats 400000 in
theorem containsFuncStrs_any (g : Nat) (caps : Array Value) (p : ByteArray → Bool) (l : List ByteArray) (a : Option Addr) (cap : Nat) (w : World) (hl : StrsIn w a l) (hlen : l.length ≤ 2 ^ 47)
    (B : Nat) (hB : B ≤ w.heap.size) (hf : PredStrs B g caps p l w) (eg : ∀ args w, (callFunc g args).run Tryz.prog w = .ok (.enter g args) w) :
    Calls Tryz.prog 121 #[.slice a l.length cap, .func (.func g) #[] caps] w fun e w' => e = .returned (.bool (l.any p)) ∧ Below w.heap.size w w' := by
  have HC := Lib.hid (indexFuncStrs_any g caps p l a cap w hl hlen B hB hf eg)
  have HI := Lib.hid (idxS_nonneg p l)
  clear hf eg hl
  go_enter Tryz.func121, Tryz.ntmps121
  go_wp2_with fail
  refine HC.out.mono ?_
  rintro e w2 ⟨rfl, hb2⟩
  go_wp2_with fail
  go_ret
  exact ⟨ret_bool HI.out, hb2⟩
end Go.Proofs.YtoddpmdjjgnpgaaGreatDoor
