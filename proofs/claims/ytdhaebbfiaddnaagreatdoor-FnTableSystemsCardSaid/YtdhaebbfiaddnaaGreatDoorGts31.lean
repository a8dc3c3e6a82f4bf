/-
  l08Find and MonoidOf of the reference.
-/
import Derived.Test.YtdhaebbfiaddnaaGreatDoorGts30
import Derived.Test.YtdhaebbfiaddnaaGreatDoorGts21
import Derived.Test.YtdhaebbfiaddnaaGreatDoorGts26
import Derived.Test.YtdhaebbfiaddnaaGreatDoorGts17
import Derived.IntWalk
namespace Go.Proofs.YtdhaebbfiaddnaaGreatDoor
open Go.RowKit
set_option linter.unusedVariables false
/-- rules whose sides have at most m bytes -/
def ShortR (m : Nat) (R : List RulD) : Prop := ∀ r ∈ R, r.1.size ≤ m ∧ r.2.size ≤ m
theorem ShortR.app {m : Nat} {R : List RulD} {r : RulD} (h : ShortR m R) (hr : r.1.size ≤ m ∧ r.2.size ≤ m) : ShortR m (R ++ [r]) := by
  intro x hx
  rcases List.mem_append.1 hx with h1 | h1
  · exact h x h1
  · obtain rfl : x = r := by simpa using h1
    exact hr
theorem ShortR.sz {m : Nat} {R : List RulD} (h : ShortR m R) (hm : m ≤ maxLen) : SzR R := fun j hj => ⟨Nat.le_trans (h _ (nthR_mem hj)).1 hm, Nat.le_trans (h _ (nthR_mem hj)).2 hm⟩
/-- some system in memory -/
def RetPS (m : Nat) (w : World) (e : Ending) (w' : World) : Prop := ∃ (k : Int) (R : List RulD) (a : Option Addr) (cap : Nat) (b : Bool),
  (ShortR m R ∧ R.length ≤ m) ∧ e = .returned (.tuple #[.agg #[.int .i64 k, .slice a R.length cap], .bool b]) ∧ RulesIn w' a R ∧ Below w.heap.size w w'
theorem RetPS.zero {m : Nat} {w wr : World} (h : Below w.heap.size w wr) : RetPS m w (.returned (.tuple #[.agg #[.int .i64 0, .slice none 0 0], .bool false])) ((wr.setCell ⟨w.heap.size, 0, none⟩ (.int .i64 0)).setCell ⟨w.heap.size, 1, none⟩ (.slice none 0 0)) :=
  ⟨0, [], none, 0, false, ⟨fun r hr => by simp at hr, Nat.zero_le _⟩, rfl, .inl rfl, (h.setCell (Nat.le_refl _) _).setCell (Nat.le_refl _) _⟩
set_option maxRecDepth 20000 in
set_option maxHeartbeats 4000000 in
theorem specParseSystem_any (s : ByteArray) (w : World) (hs : s.size ≤ 1000) :
    Calls Tryz.prog 61 #[.string s] w (RetPS (s.size + 1) w) := by
  have HSP := Lib.hid (fun W => specSplitAny_any s 32 W (by omega))
  have HW1 := Lib.hid ((Below.refl w.heap.size w).alloc (Nat.le_refl _) (.cells #[.int .i64 0, .slice none 0 0] 25))
  go_enter Tryz.func61, Tryz.ntmps61
  go_wp2_with fail
  refine (HSP.out _).mono ?_
  rintro e w2 ⟨l, ⟨hl1, hl2, hl3⟩, a, cap, rfl, ho, hb2⟩
  have hb0 := (hb2.block w.heap.size (by simp)).trans (alloc_at w (.cells #[.int .i64 0, .slice none 0 0] 25))
  have hcap := owns_capS ho
  obtain ⟨g, hg, off, rfl, hcells⟩ : ∃ g, g < w2.heap.size ∧ ∃ off, a = some ⟨g, off, none⟩ ∧ ∀ j, j < l.length → w2.cell? ⟨g, off + j, none⟩ = some (.string (nthS l j)) := by
    obtain ⟨b, off, ha, hb, hc⟩ := (owns_strs ho).cell (show 0 < l.length by omega)
    exact ⟨b, hb, off, ha, hc⟩
  have hc0 : w2.cell? ⟨g, off, none⟩ = some (.string (nthS l 0)) := hcells 0 (by omega)
  have hz0 := hl1.at_ (show 0 < l.length by omega)
  have HPI := Lib.hid (fun W => specParseInt_any (nthS l 0) W (by omega))
  have HB2 := Lib.hid (Below.now HW1.out hb2)
  have HC := Lib.hid hcells
  have HO := Lib.hid hb0
  clear hcells hb2 ho hz0 hb0
  generalize nthS l 0 = s0 at *
  go_wp2_with fail
  refine (HPI.out _).mono ?_
  rintro e w3 ⟨n, b, ⟨hn1, hn2⟩, rfl, hb3⟩
  have hb0 := (hb3.block w.heap.size (Array.getElem?_eq_some_iff.1 HO.out).1).trans HO.out
  have HB3 := Lib.hid (Below.now HB2.out hb3)
  have HC3 : Hid (∀ j, j < l.length → w3.cell? ⟨g, off + j, none⟩ = some (.string (nthS l j))) := Lib.hid (fun j hj => by rw [hb3.cell (World.block_lt_of_cell? w2 _ (HC.out j hj))]; exact HC.out j hj)
  clear hb3 HC HO HPI hc0
  cases b
  · have F := Lib.hid (RetPS.zero (m := s.size + 1) HB3.out)
    obtain ⟨z0, z1⟩ := sys_cells hb0
    obtain ⟨u0, u1⟩ := sys_cells (set_two hb0 (.int .i64 0) (.slice none 0 0))
    have ff0 : w3.frozen? ⟨w.heap.size, 0, none⟩ = false := by simp [World.frozen?, hb0]
    have ff1 : w3.frozen? ⟨w.heap.size, 1, none⟩ = false := by simp [World.frozen?, hb0]
    clear hb0
    go_wp2_with fail
    refine bodyPost_ret (v := .tuple #[.agg #[.int .i64 0, .slice none 0 0], .bool false]) ?_ rfl F.out
    simp [results, Tryz.results61, go_sem, u0, u1]
  · have HR := Lib.hid (Rec2.start 25 36 2 (w := w3) (w1 := w3) (Below.refl _ _) (.int .i64 n))
    obtain ⟨m, hm⟩ : ∃ m, l.length = m + 1 := ⟨l.length - 1, by omega⟩
    have HZ := Lib.hid hb0
    clear hb0
    go_upto_region 6 with fail
    generalize hW4 : w3.alloc (.cells #[.int .i64 n, .slice none 0 0] 25) = w4 at *
    go_cut [27, 28, 29] (fun v u i wx => ∃ off2 cap2, v = .slice (some ⟨g, off2, none⟩) m cap2 ∧ u = .int .i64 (m : Nat) ∧ i = .int .i64 0 ∧ (∀ j, j < m → w3.cell? ⟨g, off2 + j, none⟩ = some (.string (nthS l (j + 1)))) ∧ wx = w4)
    case first =>
      by_cases hc1 : cap = 1
      · subst hc1
        obtain rfl : m = 0 := by omega
        go_wp2_with fail
        go_meet
        exact ⟨_, _, rfl, rfl, rfl, fun j hj => by omega, rfl⟩
      · have hc2 : (1 : Int) < (cap : Int) := by omega
        have hc3 : ¬ (cap : Int) = 1 := by omega
        have HCC : Hid (∀ j, j < m → w3.cell? ⟨g, off + 1 + j, none⟩ = some (.string (nthS l (j + 1)))) := Lib.hid (fun j hj => by rw [show off + 1 + j = off + (j + 1) by omega]; exact HC3.out (j + 1) (by omega))
        go_wp2_with fail
        go_meet
        exact ⟨_, _, rfl, rfl, rfl, HCC.out, rfl⟩
    case rest =>
      obtain ⟨off2, cap2, rfl, rfl, rfl, hcs, rfl⟩ := hcut
      have HCS := Lib.hid hcs
      clear hcs HC3 hW4
      go_wp2_with fail
      go_loopw [29] (fun i wr => ∃ (R : List RulD) (v : Value), R.length ≤ m ∧ i = .int .i64 (R.length : Nat) ∧ Hid (ShortR s.size R) ∧ Hid (Rec2 25 36 2 w3 wr w3.heap.size (.int .i64 n) v R.length (ruleCells R))) (fun i _ => m - (intOf i).toNat)
      case atStart => exact ⟨[], .slice none 0 0, Nat.zero_le _, rfl, Lib.hid (fun r hr => by simp at hr), HR⟩
      case round =>
        clear HR
        obtain ⟨R, v, hj, rfl, hsh, HRC⟩ := hrel
        obtain ⟨a3, c3, rfl⟩ := owns_form HRC.out.own
        have HBW := Lib.hid (Below.now HB3.out HRC.out.below)
        have hz := (HRC.out.below.block w.heap.size (Array.getElem?_eq_some_iff.1 HZ.out).1).trans HZ.out
        have hsz := HRC.out.lt
        by_cases hlt : R.length < m
        · have cw : wr.cell? ⟨g, off2 + R.length, none⟩ = some (.string (nthS l (R.length + 1))) := by rw [HRC.out.below.cell (World.block_lt_of_cell? w3 _ (HCS.out R.length hlt))]; exact HCS.out R.length hlt
          have hnz := hl1.at_ (show R.length + 1 < l.length by omega)
          have HPR := Lib.hid (fun W => specParseRule_any (nthS l (R.length + 1)) W (by omega))
          generalize nthS l (R.length + 1) = sj at *
          have HZW := Lib.hid hz
          clear hz
          go_wp2_with fail
          refine (HPR.out _).mono ?_
          rintro e w5 ⟨x, y, b, ⟨hx, hy⟩, rfl, hb5⟩
          have HR5 := Lib.hid (HRC.out.later hb5)
          have HB5 := Lib.hid (Below.now HBW.out hb5)
          have hz5 := (hb5.block w.heap.size (Array.getElem?_eq_some_iff.1 HZW.out).1).trans HZW.out
          have HK6 := Lib.hid (fun o => alloc_belowS w5 o)
          have hz := ((HK6.out (.cells #[.string x, .string y] 36)).block w.heap.size (Array.getElem?_eq_some_iff.1 hz5).1).trans hz5
          have HR6 := Lib.hid (HR5.out.later (HK6.out (.cells #[.string x, .string y] 36)))
          replace HBW := Lib.hid (Below.now HB5.out (HK6.out (.cells #[.string x, .string y] 36)))
          obtain ⟨n0, n1⟩ := sys_cells (alloc_at w5 (.cells #[.string x, .string y] 36))
          clear HRC HZW cw hb5 HR5 HB5 hz5 HK6 HPR
          go_upto_region 10 with fail
          generalize w5.alloc (.cells #[.string x, .string y] 36) = w6 at *
          cases b
          · have F := Lib.hid (RetPS.zero (m := s.size + 1) HBW.out)
            obtain ⟨z0, z1⟩ := sys_cells hz
            obtain ⟨u0, u1⟩ := sys_cells (set_two hz (.int .i64 0) (.slice none 0 0))
            have ff0 : w6.frozen? ⟨w.heap.size, 0, none⟩ = false := by simp [World.frozen?, hz]
            have ff1 : w6.frozen? ⟨w.heap.size, 1, none⟩ = false := by simp [World.frozen?, hz]
            clear hz
            go_wp2_with fail
            refine bodyPost_ret (v := .tuple #[.agg #[.int .i64 0, .slice none 0 0], .bool false]) ?_ rfl F.out
            simp [results, Tryz.results61, go_sem, u0, u1]
          · have HN1 : Hid ([Value.string x, .string y].length = 1 * 2) := Lib.hid rfl
            have HN2 : Hid (∀ v ∈ [Value.string x, .string y], v.oneCell' = true) := Lib.hid (fun v hv => by simp at hv; rcases hv with rfl | rfl <;> rfl)
            obtain ⟨_, y1, _, y3⟩ := HR6.out.facts
            clear hz
            go_wp2_with (at_builtin; refine wpList_appH (n := R.length) (wr := w6) (news := [Value.string x, .string y]) rfl (.tmp 42) (.tmp 44) rfl Tryz.underlying23 Tryz.infoRule rfl (by decide) rfl HR6.out.own HR6.out.lt rfl HN1.out HN2.out (by unfold maxLen; omega) (by omega) ?_; intro g4 c4 w4 ho4 hg4 hr4; obtain ⟨_, x1, _, x3⟩ := rec_cells (HR6.out.grown (Below.refl _ _) hg4))
            have HR4 : Hid (Rec2 25 36 2 w3 (w4.setCell ⟨w3.heap.size, 1, none⟩ (.slice (some ⟨g4, 0, none⟩) (R.length + 1) c4)) w3.heap.size (.int .i64 n) (.slice (some ⟨g4, 0, none⟩) (R.length + 1) c4) (R ++ [(x, y)]).length (ruleCells (R ++ [(x, y)]))) := Lib.hid (by
              rw [List.length_append, ruleCells_app, show ruleCells [(x, y)] = [Value.string x, .string y] from rfl]; exact HR6.out.put (Below.refl _ _) hg4 ho4)
            have HSH := Lib.hid (hsh.out.app (r := (x, y)) ⟨by show x.size ≤ s.size; omega, by show y.size ≤ s.size; omega⟩)
            clear ho4 hg4 hr4 y1 y3 n0 n1 x1 x3
            go_wp2_with fail
            go_roundw
            case rel => exact ⟨R ++ [(x, y)], _, by simp; omega, by simp, HSH, HR4⟩
            case measure => simp [intOf]; omega
        · obtain rfl : m = R.length := by omega
          have HRO := Lib.hid (fun W h => specRulesOk_any n R a3 c3 W h (by omega) (hsh.out.sz (by unfold maxLen; omega)))
          have HFS := Lib.hid (fun W h => specFormatSystem_any n R a3 c3 W h (by omega) (hsh.out.sz (by unfold maxLen; omega)))
          have HRI := Lib.hid (owns_rules HRC.out.own)
          obtain ⟨y0, y1, _, _⟩ := HRC.out.facts
          have HZW := Lib.hid hz
          clear hz
          go_wp2_with fail
          refine (HRO.out _ HRI.out).mono ?_
          rintro e w5 ⟨bb, hbb, rfl, hb5⟩
          have HR5 := Lib.hid (HRC.out.later hb5)
          replace HBW := Lib.hid (Below.now HBW.out hb5)
          have hz := (hb5.block w.heap.size (Array.getElem?_eq_some_iff.1 HZW.out).1).trans HZW.out
          clear HRC HZW hb5 HRO hbb y0 y1 HRI
          cases bb
          · have F := Lib.hid (RetPS.zero (m := s.size + 1) HBW.out)
            obtain ⟨z0, z1⟩ := sys_cells hz
            obtain ⟨u0, u1⟩ := sys_cells (set_two hz (.int .i64 0) (.slice none 0 0))
            have ff0 : w5.frozen? ⟨w.heap.size, 0, none⟩ = false := by simp [World.frozen?, hz]
            have ff1 : w5.frozen? ⟨w.heap.size, 1, none⟩ = false := by simp [World.frozen?, hz]
            clear hz
            go_wp2_with fail
            refine bodyPost_ret (v := .tuple #[.agg #[.int .i64 0, .slice none 0 0], .bool false]) ?_ rfl F.out
            simp [results, Tryz.results61, go_sem, u0, u1]
          · have HRI := Lib.hid (owns_rules HR5.out.own)
            obtain ⟨y0, y1, _, _⟩ := HR5.out.facts
            have HZW := Lib.hid hz
            clear hz
            go_wp2_with fail
            refine (HFS.out _ HRI.out).mono ?_
            rintro e w6 ⟨rfl, hb6⟩
            have HR6 := Lib.hid (HR5.out.later hb6)
            replace HBW := Lib.hid (Below.now HBW.out hb6)
            have hz := (hb6.block w.heap.size (Array.getElem?_eq_some_iff.1 HZW.out).1).trans HZW.out
            clear HR5 HZW hb6 HFS y0 y1 HRI
            generalize sysT0 n R = st at *
            cases hq : (st.toList == s.toList)
            · have F := Lib.hid (RetPS.zero (m := s.size + 1) HBW.out)
              obtain ⟨z0, z1⟩ := sys_cells hz
              obtain ⟨u0, u1⟩ := sys_cells (set_two hz (.int .i64 0) (.slice none 0 0))
              have ff0 : w6.frozen? ⟨w.heap.size, 0, none⟩ = false := by simp [World.frozen?, hz]
              have ff1 : w6.frozen? ⟨w.heap.size, 1, none⟩ = false := by simp [World.frozen?, hz]
              clear hz
              go_wp2_with fail
              refine bodyPost_ret (v := .tuple #[.agg #[.int .i64 0, .slice none 0 0], .bool false]) ?_ rfl F.out
              simp [results, Tryz.results61, go_sem, u0, u1]
            · have F : Hid (RetPS (s.size + 1) w (.returned (.tuple #[.agg #[.int .i64 n, .slice a3 R.length c3], .bool true])) ((w6.setCell ⟨w.heap.size, 0, none⟩ (.int .i64 n)).setCell ⟨w.heap.size, 1, none⟩ (.slice a3 R.length c3))) := Lib.hid ⟨n, R, a3, c3, true, ⟨fun r hr => ⟨Nat.le_trans (hsh.out r hr).1 (by omega), Nat.le_trans (hsh.out r hr).2 (by omega)⟩, by omega⟩, rfl,
                owns_rules (ownsRow_setCell_below (ownsRow_setCell_below HR6.out.own (by show w.heap.size < w3.heap.size + 1; have := HB3.out.size; omega) _) (by show w.heap.size < w3.heap.size + 1; have := HB3.out.size; omega) _), (HBW.out.setCell (Nat.le_refl _) _).setCell (Nat.le_refl _) _⟩
              obtain ⟨y0, y1, _, _⟩ := HR6.out.facts
              obtain ⟨z0, z1⟩ := sys_cells hz
              obtain ⟨u0, u1⟩ := sys_cells (set_two hz (.int .i64 n) (.slice a3 R.length c3))
              have ff0 : w6.frozen? ⟨w.heap.size, 0, none⟩ = false := by simp [World.frozen?, hz]
              have ff1 : w6.frozen? ⟨w.heap.size, 1, none⟩ = false := by simp [World.frozen?, hz]
              clear hz
              go_wp2_with fail
              refine bodyPost_ret (v := .tuple #[.agg #[.int .i64 n, .slice a3 R.length c3], .bool true]) ?_ rfl F.out
              simp [results, Tryz.results61, go_sem, u0, u1]
end Go.Proofs.YtdhaebbfiaddnaaGreatDoor
namespace Go.Proofs.YtdhaebbfiaddnaaGreatDoor
open Go.RowKit
set_option linter.unusedVariables false
set_option maxHeartbeats 400000 in
theorem l08Find_any (v : ByteArray) (l : List ByteArray) (a : Option Addr) (cap : Nat) (w : World) (hl : StrsIn w a l) (hlen : l.length ≤ 2 ^ 47) :
    Calls Tryz.prog 121 #[.slice a l.length cap, .string v] w fun e w' => e = .returned (.int .i64 (idxB l v)) ∧ Below w.heap.size w w' := by
  have HL := Lib.hid hl
  clear hl
  go_enter Tryz.func121, Tryz.ntmps121
  go_wp2_with fail
  go_loopw [9] (fun i wr => ∃ j : Nat, j ≤ l.length ∧ i = .int .i64 j ∧ Hid (idxTo l v j = none) ∧ wr = w) (fun i _ => l.length - (intOf i).toNat)
  case atStart => exact ⟨0, Nat.zero_le _, rfl, Lib.hid (idxTo_zero _ _), rfl⟩
  case round =>
    obtain ⟨j, hj, rfl, H, rfl⟩ := hrel
    by_cases hlt : j < l.length
    · obtain ⟨b, off, rfl, hb, hc⟩ := HL.out.cell hlt
      have h1 : wr.cell? ⟨b, off + j, none⟩ = some (.string (nthS l j)) := hc j hlt
      have HS1 : Hid (((nthS l j).toList == v.toList) = false → idxTo l v (j + 1) = none) := Lib.hid (fun hp => idxTo_succ H.out hp)
      have HS2 : Hid (((nthS l j).toList == v.toList) = true → idxB l v = (j : Int)) := Lib.hid (fun hp => idxB_at H.out hlt hp)
      clear hc
      generalize nthS l j = u at *
      cases hp : (u.toList == v.toList)
      · have F := Lib.hid (HS1.out hp)
        go_wp2_with fail
        go_roundw
        case rel => exact ⟨j + 1, by omega, by go_num, F, trivial⟩
        case measure => simp [intOf]; omega
      · have F := Lib.hid (HS2.out hp)
        go_wp2_with fail
        go_ret
        exact ⟨ret_int F.out.symm, Below.refl _ _⟩
    · have F := Lib.hid (idxB_none H.out hlt hj)
      go_wp2_with fail
      go_ret
      exact ⟨ret_int F.out.symm, Below.refl _ _⟩
theorem RetMon.no {k : Int} {R : List RulD} {w w' : World} (h : ¬ GoM k R) (hb : Below w.heap.size w w') : RetMon k R w (.returned (.tuple #[.agg #[.int .i64 0, .slice none 0 0], .slice none 0 0, .bool false])) w' :=
  ⟨[], [], false, none, none, 0, 0, .inl ⟨h, rfl, rfl, rfl⟩, rfl, World.ownsRow_nil _ _ _ _, World.ownsRow_nil _ _ _ _, hb⟩
/-- the table that is being made, at block g -/
def MonSt (w wr : World) (g : Nat) (L : List ByteArray) (xs : List Int) : Prop := ∃ v, Rec2 60 3 1 w wr g (.int .i64 (L.length : Nat)) v xs.length (intVals xs)
theorem intVals_one (x : Int) (l : List Int) : intVals (l ++ [x]) = intVals l ++ [.int .i64 x] := by simp [intVals]
set_option maxRecDepth 100000 in
set_option maxHeartbeats 4000000 in
theorem specMonoidOf_any (k : Int) (R : List RulD) (a : Option Addr) (cap : Nat) (w : World) (hl : RulesIn w a R) (hlen : R.length ≤ 2 ^ 40) (hz : SzR R) :
    Calls Tryz.prog 85 #[.agg #[.int .i64 k, .slice a R.length cap]] w (RetMon k R w) := by
  have HIC := Lib.hid (fun W h => specIsComplete_any k R a cap W h hlen hz)
  have HCA := Lib.hid (fun W h => specCountAll_any k R a cap W h hlen hz)
  have HLR := Lib.hid (fun W h => specLongestReduced_any k R a cap W h hlen hz)
  have HAR := Lib.hid (fun W h => specAllReduced_fn k R a cap W h hlen hz)
  have HNF := Lib.hid (fun w0 W h hs hw => specNormalForm_ok k R a cap w0 W h hs hw)
  have HL := Lib.hid hl
  have e1 : (w.alloc (.cells #[.int .i64 k, .slice a R.length cap] 25)).heap.size = w.heap.size + 1 := by simp
  have HW1 : Hid (Below w.heap.size w ((w.alloc (.cells #[.int .i64 k, .slice a R.length cap] 25)).alloc (.cells #[.int .i64 0, .slice none 0 0] 60))) := Lib.hid (Below.now (alloc_belowS w _) (alloc_belowS _ _))
  have HBX := Lib.hid (fun W2 (h : Below ((w.alloc (.cells #[.int .i64 k, .slice a R.length cap] 25)).alloc (.cells #[.int .i64 0, .slice none 0 0] 60)).heap.size ((w.alloc (.cells #[.int .i64 k, .slice a R.length cap] 25)).alloc (.cells #[.int .i64 0, .slice none 0 0] 60)) W2) => And.intro (box_two (Below.now (alloc_belowS (w.alloc (.cells #[.int .i64 k, .slice a R.length cap] 25)) _) h)) (box_facts h))
  rw [e1] at HBX
  have HZ : Hid (w.heap.size + 1 < ((w.alloc (.cells #[.int .i64 k, .slice a R.length cap] 25)).alloc (.cells #[.int .i64 0, .slice none 0 0] 60)).heap.size) := Lib.hid (by simp)
  clear hl hz e1
  go_enter Tryz.func85, Tryz.ntmps85
  go_wp2_with fail
  generalize (w.alloc (.cells #[.int .i64 k, .slice a R.length cap] 25)).alloc (.cells #[.int .i64 0, .slice none 0 0] 60) = w1 at *
  refine (HIC.out _ (HL.out.later HW1.out)).mono ?_
  rintro e w2 ⟨bb, hbb, rfl, hb2⟩
  have HBB := Lib.hid hbb
  have HB2 := Lib.hid hb2
  obtain ⟨⟨s0, s1⟩, ⟨u0, u1⟩, z0, z1⟩ := HBX.out _ hb2
  clear hbb hb2
  cases bb
  · have F : Hid (RetMon k R w (.returned (.tuple #[.agg #[.int .i64 0, .slice none 0 0], .slice none 0 0, .bool false])) ((w2.setCell ⟨w.heap.size + 1, 0, none⟩ (.int .i64 0)).setCell ⟨w.heap.size + 1, 1, none⟩ (.slice none 0 0))) := Lib.hid (RetMon.no (fun h => by have := HBB.out.2 h.1; cases this) (((Below.now HW1.out HB2.out).setCell (by simp; try omega) _).setCell (by simp; try omega) _))
    go_wp2_with fail
    refine bodyPost_ret (v := .tuple #[.agg #[.int .i64 0, .slice none 0 0], .slice none 0 0, .bool false]) ?_ rfl F.out
    simp [results, Tryz.results85, go_sem, u0, u1]
  · have HCP := Lib.hid (HBB.out.1 rfl)
    go_wp2_with fail
    refine (HCA.out _ (HL.out.later (Below.now HW1.out HB2.out))).mono ?_
    rintro e w3 ⟨c, hc, rfl, hb3⟩
    have HC := Lib.hid hc
    have HB3 := Lib.hid (Below.now HB2.out hb3)
    have HR0 := Lib.hid (fun W => l01In_any c 1 40 W)
    clear hc hb3 s0 s1 u0 u1 z0 z1 HB2 HBB
    obtain ⟨⟨s0, s1⟩, ⟨u0, u1⟩, z0, z1⟩ := HBX.out _ HB3.out
    cases hin : inB c 1 40
    · have HIN := Lib.hid hin
      rw [hin] at HR0
      have F : Hid (RetMon k R w (.returned (.tuple #[.agg #[.int .i64 0, .slice none 0 0], .slice none 0 0, .bool false])) ((w3.setCell ⟨w.heap.size + 1, 0, none⟩ (.int .i64 0)).setCell ⟨w.heap.size + 1, 1, none⟩ (.slice none 0 0))) := Lib.hid (RetMon.no (fun h => by
        obtain ⟨_, ⟨c2, h1, h2, h3⟩, _⟩ := h
        obtain rfl := h1.uniq HC.out
        have h4 := HIN.out
        unfold inB at h4
        simp at h4
        omega) (((Below.now HW1.out HB3.out).setCell (by simp; try omega) _).setCell (by simp; try omega) _))
      clear hin
      go_wp2_with (go_at_call 116; refine (HR0.out _).mono ?_; rintro e w' ⟨rfl, rfl⟩)
      refine bodyPost_ret (v := .tuple #[.agg #[.int .i64 0, .slice none 0 0], .slice none 0 0, .bool false]) ?_ rfl F.out
      simp [results, Tryz.results85, go_sem, u0, u1]
    · have HIN := Lib.hid hin
      rw [hin] at HR0
      clear hin
      go_wp2_with (go_at_call 116; refine (HR0.out _).mono ?_; rintro e w' ⟨rfl, rfl⟩)
      refine (HLR.out _ (HL.out.later (Below.now HW1.out HB3.out))).mono ?_
      rintro e w4 ⟨h, hh, rfl, hb4⟩
      have HH := Lib.hid hh
      have HB4 := Lib.hid (Below.now HB3.out hb4)
      clear hh hb4 s0 s1 u0 u1 z0 z1 HR0
      obtain ⟨⟨s0, s1⟩, ⟨u0, u1⟩, z0, z1⟩ := HBX.out _ HB4.out
      by_cases h8 : 8 < h
      · have F : Hid (RetMon k R w (.returned (.tuple #[.agg #[.int .i64 0, .slice none 0 0], .slice none 0 0, .bool false])) ((w4.setCell ⟨w.heap.size + 1, 0, none⟩ (.int .i64 0)).setCell ⟨w.heap.size + 1, 1, none⟩ (.slice none 0 0))) := Lib.hid (RetMon.no (fun hg => by
          obtain ⟨_, _, h2, h3, h4⟩ := hg
          obtain rfl := h3.uniq HH.out
          omega) (((Below.now HW1.out HB4.out).setCell (by simp; try omega) _).setCell (by simp; try omega) _))
        go_wp2_with fail
        refine bodyPost_ret (v := .tuple #[.agg #[.int .i64 0, .slice none 0 0], .slice none 0 0, .bool false]) ?_ rfl F.out
        simp [results, Tryz.results85, go_sem, u0, u1]
      · have HGO : Hid (GoM k R) := Lib.hid ⟨HCP.out, ⟨c, HC.out, inB_bounds HIN.out⟩, h, HH.out, by omega⟩
        go_wp2_with fail
        refine (HAR.out _ (HL.out.later (Below.now HW1.out HB4.out))).mono ?_
        rintro e w5 ⟨L, f, aL, cL, hal, rfl, hol, hb5⟩
        obtain rfl : f = true := by
          rcases hal with ⟨h1, _⟩ | ⟨_, _, _, _, _, _, h1, _⟩
          · exact absurd ⟨c, HC.out, by have := inB_bounds HIN.out; omega, by have := inB_bounds HIN.out; omega⟩ h1
          · exact h1
        have HAL := Lib.hid hal
        have HMW := Lib.hid (HGO.out.words hal)
        have hlen40 := HMW.out.few
        have HB5 := Lib.hid (Below.now HB4.out hb5)
        have HOL : Hid (w5.ownsRow (w.heap.size + 2) 9 1 (.slice aL L.length cL) L.length (strVals L)) := Lib.hid (owns_mono hol (by have := HB4.out.size; have := HZ.out; omega))
        have HSL : Hid (StrsIn w5 aL L) := Lib.hid (owns_cells hol)
        have HST : Hid (MonSt w5 (w5.alloc (.cells #[.int .i64 (L.length : Nat), .slice none 0 0] 60)) w5.heap.size L (prodTo R L 0 0)) := Lib.hid ⟨_, Rec2.start _ _ 1 (Below.refl _ _) _⟩
        clear hal hol hb5 s0 s1 u0 u1 z0 z1 h8 HB3 HB4
        go_wp2_with fail
        generalize w5.alloc (.cells #[.int .i64 (L.length : Nat), .slice none 0 0] 60) = w6 at *
        generalize hg : w5.heap.size = g at *
        have HG := Lib.hid hg
        clear hg
        go_loopw [39] (fun vi wr => ∃ i : Nat, i ≤ L.length ∧ vi = .int .i64 i ∧ Hid (MonSt w5 wr g L (prodTo R L i 0))) (fun vi _ => L.length - (intOf vi).toNat)
        case atStart => exact ⟨0, Nat.zero_le _, rfl, HST⟩
        case round =>
          clear HST
          obtain ⟨i, hi, rfl, HST⟩ := hrel
          obtain ⟨vt, HR⟩ := HST.out
          have HRH := Lib.hid HR
          have hbw := HR.below
          by_cases hlt : i < L.length
          · obtain ⟨b, off, rfl, hb, hc⟩ := (HSL.out.later hbw).cell hlt
            have c1 := hc i hlt
            clear hc hbw HR
            have HWP : Hid (∀ j, j < L.length → wordOkB k (nthS L i ++ nthS L j) = true ∧ (nthS L i).size + (nthS L j).size ≤ 16) := Lib.hid (fun j hj => HMW.out.pair hlt hj)
            have HPS := Lib.hid (fun j => prodTo_step R L i j)
            generalize hu : nthS L i = u at *
            have HU := Lib.hid hu
            clear hu
            go_wp2_with fail
            generalize hW : wr = wr0 at *
            clear hW
            go_loopw [45] (fun vj wr => ∃ j : Nat, j ≤ L.length ∧ vj = .int .i64 j ∧ Hid (MonSt w5 wr g L (prodTo R L i j))) (fun vj _ => L.length - (intOf vj).toNat)
            case atStart => exact ⟨0, Nat.zero_le _, rfl, HST⟩
            case round =>
              clear HST HRH
              obtain ⟨j, hj, rfl, HST⟩ := hrel
              obtain ⟨v0, HR⟩ := HST.out
              have HRH := Lib.hid HR
              have hbw := HR.below
              by_cases hjl : j < L.length
              · obtain ⟨b2, off2, ha2, hb2, hc2⟩ := (HSL.out.later hbw).cell hjl
                cases ha2
                have c2 := hc2 j hjl
                obtain ⟨hwok, hsz⟩ := HWP.out j hjl
                have HWO := Lib.hid hwok
                obtain ⟨⟨s0, s1⟩, _, _, _⟩ := HBX.out wr (Below.now HB5.out hbw)
                have hx1 : ¬ 9223372036854775807 < u.size + (nthS L j).size := by omega
                have HNC := Lib.hid (HNF.out (u ++ nthS L j) wr (HL.out.later (Below.now HW1.out (Below.now HB5.out hbw))) HCP.out.1 hwok)
                have HP1 := Lib.hid (HPS.out j)
                clear hc2 hbw HR hwok
                generalize nthS L j = y at *
                go_wp2_with fail
                refine HNC.out.mono ?_
                rintro e w7 ⟨x, hx, rfl, hb7⟩
                obtain rfl := nfC_eq hx
                have HR7 := Lib.hid (HRH.out.later hb7)
                obtain ⟨_, t1, _, f1⟩ := HR7.out.facts
                have HS7 := Lib.hid (fun W (hW : Below w7.heap.size w7 W) => HSL.out.later (Below.now HR7.out.below hW))
                have hgl := HR7.out.lt
                have hxl := prodTo_few hlen40 (R := R) hi hj
                clear hx hb7 HRH s0 s1 c1 c2 HNC HWO
                generalize nfC R (u ++ y) = x at *
                have HFD := Lib.hid (fun W h => l08Find_any x L (some ⟨b, off, none⟩) cL W h (by omega))
                generalize idxB L x = z at *
                have HXS : Hid (∃ xs, xs = prodTo R L i j) := Lib.hid ⟨_, rfl⟩
                generalize prodTo R L i j = xs at *
                have M1 : Hid (∀ u ∈ [Value.int .i64 z], u.oneCell' = true) := Lib.hid (fun u hu => by rw [List.mem_singleton.1 hu]; rfl)
                have N3 : Hid (xs.length + 1 ≤ maxLen) := Lib.hid (by unfold maxLen; omega)
                have N4 : Hid ((xs.length + 1) * 8 ≤ 140737488355328) := Lib.hid (by omega)
                clear hxl HXS
                go_wp2_with fail
                have kr := Below.refl w7.heap.size w7
                go_region_law (first
                  | (go_simp; go_at_call 121; refine (HFD.out _ (HS7.out _ (by repeat (first | exact kr | refine Below.drew ?_ | refine below_drewN ?_ _)))).mono ?_; rintro e w8 ⟨rfl, hb8⟩; replace kr : Below w7.heap.size w7 w8 := Below.now (by repeat (first | exact kr | refine Below.drew ?_ | refine below_drewN ?_ _)) hb8; have HR8 := Lib.hid (HR7.out.later kr); have q0 := HR8.out.facts.2.1; have q2 : ∀ ob, (w8.alloc ob).cell? ⟨g, 1, none⟩ = some v0 := fun ob => (HR8.out.later (alloc_belowS w8 ob)).facts.2.1; clear hb8)
                  | (refine step_appH rfl (.tmp 58) (.tmp 62) (by rfl) Tryz.underlying49 Tryz.infoInt rfl (by decide) (by rfl) HR8.out.own HR8.out.lt (by rfl) (by rfl) M1.out N3.out N4.out ?_; intro g4 c4 w9 hn9 hg9; have P9 := Lib.hid (HR8.out.put (Below.refl _ _) hg9 hn9); have q9 := rec_cells (HR8.out.grown (Below.refl _ _) hg9); obtain ⟨_, q1, _, q3⟩ := q9; clear hn9 hg9))
                all_goals
                  have F : Hid (MonSt w5 (w9.setCell ⟨g, 1, none⟩ (.slice (some ⟨g4, 0, none⟩) (xs.length + 1) c4)) g L (prodTo R L i (j + 1))) := Lib.hid ⟨_, by rw [HP1.out, intVals_one, List.length_append]; exact P9.out⟩
                  clear q0 q1 q2 q3 t1 f1
                  go_wp2_with fail
                  go_roundw
                  case rel => exact ⟨j + 1, by omega, by go_num, F⟩
                  case measure => simp [intOf]; omega
              · obtain rfl : j = L.length := by omega
                have F : Hid (MonSt w5 wr g L (prodTo R L (i + 1) 0)) := Lib.hid (by rw [← prodTo_next]; exact HST.out)
                clear HR hbw
                go_wp2_with fail
                go_roundw
                case rel => exact ⟨i + 1, by omega, by go_num, F⟩
                case measure => simp [intOf]; omega
          · obtain rfl : i = L.length := by omega
            obtain ⟨aP, cP, hv⟩ := owns_form HR.own
            subst hv
            obtain ⟨t0, t1, _, _⟩ := HR.facts
            obtain ⟨_, ⟨u0, u1⟩, z0, z1⟩ := HBX.out wr (Below.now HB5.out hbw)
            have hg1 : w.heap.size + 2 ≤ g := by have := HB5.out.size; have := HZ.out; have := HG.out; omega
            have hPL : prodTo R L L.length 0 = prodF R L := prodTo_done R L
            rw [hPL] at HRH t1 HR
            have F : Hid (RetMon k R w (.returned (.tuple #[.agg #[.int .i64 (L.length : Nat), .slice aP (prodF R L).length cP], .slice aL L.length cL, .bool true])) ((wr.setCell ⟨w.heap.size + 1, 0, none⟩ (.int .i64 (L.length : Nat))).setCell ⟨w.heap.size + 1, 1, none⟩ (.slice aP (prodF R L).length cP))) :=
              Lib.hid ⟨L, prodF R L, true, aP, aL, cP, cL, .inr ⟨HGO.out, HAL.out, rfl, rfl⟩, rfl,
                owns_mono (ownsRow_setCell_below (ownsRow_setCell_below HRH.out.own (by show w.heap.size + 1 < g + 1; omega) _) (by show w.heap.size + 1 < g + 1; omega) _) (by omega),
                owns_mono (ownsRow_setCell_below (ownsRow_setCell_below (owns_later HOL.out HRH.out.below) (by show w.heap.size + 1 < w.heap.size + 2; omega) _) (by show w.heap.size + 1 < w.heap.size + 2; omega) _) (by omega),
                ((Below.now HW1.out (Below.now HB5.out hbw)).setCell (by simp; try omega) _).setCell (by simp; try omega) _⟩
            clear hPL hbw HR
            go_wp2_with fail
            refine bodyPost_ret (v := .tuple #[.agg #[.int .i64 (L.length : Nat), .slice aP (prodF R L).length cP], .slice aL L.length cL, .bool true]) ?_ rfl F.out
            simp [results, Tryz.results85, go_sem, u0, u1]
end Go.Proofs.YtdhaebbfiaddnaaGreatDoor
