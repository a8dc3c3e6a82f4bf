/-
  Ways held in a map (strings to integers): plain data.
-/
import Derived.Test.YtggfhephdcnpcaaGreatGrp19
import Derived.Test.YtggfhephdcnpcaaGreatGrp13
import Derived.Maps.Own
import Derived.Maps.OwnOps
import Derived.Maps.RangeWalk
import Derived.Maps.Views
namespace Go.Proofs.YtggfhephdcnpcaaGreat
open Go.RowKit
set_option linter.unusedVariables false
/-- rules whose sides have at most m bytes -/
def ShortR (m : Nat) (R : List RulD) : Prop := ∀ r ∈ R, r.1.size ≤ m ∧ r.2.size ≤ m
theorem ShortR.app {m : Nat} {R : List RulD} {r : RulD} (h : ShortR m R) (hr : r.1.size ≤ m ∧ r.2.size ≤ m) : ShortR m (R ++ [r]) := by
  intro x hx
  rcases List.mem_append.1 hx with h1 | h1
  · exact h x h1
  · obtain rfl : x = r := by simpa using h1
    exact hr
theorem ShortR.sz {m : Nat} {R : List RulD} (h : ShortR m R) (hm : m ≤ maxLen) : SzR R := fun j hj => ⟨Nat.le_trans (h _ (nthR_mem hj)).1 hm, Nat.le_trans (h _ (nthR_mem hj)).2 hm⟩
/-- some system in memory -/
def RetPS (m : Nat) (w : World) (e : Ending) (w' : World) : Prop := ∃ (k : Int) (R : List RulD) (a : Option Addr) (cap : Nat) (b : Bool),
  (ShortR m R ∧ R.length ≤ m) ∧ e = .returned (.tuple #[.agg #[.int .i64 k, .slice a R.length cap], .bool b]) ∧ RulesIn w' a R ∧ Below w.heap.size w w'
theorem RetPS.zero {m : Nat} {w wr : World} (h : Below w.heap.size w wr) : RetPS m w (.returned (.tuple #[.agg #[.int .i64 0, .slice none 0 0], .bool false])) ((wr.setCell ⟨w.heap.size, 0, none⟩ (.int .i64 0)).setCell ⟨w.heap.size, 1, none⟩ (.slice none 0 0)) :=
  ⟨0, [], none, 0, false, ⟨fun r hr => by simp at hr, Nat.zero_le _⟩, rfl, .inl rfl, (h.setCell (Nat.le_refl _) _).setCell (Nat.le_refl _) _⟩
set_option maxRecDepth 20000 in
set_option maxHeartbeats 4000000 in
theorem specParseSystem_any (s : ByteArray) (w : World) (hs : s.size ≤ 1000) :
    Calls Tryz.prog 75 #[.string s] w (RetPS (s.size + 1) w) := by
  have HSP := Lib.hid (fun W => specSplitAny_any s 32 W (by omega))
  have HW1 := Lib.hid ((Below.refl w.heap.size w).alloc (Nat.le_refl _) (.cells #[.int .i64 0, .slice none 0 0] 67))
  go_enter Tryz.func75, Tryz.ntmps75
  go_wp2_with fail
  refine (HSP.out _).mono ?_
  rintro e w2 ⟨l, ⟨hl1, hl2, hl3⟩, a, cap, rfl, ho, hb2⟩
  have hb0 := (hb2.block w.heap.size (by simp)).trans (alloc_at w (.cells #[.int .i64 0, .slice none 0 0] 67))
  have hcap := owns_capS ho
  obtain ⟨g, hg, off, rfl, hcells⟩ : ∃ g, g < w2.heap.size ∧ ∃ off, a = some ⟨g, off, none⟩ ∧ ∀ j, j < l.length → w2.cell? ⟨g, off + j, none⟩ = some (.string (nthS l j)) := by
    obtain ⟨b, off, ha, hb, hc⟩ := (owns_strs ho).cell (show 0 < l.length by omega)
    exact ⟨b, hb, off, ha, hc⟩
  have hc0 : w2.cell? ⟨g, off, none⟩ = some (.string (nthS l 0)) := hcells 0 (by omega)
  have hz0 := hl1.at_ (show 0 < l.length by omega)
  have HPI := Lib.hid (fun W => specParseInt_any (nthS l 0) W (by omega))
  have HB2 := Lib.hid (Below.now HW1.out hb2)
  have HC := Lib.hid hcells
  have HO := Lib.hid hb0
  clear hcells hb2 ho hz0 hb0
  generalize nthS l 0 = s0 at *
  go_wp2_with fail
  refine (HPI.out _).mono ?_
  rintro e w3 ⟨n, b, ⟨hn1, hn2⟩, rfl, hb3⟩
  have hb0 := (hb3.block w.heap.size (Array.getElem?_eq_some_iff.1 HO.out).1).trans HO.out
  have HB3 := Lib.hid (Below.now HB2.out hb3)
  have HC3 : Hid (∀ j, j < l.length → w3.cell? ⟨g, off + j, none⟩ = some (.string (nthS l j))) := Lib.hid (fun j hj => by rw [hb3.cell (World.block_lt_of_cell? w2 _ (HC.out j hj))]; exact HC.out j hj)
  clear hb3 HC HO HPI hc0
  cases b
  · have F := Lib.hid (RetPS.zero (m := s.size + 1) HB3.out)
    obtain ⟨z0, z1⟩ := sys_cells hb0
    obtain ⟨u0, u1⟩ := sys_cells (set_two hb0 (.int .i64 0) (.slice none 0 0))
    have ff0 : w3.frozen? ⟨w.heap.size, 0, none⟩ = false := by simp [World.frozen?, hb0]
    have ff1 : w3.frozen? ⟨w.heap.size, 1, none⟩ = false := by simp [World.frozen?, hb0]
    clear hb0
    go_wp2_with fail
    refine bodyPost_ret (v := .tuple #[.agg #[.int .i64 0, .slice none 0 0], .bool false]) ?_ rfl F.out
    simp [results, Tryz.results75, go_sem, u0, u1]
  · have HR := Lib.hid (Rec2.start 67 88 2 (w := w3) (w1 := w3) (Below.refl _ _) (.int .i64 n))
    obtain ⟨m, hm⟩ : ∃ m, l.length = m + 1 := ⟨l.length - 1, by omega⟩
    have HZ := Lib.hid hb0
    clear hb0
    go_upto_region 6 with fail
    generalize hW4 : w3.alloc (.cells #[.int .i64 n, .slice none 0 0] 67) = w4 at *
    go_cut [27, 28, 29] (fun v u i wx => ∃ off2 cap2, v = .slice (some ⟨g, off2, none⟩) m cap2 ∧ u = .int .i64 (m : Nat) ∧ i = .int .i64 0 ∧ (∀ j, j < m → w3.cell? ⟨g, off2 + j, none⟩ = some (.string (nthS l (j + 1)))) ∧ wx = w4)
    case first =>
      by_cases hc1 : cap = 1
      · subst hc1
        obtain rfl : m = 0 := by omega
        go_wp2_with fail
        go_meet
        exact ⟨_, _, rfl, rfl, rfl, fun j hj => by omega, rfl⟩
      · have hc2 : (1 : Int) < (cap : Int) := by omega
        have hc3 : ¬ (cap : Int) = 1 := by omega
        have HCC : Hid (∀ j, j < m → w3.cell? ⟨g, off + 1 + j, none⟩ = some (.string (nthS l (j + 1)))) := Lib.hid (fun j hj => by rw [show off + 1 + j = off + (j + 1) by omega]; exact HC3.out (j + 1) (by omega))
        go_wp2_with fail
        go_meet
        exact ⟨_, _, rfl, rfl, rfl, HCC.out, rfl⟩
    case rest =>
      obtain ⟨off2, cap2, rfl, rfl, rfl, hcs, rfl⟩ := hcut
      have HCS := Lib.hid hcs
      clear hcs HC3 hW4
      go_wp2_with fail
      go_loopw [29] (fun i wr => ∃ (R : List RulD) (v : Value), R.length ≤ m ∧ i = .int .i64 (R.length : Nat) ∧ Hid (ShortR s.size R) ∧ Hid (Rec2 67 88 2 w3 wr w3.heap.size (.int .i64 n) v R.length (ruleCells R))) (fun i _ => m - (intOf i).toNat)
      case atStart => exact ⟨[], .slice none 0 0, Nat.zero_le _, rfl, Lib.hid (fun r hr => by simp at hr), HR⟩
      case round =>
        clear HR
        obtain ⟨R, v, hj, rfl, hsh, HRC⟩ := hrel
        obtain ⟨a3, c3, rfl⟩ := owns_form HRC.out.own
        have HBW := Lib.hid (Below.now HB3.out HRC.out.below)
        have hz := (HRC.out.below.block w.heap.size (Array.getElem?_eq_some_iff.1 HZ.out).1).trans HZ.out
        have hsz := HRC.out.lt
        by_cases hlt : R.length < m
        · have cw : wr.cell? ⟨g, off2 + R.length, none⟩ = some (.string (nthS l (R.length + 1))) := by rw [HRC.out.below.cell (World.block_lt_of_cell? w3 _ (HCS.out R.length hlt))]; exact HCS.out R.length hlt
          have hnz := hl1.at_ (show R.length + 1 < l.length by omega)
          have HPR := Lib.hid (fun W => specParseRule_any (nthS l (R.length + 1)) W (by omega))
          generalize nthS l (R.length + 1) = sj at *
          have HZW := Lib.hid hz
          clear hz
          go_wp2_with fail
          refine (HPR.out _).mono ?_
          rintro e w5 ⟨x, y, b, ⟨hx, hy⟩, rfl, hb5⟩
          have HR5 := Lib.hid (HRC.out.later hb5)
          have HB5 := Lib.hid (Below.now HBW.out hb5)
          have hz5 := (hb5.block w.heap.size (Array.getElem?_eq_some_iff.1 HZW.out).1).trans HZW.out
          have HK6 := Lib.hid (fun o => alloc_belowS w5 o)
          have hz := ((HK6.out (.cells #[.string x, .string y] 88)).block w.heap.size (Array.getElem?_eq_some_iff.1 hz5).1).trans hz5
          have HR6 := Lib.hid (HR5.out.later (HK6.out (.cells #[.string x, .string y] 88)))
          replace HBW := Lib.hid (Below.now HB5.out (HK6.out (.cells #[.string x, .string y] 88)))
          obtain ⟨n0, n1⟩ := sys_cells (alloc_at w5 (.cells #[.string x, .string y] 88))
          clear HRC HZW cw hb5 HR5 HB5 hz5 HK6 HPR
          go_upto_region 10 with fail
          generalize w5.alloc (.cells #[.string x, .string y] 88) = w6 at *
          cases b
          · have F := Lib.hid (RetPS.zero (m := s.size + 1) HBW.out)
            obtain ⟨z0, z1⟩ := sys_cells hz
            obtain ⟨u0, u1⟩ := sys_cells (set_two hz (.int .i64 0) (.slice none 0 0))
            have ff0 : w6.frozen? ⟨w.heap.size, 0, none⟩ = false := by simp [World.frozen?, hz]
            have ff1 : w6.frozen? ⟨w.heap.size, 1, none⟩ = false := by simp [World.frozen?, hz]
            clear hz
            go_wp2_with fail
            refine bodyPost_ret (v := .tuple #[.agg #[.int .i64 0, .slice none 0 0], .bool false]) ?_ rfl F.out
            simp [results, Tryz.results75, go_sem, u0, u1]
          · have HN1 : Hid ([Value.string x, .string y].length = 1 * 2) := Lib.hid rfl
            have HN2 : Hid (∀ v ∈ [Value.string x, .string y], v.oneCell' = true) := Lib.hid (fun v hv => by simp at hv; rcases hv with rfl | rfl <;> rfl)
            obtain ⟨_, y1, _, y3⟩ := HR6.out.facts
            clear hz
            go_wp2_with (at_builtin; refine wpList_appH (n := R.length) (wr := w6) (news := [Value.string x, .string y]) rfl (.tmp 42) (.tmp 44) rfl Tryz.underlying65 Tryz.infoRule rfl (by decide) rfl HR6.out.own HR6.out.lt rfl HN1.out HN2.out (by unfold maxLen; omega) (by omega) ?_; intro g4 c4 w4 ho4 hg4 hr4; obtain ⟨_, x1, _, x3⟩ := rec_cells (HR6.out.grown (Below.refl _ _) hg4))
            have HR4 : Hid (Rec2 67 88 2 w3 (w4.setCell ⟨w3.heap.size, 1, none⟩ (.slice (some ⟨g4, 0, none⟩) (R.length + 1) c4)) w3.heap.size (.int .i64 n) (.slice (some ⟨g4, 0, none⟩) (R.length + 1) c4) (R ++ [(x, y)]).length (ruleCells (R ++ [(x, y)]))) := Lib.hid (by
              rw [List.length_append, ruleCells_app, show ruleCells [(x, y)] = [Value.string x, .string y] from rfl]; exact HR6.out.put (Below.refl _ _) hg4 ho4)
            have HSH := Lib.hid (hsh.out.app (r := (x, y)) ⟨by show x.size ≤ s.size; omega, by show y.size ≤ s.size; omega⟩)
            clear ho4 hg4 hr4 y1 y3 n0 n1 x1 x3
            go_wp2_with fail
            go_roundw
            case rel => exact ⟨R ++ [(x, y)], _, by simp; omega, by simp, HSH, HR4⟩
            case measure => simp [intOf]; omega
        · obtain rfl : m = R.length := by omega
          have HRO := Lib.hid (fun W h => specRulesOk_any n R a3 c3 W h (by omega) (hsh.out.sz (by unfold maxLen; omega)))
          have HFS := Lib.hid (fun W h => specFormatSystem_any n R a3 c3 W h (by omega) (hsh.out.sz (by unfold maxLen; omega)))
          have HRI := Lib.hid (owns_rules HRC.out.own)
          obtain ⟨y0, y1, _, _⟩ := HRC.out.facts
          have HZW := Lib.hid hz
          clear hz
          go_wp2_with fail
          refine (HRO.out _ HRI.out).mono ?_
          rintro e w5 ⟨bb, hbb, rfl, hb5⟩
          have HR5 := Lib.hid (HRC.out.later hb5)
          replace HBW := Lib.hid (Below.now HBW.out hb5)
          have hz := (hb5.block w.heap.size (Array.getElem?_eq_some_iff.1 HZW.out).1).trans HZW.out
          clear HRC HZW hb5 HRO hbb y0 y1 HRI
          cases bb
          · have F := Lib.hid (RetPS.zero (m := s.size + 1) HBW.out)
            obtain ⟨z0, z1⟩ := sys_cells hz
            obtain ⟨u0, u1⟩ := sys_cells (set_two hz (.int .i64 0) (.slice none 0 0))
            have ff0 : w5.frozen? ⟨w.heap.size, 0, none⟩ = false := by simp [World.frozen?, hz]
            have ff1 : w5.frozen? ⟨w.heap.size, 1, none⟩ = false := by simp [World.frozen?, hz]
            clear hz
            go_wp2_with fail
            refine bodyPost_ret (v := .tuple #[.agg #[.int .i64 0, .slice none 0 0], .bool false]) ?_ rfl F.out
            simp [results, Tryz.results75, go_sem, u0, u1]
          · have HRI := Lib.hid (owns_rules HR5.out.own)
            obtain ⟨y0, y1, _, _⟩ := HR5.out.facts
            have HZW := Lib.hid hz
            clear hz
            go_wp2_with fail
            refine (HFS.out _ HRI.out).mono ?_
            rintro e w6 ⟨rfl, hb6⟩
            have HR6 := Lib.hid (HR5.out.later hb6)
            replace HBW := Lib.hid (Below.now HBW.out hb6)
            have hz := (hb6.block w.heap.size (Array.getElem?_eq_some_iff.1 HZW.out).1).trans HZW.out
            clear HR5 HZW hb6 HFS y0 y1 HRI
            generalize sysT0 n R = st at *
            cases hq : (st.toList == s.toList)
            · have F := Lib.hid (RetPS.zero (m := s.size + 1) HBW.out)
              obtain ⟨z0, z1⟩ := sys_cells hz
              obtain ⟨u0, u1⟩ := sys_cells (set_two hz (.int .i64 0) (.slice none 0 0))
              have ff0 : w6.frozen? ⟨w.heap.size, 0, none⟩ = false := by simp [World.frozen?, hz]
              have ff1 : w6.frozen? ⟨w.heap.size, 1, none⟩ = false := by simp [World.frozen?, hz]
              clear hz
              go_wp2_with fail
              refine bodyPost_ret (v := .tuple #[.agg #[.int .i64 0, .slice none 0 0], .bool false]) ?_ rfl F.out
              simp [results, Tryz.results75, go_sem, u0, u1]
            · have F : Hid (RetPS (s.size + 1) w (.returned (.tuple #[.agg #[.int .i64 n, .slice a3 R.length c3], .bool true])) ((w6.setCell ⟨w.heap.size, 0, none⟩ (.int .i64 n)).setCell ⟨w.heap.size, 1, none⟩ (.slice a3 R.length c3))) := Lib.hid ⟨n, R, a3, c3, true, ⟨fun r hr => ⟨Nat.le_trans (hsh.out r hr).1 (by omega), Nat.le_trans (hsh.out r hr).2 (by omega)⟩, by omega⟩, rfl,
                owns_rules (ownsRow_setCell_below (ownsRow_setCell_below HR6.out.own (by show w.heap.size < w3.heap.size + 1; have := HB3.out.size; omega) _) (by show w.heap.size < w3.heap.size + 1; have := HB3.out.size; omega) _), (HBW.out.setCell (Nat.le_refl _) _).setCell (Nat.le_refl _) _⟩
              obtain ⟨y0, y1, _, _⟩ := HR6.out.facts
              obtain ⟨z0, z1⟩ := sys_cells hz
              obtain ⟨u0, u1⟩ := sys_cells (set_two hz (.int .i64 n) (.slice a3 R.length c3))
              have ff0 : w6.frozen? ⟨w.heap.size, 0, none⟩ = false := by simp [World.frozen?, hz]
              have ff1 : w6.frozen? ⟨w.heap.size, 1, none⟩ = false := by simp [World.frozen?, hz]
              clear hz
              go_wp2_with fail
              refine bodyPost_ret (v := .tuple #[.agg #[.int .i64 n, .slice a3 R.length c3], .bool true]) ?_ rfl F.out
              simp [results, Tryz.results75, go_sem, u0, u1]
end Go.Proofs.YtggfhephdcnpcaaGreat
namespace Go.Proofs.YtggfhephdcnpcaaGreat
open Go.RowKit Go.Maps Go.WideShapes
set_option linter.unusedVariables false
def keyL (e : ByteArray) : Lit := .string e.data.toList
theorem keyL_inj {a b : ByteArray} (h : keyL a = keyL b) : a = b := by
  unfold keyL at h
  exact ba_ext0 (by simpa using h)
theorem keyL_same {a b : ByteArray} : (keyL a).sameKey (keyL b) = true ↔ a = b := by
  unfold keyL Lit.sameKey
  constructor
  · intro h; exact ba_ext0 (by simpa using h)
  · intro h; subst h; simp
def encW (p : ByteArray × Nat) : Lit × DataW Unit := (keyL p.1, .lit (.int .i64 (p.2 : Int)))
/-- the ends are different ones -/
def ApartW (V : WayD) : Prop := V.Pairwise (fun p q => p.1 ≠ q.1)
/-- a map holds these ways -/
def RepM (D : DataW Unit) (V : WayD) : Prop := ApartW V ∧ ∃ es, D = .map es ∧ es.Perm (V.map encW)
theorem RepM.nil : RepM (.map []) [] := ⟨List.Pairwise.nil, [], rfl, .refl _⟩
theorem ApartW.eq {V : WayD} (h : ApartW V) {i j : Nat} (hi : i < V.length) (hj : j < V.length) (he : V[i].1 = V[j].1) : i = j := by
  rcases Nat.lt_trichotomy i j with e | e | e
  · exact absurd he ((List.pairwise_iff_getElem.1 h) i j hi hj e)
  · exact e
  · exact absurd he.symm ((List.pairwise_iff_getElem.1 h) j i hj hi e)
theorem RepM.look {D : DataW Unit} {V : WayD} (h : RepM D V) (v : ByteArray) : (∃ i, ∃ hi : i < V.length, V[i].1 = v ∧ ∀ zd, D.atKey (keyL v) zd = .lit (.int .i64 (V[i].2 : Int))) ∨ ((∀ p ∈ V, p.1 ≠ v) ∧ ∀ zd, D.atKey (keyL v) zd = zd) := by
  obtain ⟨hap, es, rfl, hp⟩ := h
  by_cases hex : ∃ p ∈ V, p.1 = v
  · left
    obtain ⟨p, hpV, rfl⟩ := hex
    obtain ⟨i, hi, rfl⟩ := List.getElem_of_mem hpV
    refine ⟨i, hi, rfl, fun zd => ?_⟩
    have hm : encW V[i] ∈ es := hp.mem_iff.2 (List.mem_map_of_mem (List.getElem_mem hi))
    unfold DataW.atKey
    simp only []
    cases hf : es.find? (fun p => p.1.sameKey (keyL V[i].1)) with
    | none =>
      have := (List.find?_eq_none.1 hf) _ hm
      exact absurd (keyL_same.2 rfl) this
    | some q =>
      have h1 := List.find?_some hf
      have h2 := List.mem_of_find?_eq_some hf
      obtain ⟨r, hr, rfl⟩ := List.mem_map.1 (hp.mem_iff.1 h2)
      obtain ⟨j, hj, rfl⟩ := List.getElem_of_mem hr
      have h3 := keyL_same.1 h1
      have := hap.eq hj hi h3
      subst this
      rfl
  · right
    have hne : ∀ p ∈ V, p.1 ≠ v := fun p hp e => hex ⟨p, hp, e⟩
    refine ⟨hne, fun zd => ?_⟩
    unfold DataW.atKey
    simp only []
    cases hf : es.find? (fun p => p.1.sameKey (keyL v)) with
    | none => rfl
    | some q =>
      have h1 := List.find?_some hf
      have h2 := List.mem_of_find?_eq_some hf
      obtain ⟨r, hr, rfl⟩ := List.mem_map.1 (hp.mem_iff.1 h2)
      exact absurd (keyL_same.1 h1) (hne r hr)
theorem filter_enc (V : WayD) (v : ByteArray) : (V.map encW).filter (fun p => !p.1.sameKey (keyL v)) = (V.filter fun p => !decide (p.1 = v)).map encW := by
  rw [List.filter_map]
  congr 1
  apply List.filter_congr
  intro p _
  show (!(keyL p.1).sameKey (keyL v)) = _
  congr 1
  rw [Bool.eq_iff_iff, keyL_same, decide_eq_true_iff]
theorem RepM.new {D : DataW Unit} {V : WayD} (h : RepM D V) {v : ByteArray} (c : Nat) (hv : ∀ p ∈ V, p.1 ≠ v) : RepM (D.put (keyL v) (.lit (.int .i64 (c : Int)))) (V ++ [(v, c)]) := by
  obtain ⟨hap, es, rfl, hp⟩ := h
  refine ⟨?_, _, rfl, ?_⟩
  · unfold ApartW
    rw [List.pairwise_append]
    exact ⟨hap, List.pairwise_singleton _ _, fun p hp q hq => by rw [List.mem_singleton.1 hq]; exact hv p hp⟩
  · refine (insert_perm _ _).trans ?_
    have h1 := hp.filter (fun p => !p.1.sameKey (keyL v))
    have h2 : V.filter (fun p => !decide (p.1 = v)) = V := List.filter_eq_self.2 (fun p hp => by simpa using hv p hp)
    rw [filter_enc, h2] at h1
    refine (h1.cons _).trans ?_
    rw [List.map_append]
    exact (List.perm_append_singleton _ _).symm
theorem apart_split {V : WayD} (hap : ApartW V) {a : Nat} (ha : a < V.length) : V.filter (fun p => !decide (p.1 = V[a].1)) = V.take a ++ V.drop (a + 1) := by
  have e : V = V.take a ++ V[a] :: V.drop (a + 1) := by
    conv => lhs; rw [← List.take_append_drop a V, List.drop_eq_getElem_cons ha]
  have h1 : (V.take a).filter (fun p => !decide (p.1 = V[a].1)) = V.take a := List.filter_eq_self.2 (fun p hp => by
    obtain ⟨i, hi, rfl⟩ := List.getElem_of_mem hp
    rw [List.length_take] at hi
    rw [List.getElem_take]
    have : V[i].1 ≠ V[a].1 := fun e => by have := hap.eq (show i < V.length by omega) ha e; omega
    simpa using this)
  have h2 : (V.drop (a + 1)).filter (fun p => !decide (p.1 = V[a].1)) = V.drop (a + 1) := List.filter_eq_self.2 (fun p hp => by
    obtain ⟨i, hi, rfl⟩ := List.getElem_of_mem hp
    rw [List.length_drop] at hi
    rw [List.getElem_drop]
    have : V[a + 1 + i].1 ≠ V[a].1 := fun e => by have := hap.eq (show a + 1 + i < V.length by omega) ha e; omega
    simpa using this)
  have h3 : V.filter (fun p => !decide (p.1 = V[a].1)) = (V.take a ++ V[a] :: V.drop (a + 1)).filter (fun p => !decide (p.1 = V[a].1)) := by rw [← e]
  rw [h3, List.filter_append, List.filter_cons, h1, h2]
  simp
theorem RepM.old {D : DataW Unit} {V : WayD} (h : RepM D V) {a : Nat} (ha : a < V.length) (c : Nat) : RepM (D.put (keyL V[a].1) (.lit (.int .i64 ((V[a].2 + c : Nat) : Int)))) (addW V a c) := by
  obtain ⟨hap, es, rfl, hp⟩ := h
  refine ⟨?_, _, rfl, ?_⟩
  · unfold ApartW addW
    rw [List.pairwise_iff_getElem]
    intro i j hi hj hij
    have h1 := (List.pairwise_iff_getElem.1 hap) i j (by simpa using hi) (by simpa using hj) hij
    rw [List.getElem_modify, List.getElem_modify]
    split <;> split <;> exact h1
  · refine (insert_perm _ _).trans ?_
    have h1 := hp.filter (fun p => !p.1.sameKey (keyL V[a].1))
    rw [filter_enc, apart_split hap ha] at h1
    refine (h1.cons _).trans ?_
    rw [addW_split ha]
    simp only [List.map_append, List.map_cons, List.append_assoc, List.cons_append, List.nil_append]
    exact (List.perm_middle).symm
theorem RepM.has {D : DataW Unit} {V : WayD} (h : RepM D V) {p : ByteArray × Nat} (hp : p ∈ V) : Maps.has D (keyL p.1) = true := by
  obtain ⟨hap, es, rfl, hpm⟩ := h
  rw [has_eq, List.any_eq_true]
  exact ⟨encW p, hpm.mem_iff.2 (List.mem_map_of_mem hp), keyL_same.2 rfl⟩
/-- the ways that have come up -/
def doneW (left : Lit → Bool) (W : WayD) : WayD := W.filter fun p => !left (keyL p.1)
theorem doneW_start {D : DataW Unit} {W : WayD} (h : RepM D W) : doneW (Maps.has D) W = [] := by
  unfold doneW
  rw [List.filter_eq_nil_iff]
  intro p hp
  simp [h.has hp]
theorem doneW_end {left : Lit → Bool} {W : WayD} (h : ∀ kl, left kl = false) : doneW left W = W := by
  unfold doneW
  rw [List.filter_eq_self]
  intro p _
  simp [h]
theorem doneW_le (R : List RulD) (k m : Nat) (left : Lit → Bool) : ∀ W : WayD, wsum R k m (doneW left W) ≤ wsum R k m W
  | [] => Nat.le_refl _
  | p :: W => by
    have ih := doneW_le R k m left W
    unfold doneW at *
    rw [List.filter_cons]
    have e : ∀ V : WayD, wsum R k m (p :: V) = p.2 * paths R k m p.1 + wsum R k m V := fun V => by simp [wsum]
    split
    · rw [e, e]; omega
    · rw [e]; omega
theorem doneW_stepX (R : List RulD) (k m : Nat) {A B : WayD} {x : ByteArray × Nat} (hA : ∀ p ∈ A, p.1 ≠ x.1) (hB : ∀ p ∈ B, p.1 ≠ x.1) {left : Lit → Bool} (hl : left (keyL x.1) = true) :
    wsum R k m (doneW (fun z => left z && !z.sameKey (keyL x.1)) (A ++ x :: B)) = wsum R k m (doneW left (A ++ x :: B)) + x.2 * paths R k m x.1 := by
  have key : ∀ p : ByteArray × Nat, p.1 ≠ x.1 → (!(left (keyL p.1) && !(keyL p.1).sameKey (keyL x.1))) = !left (keyL p.1) := fun p hp => by
    have h1 : (keyL p.1).sameKey (keyL x.1) = false := by
      cases h : (keyL p.1).sameKey (keyL x.1)
      · rfl
      · exact absurd (keyL_same.1 h) hp
    rw [h1]; simp
  have h1 : A.filter (fun p => !(left (keyL p.1) && !(keyL p.1).sameKey (keyL x.1))) = A.filter (fun p => !left (keyL p.1)) := List.filter_congr (fun p hp => key _ (hA p hp))
  have h2 : B.filter (fun p => !(left (keyL p.1) && !(keyL p.1).sameKey (keyL x.1))) = B.filter (fun p => !left (keyL p.1)) := List.filter_congr (fun p hp => key _ (hB p hp))
  have hs : (keyL x.1).sameKey (keyL x.1) = true := keyL_same.2 rfl
  have e1 : doneW (fun z => left z && !z.sameKey (keyL x.1)) (A ++ x :: B) = A.filter (fun p => !left (keyL p.1)) ++ x :: B.filter (fun p => !left (keyL p.1)) := by
    unfold doneW
    rw [List.filter_append, List.filter_cons, h1, h2]
    simp [hs]
  have e2 : doneW left (A ++ x :: B) = A.filter (fun p => !left (keyL p.1)) ++ B.filter (fun p => !left (keyL p.1)) := by
    unfold doneW
    rw [List.filter_append, List.filter_cons]
    simp [hl]
  have e3 : ∀ (p : ByteArray × Nat) (V : WayD), wsum R k m (p :: V) = p.2 * paths R k m p.1 + wsum R k m V := fun p V => by simp [wsum]
  rw [e1, e2, wsum_app, wsum_app, e3]
  omega
theorem doneW_step (R : List RulD) (k m : Nat) {W : WayD} (hap : ApartW W) {i : Nat} (hi : i < W.length) {left : Lit → Bool} (hl : left (keyL W[i].1) = true) :
    wsum R k m (doneW (fun z => left z && !z.sameKey (keyL W[i].1)) W) = wsum R k m (doneW left W) + W[i].2 * paths R k m W[i].1 := by
  have hA : ∀ p ∈ W.take i, p.1 ≠ W[i].1 := fun p hp e => by
    obtain ⟨j, hj, rfl⟩ := List.getElem_of_mem hp
    rw [List.length_take] at hj
    rw [List.getElem_take] at e
    have := hap.eq (show j < W.length by omega) hi e; omega
  have hB : ∀ p ∈ W.drop (i + 1), p.1 ≠ W[i].1 := fun p hp e => by
    obtain ⟨j, hj, rfl⟩ := List.getElem_of_mem hp
    rw [List.length_drop] at hj
    rw [List.getElem_drop] at e
    have := hap.eq (show i + 1 + j < W.length by omega) hi e; omega
  have h := doneW_stepX R k m hA hB hl
  have e : W.take i ++ W[i] :: W.drop (i + 1) = W := by rw [← List.drop_eq_getElem_cons hi, List.take_append_drop]
  rwa [e] at h
/-- behind the ways that have come up, and j letters of the next one -/
structure WayG (R : List RulD) (k : Nat) (T : WayD) (j : Nat) (e : ByteArray) (c : Nat) (V : WayD) : Prop where
  eq : ∀ m, wsum R k m V = wsum R k (m + 1) T + c * pTo R k m e j
  pos : PosW V
  short : ShortW (keepR R) V
theorem WayG.start (R : List RulD) (k : Nat) (e : ByteArray) (c : Nat) : WayG R k [] 0 e c [] :=
  ⟨fun m => by rw [pTo_zero]; simp [wsum], fun p hp => (by cases hp), fun p hp => (by cases hp)⟩
theorem WayG.no {R : List RulD} {k : Nat} {T V : WayD} {j c : Nat} {e : ByteArray} (h : WayG R k T j e c V) (hx : okX R e j = false) : WayG R k T (j + 1) e c V :=
  ⟨fun m => by rw [pTo_no hx]; exact h.eq m, h.pos, h.short⟩
theorem WayG.old {R : List RulD} {k : Nat} {T V : WayD} {j c a : Nat} {e : ByteArray} (h : WayG R k T j e c V) (hx : okX R e j = true) (ha : a < V.length) (he : V[a].1 = nxtX R e j) : WayG R k T (j + 1) e c (addW V a c) :=
  ⟨fun m => by rw [wsum_add ha, he, h.eq m, pTo_yes hx, Nat.mul_add]; omega, h.pos.add _ _, h.short.add _ _⟩
theorem WayG.new {R : List RulD} {k : Nat} {T V : WayD} {j c : Nat} {e : ByteArray} (h : WayG R k T j e c V) (hx : okX R e j = true) (hc : 1 ≤ c) : WayG R k T (j + 1) e c (V ++ [(nxtX R e j, c)]) :=
  ⟨fun m => by rw [wsum_app, wsum_one, h.eq m, pTo_yes hx, Nat.mul_add]; omega, h.pos.push hc, h.short.push (cutR_size _ _)⟩
theorem WayG.other {R : List RulD} {k : Nat} {T V : WayD} {e e' : ByteArray} {c c' : Nat} (h : WayG R k T 0 e c V) : WayG R k T 0 e' c' V := ⟨fun m => by rw [h.eq m, pTo_zero, pTo_zero]; omega, h.pos, h.short⟩
theorem WayG.row {R : List RulD} {k : Nat} {W V : WayD} (hap : ApartW W) {i : Nat} (hi : i < W.length) {left : Lit → Bool} (hl : left (keyL W[i].1) = true) (h : WayG R k (doneW left W) k W[i].1 W[i].2 V) (e : ByteArray) (c : Nat) :
    WayG R k (doneW (fun z => left z && !z.sameKey (keyL W[i].1)) W) 0 e c V :=
  ⟨fun m => by rw [h.eq m, doneW_step R k (m + 1) hap hi hl, paths_succ, pTo_zero]; omega, h.pos, h.short⟩
theorem WayG.done {R : List RulD} {k n : Nat} {W V : WayD} {e : ByteArray} {c : Nat} (hW : WayAt R k n W) {left : Lit → Bool} (hl : ∀ kl, left kl = false) (h : WayG R k (doneW left W) 0 e c V) : WayAt R k (n + 1) V :=
  ⟨fun m => by rw [h.eq m, doneW_end hl, hW.eq, pTo_zero, show n + (m + 1) = n + 1 + m by omega]; omega, h.pos, h.short⟩
theorem WayG.le {R : List RulD} {k n : Nat} (hk : k ≤ 4) {W V : WayD} (hap : ApartW W) {i j : Nat} (hW : WayAt R k n W) (hi : i < W.length) {left : Lit → Bool} (hl : left (keyL W[i].1) = true) (hj : j ≤ k) (h : WayG R k (doneW left W) j W[i].1 W[i].2 V) : wsum R k 0 V ≤ 4 ^ (n + 1) := by
  rw [h.eq 0]
  have h1 := doneW_step R k (0 + 1) hap hi hl
  have h0 := doneW_le R k (0 + 1) (fun z => left z && !z.sameKey (keyL W[i].1)) W
  rw [h1, paths_succ] at h0
  have h2 := pTo_mono R k 0 W[i].1 hj
  have h3 : W[i].2 * pTo R k 0 W[i].1 j ≤ W[i].2 * pTo R k 0 W[i].1 k := Nat.mul_le_mul_left _ h2
  have h4 := hW.eq (0 + 1)
  have h5 := paths_le (R := R) hk (n + (0 + 1)) ⟨#[]⟩
  rw [← h4] at h5
  have h6 : n + (0 + 1) = n + 1 := by omega
  rw [h6] at h5
  omega
theorem WayG.le0 {R : List RulD} {k n : Nat} (hk : k ≤ 4) {W V : WayD} (hW : WayAt R k n W) {left : Lit → Bool} {e : ByteArray} {c : Nat} (h : WayG R k (doneW left W) 0 e c V) : wsum R k 0 V ≤ 4 ^ (n + 1) := by
  rw [h.eq 0, pTo_zero]
  have h0 := doneW_le R k (0 + 1) left W
  have h4 := hW.eq (0 + 1)
  have h5 := paths_le (R := R) hk (n + (0 + 1)) ⟨#[]⟩
  rw [← h4] at h5
  have h6 : n + (0 + 1) = n + 1 := by omega
  rw [h6] at h5
  omega
theorem paths0 (R : List RulD) (k : Nat) (e : ByteArray) : paths R k 0 e = 1 := rfl
end Go.Proofs.YtggfhephdcnpcaaGreat
