/-
  The table of a complete system is a valid one: its words are the irreducible ones, and products are normal forms.
-/
import Derived.Test.YtngbimgabcacpaaGreatGro01
import Derived.Test.YtngbimgabcacpaaGreatGro19
import Derived.Test.YtngbimgabcacpaaGreatGro08
import Derived.Test.YtngbimgabcacpaaGreatGro12
import Derived.Test.YtngbimgabcacpaaGreatGro13
import Derived.Test.YtngbimgabcacpaaGreatGro07
import Derived.IntWalk
import Derived.Test.YtngbimgabcacpaaGreatGro05
namespace Go.Proofs.YtngbimgabcacpaaGreat
open Go.RowKit
set_option linter.unusedVariables false
def intVals (l : List Int) : List Value := l.map (Value.int .i64)
/-- the numbers below j with a property -/
def listTo (f : Nat → Bool) (j : Nat) : List Int := ((List.range j).filter f).map Int.ofNat
theorem listTo_yes {f : Nat → Bool} {j : Nat} (h : f j = true) : listTo f (j + 1) = listTo f j ++ [(j : Int)] := by
  simp [listTo, List.range_succ, h]
theorem listTo_no {f : Nat → Bool} {j : Nat} (h : f j = false) : listTo f (j + 1) = listTo f j := by
  simp [listTo, List.range_succ, h]
theorem listTo_len (f : Nat → Bool) (j : Nat) : (listTo f j).length ≤ j := by
  unfold listTo
  rw [List.length_map]
  exact Nat.le_trans (List.length_filter_le _ _) (by simp)
end Go.Proofs.YtngbimgabcacpaaGreat
namespace Go.Proofs.YtngbimgabcacpaaGreat
open Go.RowKit
set_option linter.unusedVariables false
theorem letB_lt97 {k x : Nat} (hx : x < k) (hk : k ≤ 4) : letB (k : Int) (lt97 x) = true := by
  have h : (lt97 x).toNat = 97 + x := by unfold lt97; simp; omega
  unfold letB inB
  rw [h]
  simp
  omega
theorem wordsF_ok {R : List RulD} {k : Nat} (hk : k ≤ 4) : ∀ (m : Nat) (w : ByteArray), okLt (k : Int) w.data.toList → ∀ u ∈ wordsF R k m w, okLt (k : Int) u.data.toList
  | 0, w, hw, u, hu => by rw [List.mem_singleton.1 hu]; exact hw
  | m + 1, w, hw, u, hu => by
    obtain ⟨x, hx, h2⟩ := List.mem_flatMap.1 hu
    split at h2
    · refine wordsF_ok hk m _ ?_ u h2
      intro y hy
      rw [app_lt] at hy
      rcases List.mem_append.1 hy with hy | hy
      · exact hw y hy
      · rw [List.mem_singleton.1 hy]
        exact letB_lt97 (List.mem_range.1 hx) hk
    · cases h2
theorem mem_outTo {R : List RulD} {k i : Nat} {u : ByteArray} (h : u ∈ outTo R k i) : ∃ m, m < i ∧ u ∈ wordsF R k m ⟨#[]⟩ := by
  unfold outTo at h
  obtain ⟨m, hm, h2⟩ := List.mem_flatMap.1 h
  exact ⟨m, List.mem_range.1 hm, h2⟩
/-- the words and the table are made -/
def GoM (k : Int) (R : List RulD) : Prop := ComplP k R ∧ (∃ c, CntIs k R c ∧ 1 ≤ c ∧ c ≤ 40) ∧ ∃ h, LngIs k R h ∧ h ≤ 8
theorem CntIs.one {k : Int} {R : List RulD} {c : Int} (h : CntIs k R c) (h0 : 0 ≤ c) : 1 ≤ c := by
  obtain ⟨l, _, h2⟩ := h
  rcases h2 with ⟨_, rfl⟩ | ⟨h1, rfl⟩
  · omega
  · have := pSum_at R k.toNat (show 0 < l.toNat + 1 by omega)
    have e : paths R k.toNat 0 ⟨#[]⟩ = 1 := rfl
    omega
/-- what is known of the words -/
structure MonW (k : Int) (L : List ByteArray) : Prop where
  few : L.length ≤ 40
  word : ∀ u ∈ L, wordOkB k u = true ∧ u.size ≤ 8
theorem GoM.words {k : Int} {R : List RulD} (h : GoM k R) {L : List ByteArray} (hL : AllIs k R L true) : MonW k L := by
  obtain ⟨hc, ⟨c, hc1, hc2, hc3⟩, hg, hh1, hh2⟩ := h
  rcases hL with ⟨_, _, h3⟩ | ⟨kn, h, rfl, h2, _, rfl, _, _⟩
  · cases h3
  · have G := sysG_of hc.1
    rcases hh1 with ⟨h1, _⟩ | ⟨_, h4⟩
    · exact absurd hc.1 h1
    · rw [Int.toNat_natCast] at h4
      have e := h4.uniq h2
      have hk := hc.1.1.1.1
      obtain ⟨l, hl1, hl2⟩ := hc1
      rcases hl1 with ⟨h5, _⟩ | ⟨_, h5⟩
      · exact absurd hc.1 h5
      · rw [Int.toNat_natCast] at h5 hl2
        have e2 := h5.uniq h2
        subst e2
        refine ⟨?_, fun u hu => ?_⟩
        · rw [outTo_len G.ne]
          rcases hl2 with ⟨h6, _⟩ | ⟨_, rfl⟩
          · omega
          · rw [Int.toNat_natCast] at hc3
            omega
        · obtain ⟨m, hm, hu2⟩ := mem_outTo hu
          have hz := wordsF_size R kn m _ u hu2
          have e0 : (⟨#[]⟩ : ByteArray).size = 0 := rfl
          refine ⟨wordOk_iff.2 ⟨hk, by omega, wordsF_ok (by omega) m _ (fun y hy => by cases hy) u hu2⟩, by omega⟩
theorem word_app {k : Int} {u v : ByteArray} (hu : wordOkB k u = true) (hv : wordOkB k v = true) (h : u.size + v.size ≤ 16) : wordOkB k (u ++ v) = true := by
  obtain ⟨a1, a2, a3⟩ := wordOk_iff.1 hu
  obtain ⟨_, _, b3⟩ := wordOk_iff.1 hv
  refine wordOk_iff.2 ⟨a1, by rw [ByteArray.size_append]; exact h, fun y hy => ?_⟩
  rw [ByteArray.data_append, Array.toList_append] at hy
  rcases List.mem_append.1 hy with hy | hy
  · exact a3 y hy
  · exact b3 y hy
theorem MonW.pair {k : Int} {L : List ByteArray} (h : MonW k L) {i j : Nat} (hi : i < L.length) (hj : j < L.length) : wordOkB k (nthS L i ++ nthS L j) = true ∧ (nthS L i).size + (nthS L j).size ≤ 16 := by
  have h1 := h.word (nthS L i) (by rw [nthS_lt hi]; exact List.getElem_mem hi)
  have h2 := h.word (nthS L j) (by rw [nthS_lt hj]; exact List.getElem_mem hj)
  exact ⟨word_app h1.1 h2.1 (by omega), by omega⟩
/-- what MonoidOf is: words, table, whether it is made -/
def MonIs (k : Int) (R : List RulD) (L : List ByteArray) (P : List Int) (f : Bool) : Prop := (¬ GoM k R ∧ L = [] ∧ P = [] ∧ f = false) ∨ (GoM k R ∧ AllIs k R L true ∧ P = prodF R L ∧ f = true)
theorem MonIs.uniq {k : Int} {R : List RulD} {L L' : List ByteArray} {P P' : List Int} {f f' : Bool} (a : MonIs k R L P f) (b : MonIs k R L' P' f') : L = L' ∧ P = P' ∧ f = f' := by
  rcases a with ⟨a1, rfl, rfl, rfl⟩ | ⟨a1, a2, rfl, rfl⟩ <;> rcases b with ⟨b1, rfl, rfl, rfl⟩ | ⟨b1, b2, rfl, rfl⟩
  · exact ⟨rfl, rfl, rfl⟩
  · exact absurd b1 a1
  · exact absurd a1 b1
  · obtain ⟨rfl, _⟩ := a2.uniq b2
    exact ⟨rfl, rfl, rfl⟩
theorem MonIs.few {k : Int} {R : List RulD} {L : List ByteArray} {P : List Int} {f : Bool} (h : MonIs k R L P f) : L.length ≤ 40 ∧ P.length ≤ 1640 := by
  rcases h with ⟨_, rfl, rfl, _⟩ | ⟨h1, h2, rfl, _⟩
  · exact ⟨by simp, by simp⟩
  · have h3 := (h1.words h2).few
    refine ⟨h3, ?_⟩
    rw [← prodTo_done]
    exact prodTo_few h3 (Nat.le_refl _) (Nat.zero_le _)
/-- what MonoidOf hands back -/
def RetMon (k : Int) (R : List RulD) (w : World) (e : Ending) (w' : World) : Prop :=
  ∃ (L : List ByteArray) (P : List Int) (f : Bool) (aP aL : Option Addr) (cP cL : Nat), MonIs k R L P f ∧ e = .returned (.tuple #[.agg #[.int .i64 (L.length : Nat), .slice aP P.length cP], .slice aL L.length cL, .bool f]) ∧
    w'.ownsRow w.heap.size 3 1 (.slice aP P.length cP) P.length (intVals P) ∧ w'.ownsRow w.heap.size 9 1 (.slice aL L.length cL) L.length (strVals L) ∧ Below w.heap.size w w'
end Go.Proofs.YtngbimgabcacpaaGreat
namespace Go.Proofs.YtngbimgabcacpaaGreat
open Go.RowKit
set_option linter.unusedVariables false
set_option maxHeartbeats 400000 in
theorem l08Find_any (v : ByteArray) (l : List ByteArray) (a : Option Addr) (cap : Nat) (w : World) (hl : StrsIn w a l) (hlen : l.length ≤ 2 ^ 47) :
    Calls Tryz.prog 102 #[.slice a l.length cap, .string v] w fun e w' => e = .returned (.int .i64 (idxB l v)) ∧ Below w.heap.size w w' := by
  have HL := Lib.hid hl
  clear hl
  go_enter Tryz.func102, Tryz.ntmps102
  go_wp2_with fail
  go_loopw [9] (fun i wr => ∃ j : Nat, j ≤ l.length ∧ i = .int .i64 j ∧ Hid (idxTo l v j = none) ∧ wr = w) (fun i _ => l.length - (intOf i).toNat)
  case atStart => exact ⟨0, Nat.zero_le _, rfl, Lib.hid (idxTo_zero _ _), rfl⟩
  case round =>
    obtain ⟨j, hj, rfl, H, rfl⟩ := hrel
    by_cases hlt : j < l.length
    · obtain ⟨b, off, rfl, hb, hc⟩ := HL.out.cell hlt
      have h1 : wr.cell? ⟨b, off + j, none⟩ = some (.string (nthS l j)) := hc j hlt
      have HS1 : Hid (((nthS l j).toList == v.toList) = false → idxTo l v (j + 1) = none) := Lib.hid (fun hp => idxTo_succ H.out hp)
      have HS2 : Hid (((nthS l j).toList == v.toList) = true → idxB l v = (j : Int)) := Lib.hid (fun hp => idxB_at H.out hlt hp)
      clear hc
      generalize nthS l j = u at *
      cases hp : (u.toList == v.toList)
      · have F := Lib.hid (HS1.out hp)
        go_wp2_with fail
        go_roundw
        case rel => exact ⟨j + 1, by omega, by go_num, F, trivial⟩
        case measure => simp [intOf]; omega
      · have F := Lib.hid (HS2.out hp)
        go_wp2_with fail
        go_ret
        exact ⟨ret_int F.out.symm, Below.refl _ _⟩
    · have F := Lib.hid (idxB_none H.out hlt hj)
      go_wp2_with fail
      go_ret
      exact ⟨ret_int F.out.symm, Below.refl _ _⟩
theorem RetMon.no {k : Int} {R : List RulD} {w w' : World} (h : ¬ GoM k R) (hb : Below w.heap.size w w') : RetMon k R w (.returned (.tuple #[.agg #[.int .i64 0, .slice none 0 0], .slice none 0 0, .bool false])) w' :=
  ⟨[], [], false, none, none, 0, 0, .inl ⟨h, rfl, rfl, rfl⟩, rfl, World.ownsRow_nil _ _ _ _, World.ownsRow_nil _ _ _ _, hb⟩
/-- the table that is being made, at block g -/
def MonSt (w wr : World) (g : Nat) (L : List ByteArray) (xs : List Int) : Prop := ∃ v, Rec2 25 3 1 w wr g (.int .i64 (L.length : Nat)) v xs.length (intVals xs)
theorem intVals_one (x : Int) (l : List Int) : intVals (l ++ [x]) = intVals l ++ [.int .i64 x] := by simp [intVals]
set_option maxRecDepth 100000 in
set_option maxHeartbeats 4000000 in
theorem specMonoidOf_any (k : Int) (R : List RulD) (a : Option Addr) (cap : Nat) (w : World) (hl : RulesIn w a R) (hlen : R.length ≤ 2 ^ 40) (hz : SzR R) :
    Calls Tryz.prog 69 #[.agg #[.int .i64 k, .slice a R.length cap]] w (RetMon k R w) := by
  have HIC := Lib.hid (fun W h => specIsComplete_any k R a cap W h hlen hz)
  have HCA := Lib.hid (fun W h => specCountAll_any k R a cap W h hlen hz)
  have HLR := Lib.hid (fun W h => specLongestReduced_any k R a cap W h hlen hz)
  have HAR := Lib.hid (fun W h => specAllReduced_fn k R a cap W h hlen hz)
  have HNF := Lib.hid (fun w0 W h hs hw => specNormalForm_ok k R a cap w0 W h hs hw)
  have HL := Lib.hid hl
  have e1 : (w.alloc (.cells #[.int .i64 k, .slice a R.length cap] 68)).heap.size = w.heap.size + 1 := by simp
  have HW1 : Hid (Below w.heap.size w ((w.alloc (.cells #[.int .i64 k, .slice a R.length cap] 68)).alloc (.cells #[.int .i64 0, .slice none 0 0] 25))) := Lib.hid (Below.now (alloc_belowS w _) (alloc_belowS _ _))
  have HBX := Lib.hid (fun W2 (h : Below ((w.alloc (.cells #[.int .i64 k, .slice a R.length cap] 68)).alloc (.cells #[.int .i64 0, .slice none 0 0] 25)).heap.size ((w.alloc (.cells #[.int .i64 k, .slice a R.length cap] 68)).alloc (.cells #[.int .i64 0, .slice none 0 0] 25)) W2) => And.intro (box_two (Below.now (alloc_belowS (w.alloc (.cells #[.int .i64 k, .slice a R.length cap] 68)) _) h)) (box_facts h))
  rw [e1] at HBX
  have HZ : Hid (w.heap.size + 1 < ((w.alloc (.cells #[.int .i64 k, .slice a R.length cap] 68)).alloc (.cells #[.int .i64 0, .slice none 0 0] 25)).heap.size) := Lib.hid (by simp)
  clear hl hz e1
  go_enter Tryz.func69, Tryz.ntmps69
  go_wp2_with fail
  generalize (w.alloc (.cells #[.int .i64 k, .slice a R.length cap] 68)).alloc (.cells #[.int .i64 0, .slice none 0 0] 25) = w1 at *
  refine (HIC.out _ (HL.out.later HW1.out)).mono ?_
  rintro e w2 ⟨bb, hbb, rfl, hb2⟩
  have HBB := Lib.hid hbb
  have HB2 := Lib.hid hb2
  obtain ⟨⟨s0, s1⟩, ⟨u0, u1⟩, z0, z1⟩ := HBX.out _ hb2
  clear hbb hb2
  cases bb
  · have F : Hid (RetMon k R w (.returned (.tuple #[.agg #[.int .i64 0, .slice none 0 0], .slice none 0 0, .bool false])) ((w2.setCell ⟨w.heap.size + 1, 0, none⟩ (.int .i64 0)).setCell ⟨w.heap.size + 1, 1, none⟩ (.slice none 0 0))) := Lib.hid (RetMon.no (fun h => by have := HBB.out.2 h.1; cases this) (((Below.now HW1.out HB2.out).setCell (by simp; try omega) _).setCell (by simp; try omega) _))
    go_wp2_with fail
    refine bodyPost_ret (v := .tuple #[.agg #[.int .i64 0, .slice none 0 0], .slice none 0 0, .bool false]) ?_ rfl F.out
    simp [results, Tryz.results69, go_sem, u0, u1]
  · have HCP := Lib.hid (HBB.out.1 rfl)
    go_wp2_with fail
    refine (HCA.out _ (HL.out.later (Below.now HW1.out HB2.out))).mono ?_
    rintro e w3 ⟨c, hc, rfl, hb3⟩
    have HC := Lib.hid hc
    have HB3 := Lib.hid (Below.now HB2.out hb3)
    have HR0 := Lib.hid (fun W => l01In_any c 1 40 W)
    clear hc hb3 s0 s1 u0 u1 z0 z1 HB2 HBB
    obtain ⟨⟨s0, s1⟩, ⟨u0, u1⟩, z0, z1⟩ := HBX.out _ HB3.out
    cases hin : inB c 1 40
    · have HIN := Lib.hid hin
      rw [hin] at HR0
      have F : Hid (RetMon k R w (.returned (.tuple #[.agg #[.int .i64 0, .slice none 0 0], .slice none 0 0, .bool false])) ((w3.setCell ⟨w.heap.size + 1, 0, none⟩ (.int .i64 0)).setCell ⟨w.heap.size + 1, 1, none⟩ (.slice none 0 0))) := Lib.hid (RetMon.no (fun h => by
        obtain ⟨_, ⟨c2, h1, h2, h3⟩, _⟩ := h
        obtain rfl := h1.uniq HC.out
        have h4 := HIN.out
        unfold inB at h4
        simp at h4
        omega) (((Below.now HW1.out HB3.out).setCell (by simp; try omega) _).setCell (by simp; try omega) _))
      clear hin
      go_wp2_with (go_at_call 97; refine (HR0.out _).mono ?_; rintro e w' ⟨rfl, rfl⟩)
      refine bodyPost_ret (v := .tuple #[.agg #[.int .i64 0, .slice none 0 0], .slice none 0 0, .bool false]) ?_ rfl F.out
      simp [results, Tryz.results69, go_sem, u0, u1]
    · have HIN := Lib.hid hin
      rw [hin] at HR0
      clear hin
      go_wp2_with (go_at_call 97; refine (HR0.out _).mono ?_; rintro e w' ⟨rfl, rfl⟩)
      refine (HLR.out _ (HL.out.later (Below.now HW1.out HB3.out))).mono ?_
      rintro e w4 ⟨h, hh, rfl, hb4⟩
      have HH := Lib.hid hh
      have HB4 := Lib.hid (Below.now HB3.out hb4)
      clear hh hb4 s0 s1 u0 u1 z0 z1 HR0
      obtain ⟨⟨s0, s1⟩, ⟨u0, u1⟩, z0, z1⟩ := HBX.out _ HB4.out
      by_cases h8 : 8 < h
      · have F : Hid (RetMon k R w (.returned (.tuple #[.agg #[.int .i64 0, .slice none 0 0], .slice none 0 0, .bool false])) ((w4.setCell ⟨w.heap.size + 1, 0, none⟩ (.int .i64 0)).setCell ⟨w.heap.size + 1, 1, none⟩ (.slice none 0 0))) := Lib.hid (RetMon.no (fun hg => by
          obtain ⟨_, _, h2, h3, h4⟩ := hg
          obtain rfl := h3.uniq HH.out
          omega) (((Below.now HW1.out HB4.out).setCell (by simp; try omega) _).setCell (by simp; try omega) _))
        go_wp2_with fail
        refine bodyPost_ret (v := .tuple #[.agg #[.int .i64 0, .slice none 0 0], .slice none 0 0, .bool false]) ?_ rfl F.out
        simp [results, Tryz.results69, go_sem, u0, u1]
      · have HGO : Hid (GoM k R) := Lib.hid ⟨HCP.out, ⟨c, HC.out, inB_bounds HIN.out⟩, h, HH.out, by omega⟩
        go_wp2_with fail
        refine (HAR.out _ (HL.out.later (Below.now HW1.out HB4.out))).mono ?_
        rintro e w5 ⟨L, f, aL, cL, hal, rfl, hol, hb5⟩
        obtain rfl : f = true := by
          rcases hal with ⟨h1, _⟩ | ⟨_, _, _, _, _, _, h1, _⟩
          · exact absurd ⟨c, HC.out, by have := inB_bounds HIN.out; omega, by have := inB_bounds HIN.out; omega⟩ h1
          · exact h1
        have HAL := Lib.hid hal
        have HMW := Lib.hid (HGO.out.words hal)
        have hlen40 := HMW.out.few
        have HB5 := Lib.hid (Below.now HB4.out hb5)
        have HOL : Hid (w5.ownsRow (w.heap.size + 2) 9 1 (.slice aL L.length cL) L.length (strVals L)) := Lib.hid (owns_mono hol (by have := HB4.out.size; have := HZ.out; omega))
        have HSL : Hid (StrsIn w5 aL L) := Lib.hid (owns_cells hol)
        have HST : Hid (MonSt w5 (w5.alloc (.cells #[.int .i64 (L.length : Nat), .slice none 0 0] 25)) w5.heap.size L (prodTo R L 0 0)) := Lib.hid ⟨_, Rec2.start _ _ 1 (Below.refl _ _) _⟩
        clear hal hol hb5 s0 s1 u0 u1 z0 z1 h8 HB3 HB4
        go_wp2_with fail
        generalize w5.alloc (.cells #[.int .i64 (L.length : Nat), .slice none 0 0] 25) = w6 at *
        generalize hg : w5.heap.size = g at *
        have HG := Lib.hid hg
        clear hg
        go_loopw [39] (fun vi wr => ∃ i : Nat, i ≤ L.length ∧ vi = .int .i64 i ∧ Hid (MonSt w5 wr g L (prodTo R L i 0))) (fun vi _ => L.length - (intOf vi).toNat)
        case atStart => exact ⟨0, Nat.zero_le _, rfl, HST⟩
        case round =>
          clear HST
          obtain ⟨i, hi, rfl, HST⟩ := hrel
          obtain ⟨vt, HR⟩ := HST.out
          have HRH := Lib.hid HR
          have hbw := HR.below
          by_cases hlt : i < L.length
          · obtain ⟨b, off, rfl, hb, hc⟩ := (HSL.out.later hbw).cell hlt
            have c1 := hc i hlt
            clear hc hbw HR
            have HWP : Hid (∀ j, j < L.length → wordOkB k (nthS L i ++ nthS L j) = true ∧ (nthS L i).size + (nthS L j).size ≤ 16) := Lib.hid (fun j hj => HMW.out.pair hlt hj)
            have HPS := Lib.hid (fun j => prodTo_step R L i j)
            generalize hu : nthS L i = u at *
            have HU := Lib.hid hu
            clear hu
            go_wp2_with fail
            generalize hW : wr = wr0 at *
            clear hW
            go_loopw [45] (fun vj wr => ∃ j : Nat, j ≤ L.length ∧ vj = .int .i64 j ∧ Hid (MonSt w5 wr g L (prodTo R L i j))) (fun vj _ => L.length - (intOf vj).toNat)
            case atStart => exact ⟨0, Nat.zero_le _, rfl, HST⟩
            case round =>
              clear HST HRH
              obtain ⟨j, hj, rfl, HST⟩ := hrel
              obtain ⟨v0, HR⟩ := HST.out
              have HRH := Lib.hid HR
              have hbw := HR.below
              by_cases hjl : j < L.length
              · obtain ⟨b2, off2, ha2, hb2, hc2⟩ := (HSL.out.later hbw).cell hjl
                cases ha2
                have c2 := hc2 j hjl
                obtain ⟨hwok, hsz⟩ := HWP.out j hjl
                have HWO := Lib.hid hwok
                obtain ⟨⟨s0, s1⟩, _, _, _⟩ := HBX.out wr (Below.now HB5.out hbw)
                have hx1 : ¬ 9223372036854775807 < u.size + (nthS L j).size := by omega
                have HNC := Lib.hid (HNF.out (u ++ nthS L j) wr (HL.out.later (Below.now HW1.out (Below.now HB5.out hbw))) HCP.out.1 hwok)
                have HP1 := Lib.hid (HPS.out j)
                clear hc2 hbw HR hwok
                generalize nthS L j = y at *
                go_wp2_with fail
                refine HNC.out.mono ?_
                rintro e w7 ⟨x, hx, rfl, hb7⟩
                obtain rfl := nfC_eq hx
                have HR7 := Lib.hid (HRH.out.later hb7)
                obtain ⟨_, t1, _, f1⟩ := HR7.out.facts
                have HS7 := Lib.hid (fun W (hW : Below w7.heap.size w7 W) => HSL.out.later (Below.now HR7.out.below hW))
                have hgl := HR7.out.lt
                have hxl := prodTo_few hlen40 (R := R) hi hj
                clear hx hb7 HRH s0 s1 c1 c2 HNC HWO
                generalize nfC R (u ++ y) = x at *
                have HFD := Lib.hid (fun W h => l08Find_any x L (some ⟨b, off, none⟩) cL W h (by omega))
                generalize idxB L x = z at *
                have HXS : Hid (∃ xs, xs = prodTo R L i j) := Lib.hid ⟨_, rfl⟩
                generalize prodTo R L i j = xs at *
                have M1 : Hid (∀ u ∈ [Value.int .i64 z], u.oneCell' = true) := Lib.hid (fun u hu => by rw [List.mem_singleton.1 hu]; rfl)
                have N3 : Hid (xs.length + 1 ≤ maxLen) := Lib.hid (by unfold maxLen; omega)
                have N4 : Hid ((xs.length + 1) * 8 ≤ 140737488355328) := Lib.hid (by omega)
                clear hxl HXS
                go_wp2_with fail
                have kr := Below.refl w7.heap.size w7
                go_region_law (first
                  | (go_simp; go_at_call 102; refine (HFD.out _ (HS7.out _ (by repeat (first | exact kr | refine Below.drew ?_ | refine below_drewN ?_ _)))).mono ?_; rintro e w8 ⟨rfl, hb8⟩; replace kr : Below w7.heap.size w7 w8 := Below.now (by repeat (first | exact kr | refine Below.drew ?_ | refine below_drewN ?_ _)) hb8; have HR8 := Lib.hid (HR7.out.later kr); have q0 := HR8.out.facts.2.1; have q2 : ∀ ob, (w8.alloc ob).cell? ⟨g, 1, none⟩ = some v0 := fun ob => (HR8.out.later (alloc_belowS w8 ob)).facts.2.1; clear hb8)
                  | (refine step_appH rfl (.tmp 58) (.tmp 62) (by rfl) Tryz.underlying23 Tryz.infoInt rfl (by decide) (by rfl) HR8.out.own HR8.out.lt (by rfl) (by rfl) M1.out N3.out N4.out ?_; intro g4 c4 w9 hn9 hg9; have P9 := Lib.hid (HR8.out.put (Below.refl _ _) hg9 hn9); have q9 := rec_cells (HR8.out.grown (Below.refl _ _) hg9); obtain ⟨_, q1, _, q3⟩ := q9; clear hn9 hg9))
                all_goals
                  have F : Hid (MonSt w5 (w9.setCell ⟨g, 1, none⟩ (.slice (some ⟨g4, 0, none⟩) (xs.length + 1) c4)) g L (prodTo R L i (j + 1))) := Lib.hid ⟨_, by rw [HP1.out, intVals_one, List.length_append]; exact P9.out⟩
                  clear q0 q1 q2 q3 t1 f1
                  go_wp2_with fail
                  go_roundw
                  case rel => exact ⟨j + 1, by omega, by go_num, F⟩
                  case measure => simp [intOf]; omega
              · obtain rfl : j = L.length := by omega
                have F : Hid (MonSt w5 wr g L (prodTo R L (i + 1) 0)) := Lib.hid (by rw [← prodTo_next]; exact HST.out)
                clear HR hbw
                go_wp2_with fail
                go_roundw
                case rel => exact ⟨i + 1, by omega, by go_num, F⟩
                case measure => simp [intOf]; omega
          · obtain rfl : i = L.length := by omega
            obtain ⟨aP, cP, hv⟩ := owns_form HR.own
            subst hv
            obtain ⟨t0, t1, _, _⟩ := HR.facts
            obtain ⟨_, ⟨u0, u1⟩, z0, z1⟩ := HBX.out wr (Below.now HB5.out hbw)
            have hg1 : w.heap.size + 2 ≤ g := by have := HB5.out.size; have := HZ.out; have := HG.out; omega
            have hPL : prodTo R L L.length 0 = prodF R L := prodTo_done R L
            rw [hPL] at HRH t1 HR
            have F : Hid (RetMon k R w (.returned (.tuple #[.agg #[.int .i64 (L.length : Nat), .slice aP (prodF R L).length cP], .slice aL L.length cL, .bool true])) ((wr.setCell ⟨w.heap.size + 1, 0, none⟩ (.int .i64 (L.length : Nat))).setCell ⟨w.heap.size + 1, 1, none⟩ (.slice aP (prodF R L).length cP))) :=
              Lib.hid ⟨L, prodF R L, true, aP, aL, cP, cL, .inr ⟨HGO.out, HAL.out, rfl, rfl⟩, rfl,
                owns_mono (ownsRow_setCell_below (ownsRow_setCell_below HRH.out.own (by show w.heap.size + 1 < g + 1; omega) _) (by show w.heap.size + 1 < g + 1; omega) _) (by omega),
                owns_mono (ownsRow_setCell_below (ownsRow_setCell_below (owns_later HOL.out HRH.out.below) (by show w.heap.size + 1 < w.heap.size + 2; omega) _) (by show w.heap.size + 1 < w.heap.size + 2; omega) _) (by omega),
                ((Below.now HW1.out (Below.now HB5.out hbw)).setCell (by simp; try omega) _).setCell (by simp; try omega) _⟩
            clear hPL hbw HR
            go_wp2_with fail
            refine bodyPost_ret (v := .tuple #[.agg #[.int .i64 (L.length : Nat), .slice aP (prodF R L).length cP], .slice aL L.length cL, .bool true]) ?_ rfl F.out
            simp [results, Tryz.results69, go_sem, u0, u1]
end Go.Proofs.YtngbimgabcacpaaGreat
namespace Go.Proofs.YtngbimgabcacpaaGreat
open Go.RowKit
set_option linter.unusedVariables false
theorem irr_iff {R : List RulD} {v : List UInt8} : Irr (SR R) v ↔ ∀ p ∈ R, ∀ x y, v ≠ x ++ (p.1.data.toList ++ y) := by
  constructor
  · intro h p hp x y e
    exact h _ ⟨x, _, _, y, ⟨p, hp, rfl, rfl⟩, e, rfl⟩
  · rintro h u ⟨x, _, _, y, ⟨p, hp, rfl, rfl⟩, e, rfl⟩
    exact h p hp x y e
theorem irr_pre {R : List RulD} {u t : List UInt8} (h : Irr (SR R) (u ++ t)) : Irr (SR R) u := by
  rw [irr_iff] at *
  intro p hp x y e
  exact h p hp x (y ++ t) (by rw [e]; simp [List.append_assoc])
theorem okX_irr {R : List RulD} {w : ByteArray} {x : Nat} (h : Irr (SR R) (w ++ letterN x).data.toList) : okX R w x = true := by
  unfold okX
  rw [Bool.not_eq_true', Bool.eq_false_iff]
  intro he
  obtain ⟨r, hr, hs⟩ := endsR_iff.1 he
  unfold sufBB at hs
  obtain ⟨t, ht⟩ := List.isSuffixOf_iff_suffix.1 hs
  rw [irr_iff] at h
  exact h r hr t [] (by rw [List.append_nil]; exact ht.symm)
theorem irr_snoc {R : List RulD} (hne : ∀ r ∈ R, r.1.size ≠ 0) {w : ByteArray} {x : Nat} (h : Irr (SR R) w.data.toList) (hx : okX R w x = true) : Irr (SR R) (w ++ letterN x).data.toList := by
  rw [irr_iff] at *
  intro p hp a b e
  rw [app_lt] at e
  rcases List.eq_nil_or_concat b with rfl | ⟨b', y, rfl⟩
  · unfold okX at hx
    rw [Bool.not_eq_true', Bool.eq_false_iff] at hx
    refine hx (endsR_iff.2 ⟨p, hp, ?_⟩)
    unfold sufBB
    rw [List.isSuffixOf_iff_suffix, app_lt]
    exact ⟨a, by rw [e]; simp⟩
  · rw [List.concat_eq_append] at e
    have e2 : w.data.toList ++ [lt97 x] = (a ++ (p.1.data.toList ++ b')) ++ [y] := by rw [e]; simp [List.append_assoc]
    obtain ⟨h1, _⟩ := List.append_inj' e2 rfl
    exact h p hp a b' h1
theorem wordsF_irr {R : List RulD} (hne : ∀ r ∈ R, r.1.size ≠ 0) (k : Nat) : ∀ (m : Nat) (w : ByteArray), Irr (SR R) w.data.toList → ∀ u ∈ wordsF R k m w, Irr (SR R) u.data.toList
  | 0, w, hw, u, hu => by rw [List.mem_singleton.1 hu]; exact hw
  | m + 1, w, hw, u, hu => by
    obtain ⟨x, _, h2⟩ := List.mem_flatMap.1 hu
    split at h2
    · rename_i hx
      exact wordsF_irr hne k m _ (irr_snoc hne hw hx) u h2
    · cases h2
theorem irr_wordsF {R : List RulD} {k : Nat} : ∀ (t : List UInt8) (w u : ByteArray), (∀ y ∈ t, ∃ x, x < k ∧ y = lt97 x) → u.data.toList = w.data.toList ++ t → Irr (SR R) u.data.toList → u ∈ wordsF R k t.length w
  | [], w, u, _, e, _ => by
    have : u = w := ba_ext0 (by rw [e]; simp)
    rw [this]; exact List.mem_singleton.2 rfl
  | y :: t, w, u, hy, e, h => by
    obtain ⟨x, hx, rfl⟩ := hy y List.mem_cons_self
    have h1 : Irr (SR R) (w ++ letterN x).data.toList := by
      rw [app_lt]
      exact irr_pre (t := t) (by rw [List.append_assoc]; simpa [e] using h)
    refine List.mem_flatMap.2 ⟨x, List.mem_range.2 hx, ?_⟩
    rw [if_pos (okX_irr h1)]
    exact irr_wordsF t (w ++ letterN x) u (fun z hz => hy z (List.mem_cons_of_mem _ hz)) (by rw [e, app_lt, List.append_assoc]; rfl) h
theorem let_lt97 {k : Nat} {v : List UInt8} (h : okLt (k : Int) v) : ∀ y ∈ v, ∃ x, x < k ∧ y = lt97 x := fun y hy => by
  have h1 := letB_true (h y hy)
  refine ⟨y.toNat - 97, by omega, ?_⟩
  apply UInt8.toNat_inj.1
  have h2 := y.toNat_lt
  unfold lt97
  simp
  omega
/-- the words are the irreducible ones -/
theorem mem_out {R : List RulD} {k h : Nat} (hne : ∀ r ∈ R, r.1.size ≠ 0) (hL : LeftsP R) (hk : k ≤ 4) (hh : HtIs R k ⟨#[]⟩ (h : Int)) (hi : Irr (SR R) []) (u : ByteArray) : u ∈ outTo R k (h + 1) ↔ okLt (k : Int) u.data.toList ∧ Irr (SR R) u.data.toList := by
  constructor
  · intro hu
    obtain ⟨m, hm, h2⟩ := mem_outTo hu
    exact ⟨wordsF_ok hk m _ (fun y hy => by cases hy) u h2, wordsF_irr hne k m _ hi u h2⟩
  · rintro ⟨h1, h2⟩
    have hu := irr_wordsF (k := k) u.data.toList ⟨#[]⟩ u (let_lt97 h1) (by simp) h2
    have hlen : u.data.toList.length ≤ h := by
      refine Nat.le_of_not_lt fun hlt => ?_
      have e : u.data.toList = u.data.toList.take (h + 1) ++ u.data.toList.drop (h + 1) := (List.take_append_drop _ _).symm
      have h3 : Irr (SR R) (⟨(u.data.toList.take (h + 1)).toArray⟩ : ByteArray).data.toList := by
        show Irr (SR R) (u.data.toList.take (h + 1))
        rw [e] at h2
        exact irr_pre h2
      have h4 := irr_wordsF (k := k) (u.data.toList.take (h + 1)) ⟨#[]⟩ ⟨(u.data.toList.take (h + 1)).toArray⟩ (fun y hy => let_lt97 h1 y (List.mem_of_mem_take hy)) (by simp) h3
      rw [List.length_take, Nat.min_eq_left (by omega)] at h4
      have h5 := wordsF_len hL k (h + 1) ⟨#[]⟩
      rcases hh with ⟨h6, _⟩ | ⟨n, h6, _, h7⟩
      · omega
      · obtain rfl : h = n := by omega
        rw [h7] at h5
        rw [List.eq_nil_of_length_eq_zero h5] at h4
        cases h4
    exact List.mem_flatMap.2 ⟨_, List.mem_range.2 (by omega), hu⟩
theorem out_nodup {R : List RulD} {k : Nat} (hk : k ≤ 4) (n : Nat) : (outTo R k n).Nodup := by
  unfold outTo
  rw [List.Nodup, List.pairwise_flatMap]
  refine ⟨fun m _ => ?_, ?_⟩
  · refine (wordsF_rise hk m _).imp fun {a b} hab e => ?_
    subst e
    have h1 := less_app a.data.toList [] []
    simp only [List.append_nil] at h1
    unfold ltB at hab
    rw [h1] at hab
    cases hab
  · refine List.pairwise_lt_range.imp fun {m m'} hlt a ha b hb e => ?_
    subst e
    have h1 := wordsF_size R k m _ a ha
    have h2 := wordsF_size R k m' _ a hb
    omega
theorem out_head (R : List RulD) (k n : Nat) : nthS (outTo R k (n + 1)) 0 = ⟨#[]⟩ := by
  unfold outTo
  rw [List.range_succ_eq_map, List.flatMap_cons]
  rfl
theorem prodTo_pre1 (R : List RulD) (L : List ByteArray) (i : Nat) : ∀ (d j : Nat), prodTo R L i j <+: prodTo R L i (j + d)
  | 0, j => List.prefix_refl _
  | d + 1, j => by
    refine (prodTo_pre1 R L i d j).trans ?_
    rw [← Nat.add_assoc, prodTo_step]
    exact List.prefix_append _ _
theorem prodTo_pre2 (R : List RulD) (L : List ByteArray) : ∀ (d i : Nat), prodTo R L i 0 <+: prodTo R L (i + d) 0
  | 0, i => List.prefix_refl _
  | d + 1, i => by
    refine (prodTo_pre2 R L d i).trans ?_
    rw [← Nat.add_assoc, ← prodTo_next]
    have := prodTo_pre1 R L (i + d) L.length 0
    rwa [Nat.zero_add] at this
theorem prodF_at (R : List RulD) (L : List ByteArray) {i j : Nat} (hi : i < L.length) (hj : j < L.length) : (prodF R L)[i * L.length + j]? = some (idxB L (nfC R (nthS L i ++ nthS L j))) := by
  have h1 := prodTo_pre1 R L i (L.length - (j + 1)) (j + 1)
  rw [show j + 1 + (L.length - (j + 1)) = L.length by omega, prodTo_next] at h1
  have h2 := prodTo_pre2 R L (L.length - (i + 1)) (i + 1)
  rw [show i + 1 + (L.length - (i + 1)) = L.length by omega, prodTo_done] at h2
  obtain ⟨t, ht⟩ := h1.trans h2
  have hl := prodTo_len R L i j
  rw [← ht, prodTo_step, List.append_assoc, List.getElem?_append_right (by omega), hl]
  simp
theorem nodup_nth {L : List ByteArray} (h : L.Nodup) {p q : Nat} (hp : p < L.length) (hq : q < L.length) (e : nthS L p = nthS L q) : p = q := by
  rw [nthS_lt hp, nthS_lt hq] at e
  have h1 := List.pairwise_iff_getElem.1 h
  rcases Nat.lt_trichotomy p q with h2 | h2 | h2
  · exact absurd e (h1 p q hp hq h2)
  · exact h2
  · exact absurd e.symm (h1 q p hq hp h2)
theorem idxB_mem {L : List ByteArray} {v : ByteArray} (h : v ∈ L) : ∃ p, p < L.length ∧ idxB L v = (p : Int) ∧ nthS L p = v := by
  have hf : ∃ p, idxTo L v L.length = some p := by
    obtain ⟨q, hq, e⟩ := List.getElem_of_mem h
    cases hc : idxTo L v L.length with
    | some p => exact ⟨p, rfl⟩
    | none =>
      unfold idxTo at hc
      rw [List.find?_eq_none] at hc
      have := hc q (List.mem_range.2 hq)
      rw [nthS_lt hq, e] at this
      simp at this
  obtain ⟨p, hp⟩ := hf
  have h1 := hp
  unfold idxTo at h1
  have h2 := List.find?_some h1
  have h3 := List.mem_range.1 (List.mem_of_find?_eq_some h1)
  refine ⟨p, h3, ?_, ?_⟩
  · unfold idxB; rw [hp]
  · exact bytes_eq.1 h2
/-- what is known of the words of a complete system and of their table -/
structure MonG (k : Int) (R : List RulD) (L : List ByteArray) (ln : List Nat) : Prop where
  few : L.length ≤ 40
  pos : 0 < L.length
  nd : L.Nodup
  head : nthS L 0 = ⟨#[]⟩
  word : ∀ u ∈ L, wordOkB k u = true ∧ u.size ≤ 8
  mem : ∀ u : ByteArray, u ∈ L ↔ okLt k u.data.toList ∧ Irr (SR R) u.data.toList
  len : ln.length = L.length * L.length
  prod : ∀ i j, i < L.length → j < L.length → tm L.length ln i j < L.length ∧ NormIs R (nthS L i ++ nthS L j) (nthS L (tm L.length ln i j))
theorem nth_mem {L : List ByteArray} {i : Nat} (h : i < L.length) : nthS L i ∈ L := by rw [nthS_lt h]; exact List.getElem_mem h
theorem GoM.mon {k : Int} {R : List RulD} {L : List ByteArray} {P : List Int} (hm : MonIs k R L P true) : ∃ ln, P = ln.map Int.ofNat ∧ MonG k R L ln := by
  rcases hm with ⟨_, _, _, h⟩ | ⟨hg, hal, rfl, _⟩
  · cases h
  have hw := hg.words hal
  have hc := hg.1
  have hne := sys_ne hc.1.1
  rcases hal with ⟨_, _, h3⟩ | ⟨kn, h, rfl, h2, _, rfl, _, _⟩
  · cases h3
  have G := sysG_of hc.1
  have hi : Irr (SR R) [] := by
    rw [irr_iff]
    intro p hp x y e
    have h1 := hne p hp
    have h2 := congrArg List.length e
    have h3 : p.1.data.toList.length = p.1.size := rfl
    simp only [List.length_append, List.length_nil] at h2
    omega
  have hmem := mem_out hne G.ne G.k4 h2 hi
  have hpos : 0 < (outTo R kn (h + 1)).length := by
    have : (⟨#[]⟩ : ByteArray) ∈ outTo R kn (h + 1) := (hmem _).2 ⟨fun y hy => (by cases hy), hi⟩
    exact List.length_pos_of_mem this
  have hnd := out_nodup (R := R) (k := kn) G.k4 (h + 1)
  have hhd := out_head R kn h
  generalize outTo R kn (h + 1) = L at *
  have key : ∀ i j, i < L.length → j < L.length → ∃ p, p < L.length ∧ idxB L (nfC R (nthS L i ++ nthS L j)) = (p : Int) ∧ NormIs R (nthS L i ++ nthS L j) (nthS L p) := fun i j hi' hj => by
    obtain ⟨hok, _⟩ := hw.pair hi' hj
    obtain ⟨x, hx, hxo⟩ := NormIs.ex hc.1 _ _ (Nat.lt_succ_self _) hok
    have hx2 : x ∈ L := (hmem x).2 ⟨(wordOk_iff.1 hxo).2.2, (norm_nf hne hx).2⟩
    obtain ⟨p, hp, e1, e2⟩ := idxB_mem hx2
    exact ⟨p, hp, by rw [nfC_eq hx]; exact e1, by rw [e2]; exact hx⟩
  have hlen : (prodF R L).length = L.length * L.length := by
    have := prodTo_len R L L.length 0
    rw [prodTo_done] at this
    omega
  have hat : ∀ i j, i < L.length → j < L.length → tm L.length ((prodF R L).map Int.toNat) i j < L.length ∧ NormIs R (nthS L i ++ nthS L j) (nthS L (tm L.length ((prodF R L).map Int.toNat) i j)) := fun i j hi' hj => by
    obtain ⟨p, hp, e1, e2⟩ := key i j hi' hj
    have e3 : tm L.length ((prodF R L).map Int.toNat) i j = p := by
      unfold tm
      rw [List.getD_eq_getElem?_getD, List.getElem?_map, prodF_at R L hi' hj, e1]
      simp
    rw [e3]
    exact ⟨hp, e2⟩
  refine ⟨(prodF R L).map Int.toNat, ?_, ⟨hw.few, hpos, hnd, hhd, hw.word, hmem, by rw [List.length_map]; exact hlen, hat⟩⟩
  rw [List.map_map]
  symm
  conv => rhs; rw [← List.map_id (prodF R L)]
  apply List.map_congr_left
  intro x hx
  unfold prodF rowTo at hx
  simp only [List.mem_flatMap, List.mem_map, List.mem_range] at hx
  obtain ⟨i, hi', j, hj, rfl⟩ := hx
  obtain ⟨p, _, e1, _⟩ := key i j hi' hj
  rw [e1]
  simp
theorem MonG.tab {k : Int} {R : List RulD} {L : List ByteArray} {ln : List Nat} (h : MonG k R L ln) (hc : ComplP k R) : TabOk L.length ln := by
  have hne := sys_ne hc.1.1
  have hd := sys_dwn hc.1
  have hcr := comp_crit hc
  have hnf : ∀ {u x : ByteArray}, NormIs R u x → Nf (SR R) u.data.toList x.data.toList := fun hx => norm_nf hne hx
  have hirr : ∀ i, i < L.length → Irr (SR R) (nthS L i).data.toList := fun i hi => ((h.mem _).1 (nth_mem hi)).2
  have eq_of : ∀ {p q : Nat} {u : List UInt8}, p < L.length → q < L.length → Nf (SR R) u (nthS L p).data.toList → Nf (SR R) u (nthS L q).data.toList → p = q := fun {p q u} hp hq a b =>
    nodup_nth h.nd hp hq (ba_lists (Nf.uniq hd hcr _ u (Nat.lt_succ_self _) _ _ a b))
  refine ⟨⟨h.pos, h.few, h.len, ?_⟩, ?_, ?_, ?_⟩
  · intro x hx
    obtain ⟨i, hi, rfl⟩ := List.getElem_of_mem hx
    rw [h.len] at hi
    have hm := h.pos
    have h1 : i / L.length < L.length := Nat.div_lt_of_lt_mul hi
    have h2 : i % L.length < L.length := Nat.mod_lt _ hm
    have h3 := (h.prod _ _ h1 h2).1
    have e : i / L.length * L.length + i % L.length = i := by rw [Nat.mul_comm]; exact Nat.div_add_mod i L.length
    unfold tm at h3
    rw [e, List.getD_eq_getElem?_getD, List.getElem?_eq_getElem (by rw [h.len]; exact hi)] at h3
    exact h3
  · intro i hi
    obtain ⟨h1, h2⟩ := h.prod 0 i h.pos hi
    have h3 := hnf h2
    rw [h.head, ByteArray.data_append, Array.toList_append] at h3
    refine eq_of h1 hi h3 ?_
    have e : (⟨#[]⟩ : ByteArray).data.toList ++ (nthS L i).data.toList = (nthS L i).data.toList := rfl
    rw [e]
    exact ⟨.refl _, hirr i hi⟩
  · intro i hi
    obtain ⟨h1, h2⟩ := h.prod i 0 hi h.pos
    have h3 := hnf h2
    rw [h.head, ByteArray.data_append, Array.toList_append] at h3
    refine eq_of h1 hi h3 ?_
    have e : (nthS L i).data.toList ++ (⟨#[]⟩ : ByteArray).data.toList = (nthS L i).data.toList := List.append_nil _
    rw [e]
    exact ⟨.refl _, hirr i hi⟩
  · intro i j l hi hj hl
    obtain ⟨a1, a2⟩ := h.prod i j hi hj
    obtain ⟨b1, b2⟩ := h.prod j l hj hl
    obtain ⟨c1, c2⟩ := h.prod _ l a1 hl
    obtain ⟨d1, d2⟩ := h.prod i _ hi b1
    have A := hnf a2
    have B := hnf b2
    have C := hnf c2
    have D := hnf d2
    rw [ByteArray.data_append, Array.toList_append] at A B C D
    refine eq_of (u := (nthS L i).data.toList ++ ((nthS L j).data.toList ++ (nthS L l).data.toList)) c1 d1 ⟨?_, C.2⟩ ⟨?_, D.2⟩
    · have h1 := A.1.ctx [] (nthS L l).data.toList
      simp only [List.nil_append] at h1
      rw [← List.append_assoc]
      exact h1.trans C.1
    · have h1 := B.1.ctx (nthS L i).data.toList []
      simp only [List.append_nil] at h1
      exact h1.trans D.1
theorem mon_table {k : Int} {R : List RulD} {L : List ByteArray} {P : List Int} (hm : MonIs k R L P true) : ∃ ln, P = ln.map Int.ofNat ∧ TabOk L.length ln ∧ MonG k R L ln := by
  have hg : ComplP k R := by
    rcases hm with ⟨_, _, _, h⟩ | ⟨hg, _⟩
    · cases h
    · exact hg.1
  obtain ⟨ln, h1, h2⟩ := GoM.mon hm
  exact ⟨ln, h1, h2.tab hg, h2⟩
/-- a valid table -/
def TabG (m : Nat) (l : List Int) : Prop := ∃ ln : List Nat, l = ln.map Int.ofNat ∧ TabOk m ln
theorem TabOk.rows {m : Nat} {ln : List Nat} (h : TabOk m ln) : rowsOk m ln = true := by
  refine all_range.2 fun i hi => ?_
  unfold rowOk idn
  rw [Bool.and_eq_true, Bool.and_eq_true, decide_eq_true_eq, decide_eq_true_eq]
  refine ⟨⟨h.left i hi, h.right i hi⟩, all_range.2 fun j hj => all_range.2 fun k hk => ?_⟩
  unfold asc
  rw [decide_eq_true_eq]
  exact h.assoc i j k hi hj hk
theorem TabG.tab {m : Nat} {l : List Int} (h : TabG m l) : tabB (m : Nat) l = true := by
  obtain ⟨ln, rfl, h⟩ := h
  exact tabB_rows h.toTb h.rows
end Go.Proofs.YtngbimgabcacpaaGreat
