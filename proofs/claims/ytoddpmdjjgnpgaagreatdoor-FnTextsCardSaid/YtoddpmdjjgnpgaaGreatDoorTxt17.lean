/-
  Numbers near a range, and words that need not be valid: what the reference draws. Printed by near.py.
-/
import Derived.Test.YtoddpmdjjgnpgaaGreatDoorTxt16
import Derived.Test.YtoddpmdjjgnpgaaGreatDoorTxt01
import Derived.Test.YtoddpmdjjgnpgaaGreatDoorTxt05
namespace Go.Proofs.YtoddpmdjjgnpgaaGreatDoor
open Go.RowKit
set_option linter.unusedVariables false
/-- some list of words -/
def RetSbC (m : Nat) (w : World) (e : Ending) (w' : World) : Prop := ∃ (R : List ByteArray) (a : Option Addr) (cap : Nat) (b : Bool),
  (ShortS m R ∧ R.length ≤ m) ∧ e = .returned (.tuple #[.slice a R.length cap, .bool b]) ∧ StrsIn w' a R ∧ Below w.heap.size w w'
/-- parts that are read, a list that grows beside them -/
structure PsS (w wr : World) (v : Value) (R : List ByteArray) (g off : Nat) (l : List ByteArray) : Prop where
  own : Bld 9 1 w wr v R.length (strVals R)
  part : ∀ j, j < l.length → wr.cell? ⟨g, off + j, none⟩ = some (.string (nthS l j))
  ne : v.ownBlock ≠ some g
theorem PsS.put {w wr w4 : World} {v v' : Value} {R : List ByteArray} {g off : Nat} {l : List ByteArray} {x : ByteArray} {ob : Obj} (h : PsS w wr v R g off l) (hl : 0 < l.length)
    (ho : w4.ownsRow w.heap.size 9 1 v' (R.length + 1) (strVals R ++ [.string x])) (hg : (wr.alloc ob).grownBy w4 v.ownBlock) (hr : v'.ownBlock = v.ownBlock ∨ v'.ownBlock = some (wr.alloc ob).heap.size) : PsS w w4 v' (R ++ [x]) g off l := by
  have hgl : g < wr.heap.size := World.block_lt_of_cell? wr _ (h.part 0 hl)
  have hb : Below w.heap.size w w4 := (h.own.2.alloc h.own.2.size ob).grown hg (h.own.2.alloc h.own.2.size ob).size (fun k hk => (h.own.1.lt k hk).1)
  refine ⟨⟨by rw [List.length_append, strVals_appP]; exact ho, hb⟩, fun j hj => ?_, fun e => ?_⟩
  · have h1 := h.part j hj
    rw [World.cell?_of_block (w := wr) ((hg.block g (by simp; omega) (fun e => h.ne e.symm)).trans (by
      show (wr.heap.push ob)[g]? = _
      rw [Array.getElem?_push_lt hgl, Array.getElem?_eq_getElem hgl]))]
    exact h1
  · rcases hr with hr | hr
    · rw [hr] at e; exact h.ne e
    · rw [hr] at e
      have := Option.some.inj e
      simp at this
      omega
set_option maxRecDepth 20000 in
set_option maxHeartbeats 4000000 in
theorem specParseSub_c (s : ByteArray) (w : World) (hs : s.size ≤ 1000) :
    Calls Tryz.prog 107 #[.string s] w (RetSbC (s.size + 1) w) := by
  have HSP := Lib.hid (specSplitAny_any s 44 (w.alloc (.cells #[] 9)) (by omega))
  have HE := Lib.hid (Bld.empty 9 1 w)
  have hws : (w.alloc (.cells #[] 9)).heap.size = w.heap.size + 1 := by simp
  go_enter Tryz.func107, Tryz.ntmps107
  go_upto_region 2 with fail
  generalize w.alloc (.cells #[] 9) = w1 at *
  go_wp2_with fail
  refine HSP.out.mono ?_
  rintro e w2 ⟨l, ⟨hl1, hl2, hl3⟩, a, cap, rfl, ho, hb2⟩
  obtain ⟨g, off, rfl, hg, hcells⟩ := (owns_strs ho).cell (show 0 < l.length by omega)
  have hgw : w.heap.size < g := by
    have h := (ho.lt g rfl).1
    omega
  have HP0 : Hid (PsS w w2 (.slice (some ⟨w.heap.size, 0, none⟩) 0 0) [] g off l) := Lib.hid ⟨HE.out.later hb2, hcells, fun e => by have := Option.some.inj e; simp only [] at this; omega⟩
  clear ho hb2 hcells HE HSP hg
  go_wp2_with fail
  go_loopw [4, 11] (fun v i wr => ∃ (R : List ByteArray), R.length ≤ l.length ∧ i = .int .i64 (R.length : Nat) ∧ Hid (ShortS s.size R) ∧ Hid (PsS w wr v R g off l)) (fun _ i _ => l.length - (intOf i).toNat)
  case atStart => exact ⟨[], Nat.zero_le _, rfl, Lib.hid (fun r hr => by simp at hr), HP0⟩
  case round =>
    clear HP0
    obtain ⟨R, hj, rfl, hsh, HRC⟩ := hrel
    obtain ⟨a3, c3, rfl⟩ := owns_form HRC.out.own.1
    by_cases hlt : R.length < l.length
    · have cw := HRC.out.part R.length hlt
      have hnz := hl1.at_ hlt
      generalize nthS l R.length = sj at *
      have HSZ2 : Hid (sj.size ≤ s.size) := Lib.hid hnz
      cases hd : (sj.toList == [46])
      all_goals
        go_upto_region 7 with fail
        obtain ⟨sy, hsy, hsz2⟩ : ∃ sy : ByteArray, sy = (if (sj.toList == [46]) = true then ⟨#[]⟩ else sj) ∧ sy.size ≤ s.size := ⟨_, rfl, by
          split
          · first | exact HSZ2.out | exact Nat.zero_le _
          · first | exact HSZ2.out | exact Nat.zero_le _⟩
        rw [hd] at hsy
        first | (have e9 : sy = sj := hsy; clear hsy; subst e9) | (have e9 : sy = ⟨#[]⟩ := hsy; clear hsy; rw [← e9] at *)
        have HN1 : Hid ([Value.string sy].length = 1) := Lib.hid rfl
        have HN2 : Hid (∀ v ∈ [Value.string sy], v.oneCell' = true) := Lib.hid (fun v hv => by simp at hv; rcases hv with rfl; rfl)
        go_wp2_with (at_builtin; refine wpList_appH (n := R.length) (wr := wr) (news := [Value.string sy]) rfl (.tmp 17) (.tmp 19) rfl Tryz.underlying47 Tryz.infoStr rfl (by decide) rfl HRC.out.own.1 HRC.out.own.2.size rfl HN1.out HN2.out (by unfold maxLen; omega) (by omega) ?_; intro g4 c4 w4 ho4 hg4 hr4)
        have HR4 := Lib.hid (HRC.out.put (by omega) ho4 hg4 hr4)
        have HSH := Lib.hid (hsh.out.app (s := sy) hsz2)
        clear ho4 hg4 hr4
        go_wp2_with fail
        go_roundw
        case rel => exact ⟨R ++ [sy], by simp; omega, by simp, HSH, HR4⟩
        case measure => simp [intOf]; omega
    · have hll : ¬ (R.length : Int) < (l.length : Int) := by omega
      have HSO := Lib.hid (fun W h => specSub_any R a3 c3 W h (by omega) (fun j hj => Nat.le_trans (hsh.out.at_ hj) (by unfold maxLen; omega)))
      have HFS := Lib.hid (fun W h => specFormatSub_c R a3 c3 W h (by omega) (fun j hj => Nat.le_trans (hsh.out.at_ hj) (by unfold maxLen; omega)))
      have HRI := Lib.hid (owns_strs HRC.out.own.1)
      have HBW := Lib.hid HRC.out.own.2
      have HSH : Hid (ShortS (s.size + 1) R ∧ R.length ≤ s.size + 1) := Lib.hid ⟨fun r hr => Nat.le_trans (hsh.out r hr) (by omega), by omega⟩
      clear HRC
      go_wp2_with fail
      refine (HSO.out _ HRI.out).mono ?_
      rintro e w5 ⟨rfl, hb5⟩
      have HB5 := Lib.hid (Below.now HBW.out hb5)
      have HR5 := Lib.hid (HRI.out.later hb5)
      obtain ⟨bb, hbb⟩ : ∃ bb, subB R = bb := ⟨_, rfl⟩
      rw [hbb]
      clear hb5 hbb HSO
      cases bb
      · have F : Hid (RetSbC (s.size + 1) w (.returned (.tuple #[.slice none 0 0, .bool false])) w5) := Lib.hid ⟨[], none, 0, false, ⟨fun r hr => by simp at hr, Nat.zero_le _⟩, rfl, .inl rfl, HB5.out⟩
        go_wp2_with fail
        refine bodyPost_ret (v := .tuple #[.slice none 0 0, .bool false]) ?_ rfl F.out
        simp [results, Tryz.results107, go_sem]
      · go_wp2_with fail
        refine (HFS.out _ HR5.out).mono ?_
        rintro e w6 ⟨st, rfl, hb6⟩
        have HB6 := Lib.hid (Below.now HB5.out hb6)
        have HR6 := Lib.hid (HR5.out.later hb6)
        clear hb6 HFS
        cases hq : (st.toList == s.toList)
        · have F : Hid (RetSbC (s.size + 1) w (.returned (.tuple #[.slice none 0 0, .bool false])) w6) := Lib.hid ⟨[], none, 0, false, ⟨fun r hr => by simp at hr, Nat.zero_le _⟩, rfl, .inl rfl, HB6.out⟩
          go_wp2_with fail
          refine bodyPost_ret (v := .tuple #[.slice none 0 0, .bool false]) ?_ rfl F.out
          simp [results, Tryz.results107, go_sem]
        · have F : Hid (RetSbC (s.size + 1) w (.returned (.tuple #[.slice a3 R.length c3, .bool true])) w6) := Lib.hid ⟨R, a3, c3, true, HSH.out, rfl, HR6.out, HB6.out⟩
          go_wp2_with fail
          refine bodyPost_ret (v := .tuple #[.slice a3 R.length c3, .bool true]) ?_ rfl F.out
          simp [results, Tryz.results107, go_sem]
end Go.Proofs.YtoddpmdjjgnpgaaGreatDoor
namespace Go.Proofs.YtoddpmdjjgnpgaaGreatDoor
open Go.RowKit
set_option linter.unusedVariables false
/-- a list of words that is being drawn -/
structure DrwS (B : Nat) (a : Option Addr) (l : List UInt8) (cap : Nat) (w0 : World) (H : Nat) (wr : World) (v : Value) (R : List ByteArray) : Prop where
  own : wr.ownsRow H 9 1 v R.length (strVals R)
  cur : CurOk wr B a l cap
  below : Below w0.heap.size w0 wr
  lt : B < H ∧ w0.heap.size ≤ B ∧ H ≤ wr.heap.size
  far : l ≠ [] → ∀ x, a = some x → x.block < H
  sz : ShortS 1001 R
section
variable {B : Nat} {a : Option Addr} {l : List UInt8} {cap : Nat} {w0 wr : World} {H : Nat} {v : Value} {R : List ByteArray}
theorem DrwS.next {w' : World} (h : DrwS B a l cap w0 H wr v R) (hc : CurOk w' B a l cap) (hg : wr.grownBy w' (some B)) : DrwS B a l cap w0 H w' v R := by
  have h1 := h.lt
  have hne : v.ownBlock ≠ some B := fun e => by have := (h.own.lt B e).1; omega
  exact ⟨h.own.kept hg (.inr hne), hc, below_curs h.below hg h.lt.2.1, ⟨h.lt.1, h.lt.2.1, Nat.le_trans h.lt.2.2 hg.size⟩, h.far, h.sz⟩
theorem DrwS.start {w2 : World} (hc : CurOk w2 B a l cap) (hb : Below w0.heap.size w0 w2) (hB : w0.heap.size ≤ B) : DrwS B a l cap w0 w2.heap.size (w2.alloc (.cells #[] 9)) (.slice (some ⟨w2.heap.size, 0, none⟩) 0 0) [] :=
  ⟨(Bld.empty 9 1 w2).1, hc.alloc _, hb.alloc hb.size _, ⟨hc.lt, hB, by simp⟩, curNe hc.bytes, fun s hs => by simp at hs⟩
theorem DrwS.put {w4 : World} {v' : Value} {x : ByteArray} {ob : Obj} (h : DrwS B a l cap w0 H wr v R) (hx : x.size ≤ 1001)
    (ho : w4.ownsRow H 9 1 v' (R.length + 1) (strVals R ++ [.string x])) (hg : (wr.alloc ob).grownBy w4 v.ownBlock) : DrwS B a l cap w0 H w4 v' (R ++ [x]) := by
  have h1 := h.lt
  have hb : ∀ b, v.ownBlock = some b → H ≤ b := fun b hb => (h.own.lt b hb).1
  refine ⟨by rw [List.length_append, strVals_appP]; exact ho, (h.cur.alloc ob).grownO hg (fun e => by have := hb _ e; omega) (fun hne y hy e => by have := h.far hne y hy; have := hb _ e; omega), ?_, ⟨h1.1, h1.2.1, Nat.le_trans (Nat.le_trans h1.2.2 (by simp)) hg.size⟩, h.far, h.sz.app hx⟩
  exact (h.below.alloc h.below.size ob).grown hg (h.below.alloc h.below.size ob).size (fun k hk => by have := hb k hk; omega)
end
def RetSbD (B : Nat) (a : Option Addr) (l : List UInt8) (cap : Nat) (w0 : World) (e : Ending) (w' : World) : Prop := ∃ (R : List ByteArray) (aR : Option Addr) (cR : Nat),
  (ShortS 1001 R ∧ R.length ≤ 1001) ∧ e = .returned (.slice aR R.length cR) ∧ StrsIn w' aR R ∧ CurOk w' B a l cap ∧ Below w0.heap.size w0 w'
def subLits : List ByteArray := [⟨#[97, 98, 44, 98, 97]⟩, ⟨#[97, 98, 44, 97]⟩, ⟨#[97, 98, 44, 46]⟩, ⟨#[97, 98, 99, 44, 97, 99, 44, 98]⟩, ⟨#[97, 97, 98, 44, 98]⟩, ⟨#[98, 44, 97, 98]⟩, ⟨#[97, 98, 44, 97, 99, 44, 97]⟩, ⟨#[97, 98, 97, 44, 98, 98, 98]⟩]
theorem subLits_size : ∀ i, i < subLits.length → (nthS subLits i).size ≤ 100 := by decide +kernel
set_option maxRecDepth 20000 in
set_option maxHeartbeats 4000000 in
theorem l19Draw_c (B : Nat) (a : Option Addr) (l : List UInt8) (cap : Nat) (w0 w : World) (h : CurOk w B a l cap) (hb0 : Below w0.heap.size w0 w) (hB : w0.heap.size ≤ B) :
    Calls Tryz.prog 61 #[.pointer (some ⟨B, 0, none⟩)] w (RetSbD B a l cap w0) := by
  have HC1 := Lib.hid h
  have HB1 := Lib.hid hb0
  have HO2 : Hid (∀ W, CurOk W B a l cap → Calls Tryz.prog 84 #[.pointer (some ⟨B, 0, none⟩), .int .i64 2] W fun e w' => ∃ b : Bool, e = .returned (.bool b) ∧ CurOk w' B a l cap ∧ W.grownBy w' (some B)) := Lib.hid (fun W hW => l01Once_any B 2 a l cap W hW (by omega) (by omega))
  have HB3 : Hid (∀ W, CurOk W B a l cap → Calls Tryz.prog 85 #[.pointer (some ⟨B, 0, none⟩), .int .i64 3] W fun e w' => ∃ x : Nat, x < 3 ∧ e = .returned (.int .i64 ((x : Nat) : Int)) ∧ CurOk w' B a l cap ∧ W.grownBy w' (some B)) := Lib.hid (fun W hW => l01Below_any B 3 a l cap W hW (by omega) (by omega))
  clear h hb0
  go_enter Tryz.func61, Tryz.ntmps61
  go_wp2_with fail
  refine (HO2.out _ HC1.out).mono ?_
  rintro e w2 ⟨b, rfl, hc2, hg2⟩
  have HC2 := Lib.hid hc2
  have HB2 : Hid (Below w0.heap.size w0 w2) := Lib.hid (below_curs HB1.out hg2 hB)
  clear hc2 hg2 HC1 HB1 HO2
  cases b
  · go_wp2_with fail
    refine (HB3.out _ HC2.out).mono ?_
    rintro e w3 ⟨x, hx, rfl, hc3, hg3⟩
    have HD3 := Lib.hid (DrwS.start hc3 (below_curs HB2.out hg3 hB) hB)
    have HNN : Hid (∀ W, CurOk W B a l cap → Calls Tryz.prog 43 #[.pointer (some ⟨B, 0, none⟩), .int .i64 ((1 + x : Nat) : Int), .int .i64 3] W fun e w' => ∃ s : ByteArray, (allB (letB ((1 + x : Nat) : Int)) s = true ∧ s.size ≤ 3) ∧ e = .returned (.string s) ∧ CurOk w' B a l cap ∧ W.grownBy w' (some B)) := Lib.hid (fun W hW => l02Draw_any B (1 + x) 3 a l cap W hW (by omega) (by omega) (by omega))
    clear hc3 hg3 HC2 HB2 HB3
    go_upto_region 5 with fail
    obtain ⟨n, hn1, hn2, hn3⟩ : ∃ n : Nat, (1 + (x : Int)) = (n : Int) ∧ 1 + x = n ∧ n ≤ 3 := ⟨1 + x, by omega, rfl, by omega⟩
    rw [hn1]
    rw [hn2] at HNN
    clear hn1 hn2 hx
    go_wp2_with fail
    go_loopw [6, 7] (fun v i wr => ∃ (R : List ByteArray), R.length ≤ n ∧ i = .int .i64 (R.length : Nat) ∧ Hid (DrwS B a l cap w0 w3.heap.size wr v R)) (fun _ i _ => n - (intOf i).toNat)
    case atStart => exact ⟨[], Nat.zero_le _, rfl, HD3⟩
    case round =>
      clear HD3
      obtain ⟨R, hR, rfl, HDr⟩ := hrel
      obtain ⟨a3, c3, rfl⟩ := owns_form HDr.out.own
      by_cases hj : R.length < n
      · have hji : (R.length : Int) < (n : Int) := by omega
        go_wp2_with fail
        refine (HNN.out _ HDr.out.cur).mono ?_
        rintro e w5 ⟨s, ⟨-, hs3⟩, rfl, hc5, hg5⟩
        have HD5 := Lib.hid (HDr.out.next hc5 hg5)
        clear hc5 hg5 HDr
        have HN1 : Hid ([Value.string s].length = 1) := Lib.hid rfl
        have HN2 : Hid (∀ v ∈ [Value.string s], v.oneCell' = true) := Lib.hid (fun v hv => by simp at hv; rcases hv with rfl; rfl)
        go_wp2_with (at_builtin; refine wpList_appH (n := R.length) (wr := w5) (news := [Value.string s]) rfl (.tmp 27) (.tmp 31) rfl Tryz.underlying47 Tryz.infoStr rfl (by decide) rfl HD5.out.own HD5.out.lt.2.2 rfl HN1.out HN2.out (by unfold maxLen; omega) (by omega) ?_; intro g4 c4 w4 ho4 hg4 hr4)
        have HR4 := Lib.hid (HD5.out.put (x := s) (by omega) ho4 hg4)
        clear ho4 hg4 hr4
        go_wp2_with fail
        go_roundw
        case rel => exact ⟨R ++ [s], by simp; omega, by simp, HR4⟩
        case measure => simp [intOf]; omega
      · have hji : ¬ (R.length : Int) < (n : Int) := by omega
        have F : Hid (RetSbD B a l cap w0 (.returned (.slice a3 R.length c3)) wr) := Lib.hid ⟨R, a3, c3, ⟨HDr.out.sz, by omega⟩, rfl, owns_strs HDr.out.own, HDr.out.cur, HDr.out.below⟩
        clear HDr
        go_wp2_with fail
        go_ret
        exact F.out
  · clear HB3
    go_wp2_with fail
    refine (litArr_any B a l cap subLits _ 8 _ _ HC2.out (by simp) (by decide) (by decide) (by kernel_rfl) (by kernel_rfl) subLits_size).mono ?_
    rintro e w3 ⟨s, hs, rfl, hc3, hg3⟩
    have HC3 := Lib.hid hc3
    have HB3 : Hid (Below w0.heap.size w0 w3) := Lib.hid (below_curs HB2.out hg3 hB)
    clear hc3 hg3 HC2 HB2
    go_wp2_with fail
    refine (specParseSub_c s _ (by omega)).mono ?_
    rintro e w4 ⟨R, aR, cR, bb, ⟨hs1, hs2⟩, rfl, hR, hb4⟩
    have F : Hid (RetSbD B a l cap w0 (.returned (.slice aR R.length cR)) w4) := Lib.hid ⟨R, aR, cR, ⟨fun s h => Nat.le_trans (hs1 s h) (by omega), Nat.le_trans hs2 (by omega)⟩, rfl, hR, HC3.out.later hb4, Below.now HB3.out hb4⟩
    clear hb4 hR
    go_wp2_with fail
    go_ret
    exact F.out
/-- some valid substitution -/
def RetMkS (w : World) (e : Ending) (w' : World) : Prop := ∃ (R : List ByteArray) (aR : Option Addr) (cR : Nat),
  subB R = true ∧ e = .returned (.slice aR R.length cR) ∧ StrsIn w' aR R ∧ Below w.heap.size w w'
set_option maxRecDepth 20000 in
set_option maxHeartbeats 2000000 in
theorem specMakeSub_c (a : Option Addr) (l : List UInt8) (cap k : Nat) (w : World) (hl : BytesIn w a l) (hlen : l.length ≤ 2 ^ 40) (hk : k ≤ 1000) :
    Calls Tryz.prog 21 #[.slice a l.length cap, .int .i64 (k : Nat)] w (RetMkS w) := by
  have HN := Lib.hid (l31New_any a l cap k w hl hlen hk)
  go_enter Tryz.func21, Tryz.ntmps21
  go_wp2_with fail
  refine HN.out.mono ?_
  rintro e w2 ⟨rfl, hc, hb⟩
  have HD := Lib.hid (l19Draw_c w.heap.size a l cap w w2 hc hb (Nat.le_refl _))
  clear hc hb HN
  go_wp2_with fail
  refine HD.out.mono ?_
  rintro e w3 ⟨R, aR, cR, ⟨hs1, hs2⟩, rfl, hR, -, hb3⟩
  have HR4 := Lib.hid hR
  have HB4 : Hid (Below w.heap.size w w3) := Lib.hid hb3
  have HTG := Lib.hid (fun W h => specSub_any R aR cR W h (by omega) (fun j hj => Nat.le_trans (hs1.at_ hj) (by unfold maxLen; omega)))
  clear hR hb3 HD
  go_wp2_with fail
  refine (HTG.out _ HR4.out).mono ?_
  rintro e w5 ⟨rfl, hb5⟩
  have HR5 := Lib.hid (HR4.out.later hb5)
  have HB5 := Lib.hid (Below.now HB4.out hb5)
  clear hb5 HR4 HB4 HTG
  cases hbb : subB R
  · have F : Hid (RetMkS w (.returned (.slice (some ⟨w5.heap.size, 0, none⟩) 2 2)) (w5.alloc (.cells #[.string ⟨#[97, 98]⟩, .string ⟨#[98, 97]⟩] 9))) :=
      Lib.hid ⟨[⟨#[97, 98]⟩, ⟨#[98, 97]⟩], _, 2, by decide +kernel, rfl, StrsIn.lit w5 [⟨#[97, 98]⟩, ⟨#[98, 97]⟩], Below.now HB5.out (alloc_belowS _ _)⟩
    go_wp2_with fail
    go_ret
    exact F.out
  · have F : Hid (RetMkS w (.returned (.slice aR R.length cR)) w5) := Lib.hid ⟨R, aR, cR, hbb, rfl, HR5.out, HB5.out⟩
    clear hbb
    go_wp2_with fail
    go_ret
    exact F.out
end Go.Proofs.YtoddpmdjjgnpgaaGreatDoor
namespace Go.Proofs.YtoddpmdjjgnpgaaGreatDoor
open Go.RowKit
set_option linter.unusedVariables false
def intVals (l : List Int) : List Value := l.map (Value.int .i64)
end Go.Proofs.YtoddpmdjjgnpgaaGreatDoor
namespace Go.Proofs.YtoddpmdjjgnpgaaGreatDoor
open Go.RowKit
set_option linter.unusedVariables false
theorem IntsIn.grownB {w w' : World} {B : Nat} {a : Option Addr} {l : List Int} (h : IntsIn w a l) (hg : w.grownBy w' (some B)) (hne : ∀ x, a = some x → x.block ≠ B) : IntsIn w' a l := by
  rcases h with h | ⟨b, off, ha, hc⟩
  · exact .inl h
  · refine .inr ⟨b, off, ha, fun i hi => ?_⟩
    rw [World.cell?_of_block (w := w) (hg.block b (World.block_lt_of_cell? w _ (hc i hi)) (fun e => hne _ ha (Option.some.inj e)))]
    exact hc i hi
def I64 (z : Int) : Prop := -9223372036854775808 ≤ z ∧ z ≤ 9223372036854775807
/-- what a drawn number leaves -/
def RetZR (B : Nat) (a : Option Addr) (l : List UInt8) (cap : Nat) (w : World) (e : Ending) (w' : World) : Prop := ∃ z : Int, I64 z ∧ e = .returned (.int .i64 z) ∧ CurOk w' B a l cap ∧ w.grownBy w' (some B)
set_option maxHeartbeats 1000000 in
theorem l01Pick_any (B : Nat) (a : Option Addr) (l : List UInt8) (cap : Nat) (ls : List Int) (a2 : Option Addr) (cap2 : Nat) (w : World) (h : CurOk w B a l cap) (hl : IntsIn w a2 ls) (hne : ∀ x, a2 = some x → x.block ≠ B) (h1 : 1 ≤ ls.length) (h2 : ls.length ≤ 256) (hr : ∀ i, i < ls.length → I64 (nthZ ls i)) :
    Calls Tryz.prog 154 #[.pointer (some ⟨B, 0, none⟩), .slice a2 ls.length cap2] w (RetZR B a l cap w) := by
  have HB := Lib.hid (l01Below_any B ls.length a l cap w h h1 h2)
  have HL := Lib.hid hl
  have HN := Lib.hid hne
  have HRR := Lib.hid hr
  clear h hl hne hr
  go_enter Tryz.func154, Tryz.ntmps154
  go_wp2_with fail
  refine HB.out.mono ?_
  rintro e w2 ⟨x, hx, rfl, hc2, hg2⟩
  obtain ⟨b, off, rfl, hb, hcell⟩ := (HL.out.grownB hg2 HN.out).cell hx
  have c1 := hcell x hx
  have HRX := Lib.hid (HRR.out x hx)
  have HC := Lib.hid hc2
  have HG := Lib.hid hg2
  clear hc2 hg2 HB hcell
  go_wp2_with fail
  go_ret
  exact ⟨_, HRX.out, rfl, HC.out, HG.out⟩
def nearLits : List Int := [9223372036854775807, -9223372036854775808, -1, 0, 1000000000]
theorem intLit_arr (B : Nat) (a : Option Addr) (l : List UInt8) (cap : Nat) (ls : List Int) (arr : Array Value) (n g : Nat) (w : World) (h : CurOk w B a l cap) (hg : w.heap.size = g) (h1 : 1 ≤ n) (h2 : n ≤ 256) (he : (intVals ls).toArray = arr) (hn : ls.length = n) (hr : ∀ i, i < ls.length → I64 (nthZ ls i)) :
    Calls Tryz.prog 154 #[.pointer (some ⟨B, 0, none⟩), .slice (some ⟨g, 0, none⟩) n n] (w.alloc (.cells arr 3)) (RetZR B a l cap w) := by
  subst he hn hg
  have hO : (w.alloc (.cells (intVals ls).toArray 3)).ownsRow w.heap.size 3 1 (.slice (some ⟨w.heap.size, 0, none⟩) ls.length ls.length) ls.length (intVals ls) := World.ownsRow_lit (base := w.heap.size) (size := 1) w (intVals ls).toArray ls.length (Nat.le_refl _) (by unfold maxLen; omega) (by simp [intVals])
  have hI : IntsIn (w.alloc (.cells (intVals ls).toArray 3)) (some ⟨w.heap.size, 0, none⟩) ls := owns_ints (l := ls) hO
  refine (l01Pick_any B a l cap ls (some ⟨w.heap.size, 0, none⟩) ls.length _ (h.alloc _) hI (fun x hx => by
    obtain rfl := Option.some.inj hx
    have := h.lt
    show w.heap.size ≠ B; omega) h1 h2 hr).mono fun _ _ ⟨z, hz, he, hc, hg⟩ => ⟨z, hz, he, hc, grown_tr (grown_alloc ⟨rfl, rfl, rfl, Nat.le_refl _, fun _ _ _ => rfl⟩ _) hg⟩
theorem nearLits_in : ∀ i, i < nearLits.length → I64 (nthZ nearLits i) := by unfold I64; decide +kernel
set_option maxRecDepth 20000 in
set_option maxHeartbeats 4000000 in
theorem l01Near_any (B : Nat) (a : Option Addr) (l : List UInt8) (cap : Nat) (lo d : Nat) (w : World) (h : CurOk w B a l cap) (h1 : lo ≤ 1000) (h2 : d ≤ 200) :
    Calls Tryz.prog 111 #[.pointer (some ⟨B, 0, none⟩), .int .i64 (lo : Nat), .int .i64 ((lo : Int) + (d : Int))] w (RetZR B a l cap w) := by
  have HB := Lib.hid (l01Below_any B 12 a l cap w h (by omega) (by omega))
  have HL := Lib.hid (fun W (h : CurOk W B a l cap) => l01Below_any B (d + 1) a l cap W h (by omega) (by omega))
  clear h
  have e1 : (lo : Int) + (d : Int) - (lo : Int) = (d : Int) := by omega
  have e2 : ¬ (60000 : Int) < (d : Int) := by omega
  have e3 : Hid (((d : Int) + 1) = ((d + 1 : Nat) : Int)) := Lib.hid (by omega)
  have s1 : IntKind.i64.wrap ((lo : Int) - 1) = (lo : Int) - 1 := IntWalk.i64_in _ (by omega)
  have s2 : IntKind.i64.wrap ((lo : Int) + (d : Int) + 1) = (lo : Int) + (d : Int) + 1 := IntWalk.i64_in _ (by omega)
  go_enter Tryz.func111, Tryz.ntmps111
  go_wp2_with fail
  refine HB.out.mono ?_
  rintro e w2 ⟨x, hx, rfl, hc2, hg2⟩
  have HC := Lib.hid hc2
  have HG := Lib.hid hg2
  clear hc2 hg2 HB
  by_cases x0 : x = 0
  · subst x0
    go_wp2_with fail
    go_ret
    exact ⟨_, by unfold I64; omega, rfl, HC.out, HG.out⟩
  by_cases x1 : x = 1
  · subst x1
    go_wp2_with fail
    go_ret
    exact ⟨_, by unfold I64; omega, rfl, HC.out, HG.out⟩
  by_cases x2 : x = 2
  · subst x2
    go_wp2_with fail
    go_ret
    exact ⟨_, by unfold I64; omega, rfl, HC.out, HG.out⟩
  by_cases x3 : x = 3
  · subst x3
    go_wp2_with fail
    go_ret
    exact ⟨_, by unfold I64; omega, rfl, HC.out, HG.out⟩
  by_cases x4 : x = 4
  · subst x4
    go_wp2_with fail
    refine (intLit_arr B a l cap nearLits _ 5 _ _ HC.out (by simp) (by decide) (by decide) (by kernel_rfl) (by kernel_rfl) nearLits_in).mono ?_
    rintro e w3 ⟨z, hz, rfl, hc3, hg3⟩
    have HZZ := Lib.hid hz
    have HC3 := Lib.hid hc3
    have HG3 := Lib.hid (grown_tr HG.out hg3)
    clear hc3 hg3 hz
    go_wp2_with fail
    go_ret
    exact ⟨_, HZZ.out, rfl, HC3.out, HG3.out⟩
  have y0 : (((x : Nat) : Int) == 0) = false := by rw [beq_eq_false_iff_ne]; omega
  have y1 : (((x : Nat) : Int) == 1) = false := by rw [beq_eq_false_iff_ne]; omega
  have y2 : (((x : Nat) : Int) == 2) = false := by rw [beq_eq_false_iff_ne]; omega
  have y3 : (((x : Nat) : Int) == 3) = false := by rw [beq_eq_false_iff_ne]; omega
  have y4 : (((x : Nat) : Int) == 4) = false := by rw [beq_eq_false_iff_ne]; omega
  clear x0 x1 x2 x3 x4
  go_wp2_with fail
  rw [e3.out]
  refine (HL.out _ HC.out).mono ?_
  rintro e w3 ⟨z, hz, rfl, hc3, hg3⟩
  have HC3 := Lib.hid hc3
  have HG3 := Lib.hid (grown_tr HG.out hg3)
  clear hc3 hg3
  go_wp2_with fail
  go_ret
  exact ⟨_, by unfold I64; omega, rfl, HC3.out, HG3.out⟩
/-- some word -/
def RetWd (B : Nat) (a : Option Addr) (l : List UInt8) (cap : Nat) (w : World) (e : Ending) (w' : World) : Prop := ∃ s : ByteArray, s.size ≤ 24 ∧ e = .returned (.string s) ∧ CurOk w' B a l cap ∧ w.grownBy w' (some B)
set_option maxRecDepth 20000 in
set_option maxHeartbeats 2000000 in
theorem l02Any_any (B : Nat) (a : Option Addr) (l : List UInt8) (cap : Nat) (w : World) (h : CurOk w B a l cap) :
    Calls Tryz.prog 151 #[.pointer (some ⟨B, 0, none⟩)] w (RetWd B a l cap w) := by
  have HB2 := Lib.hid (l01Below_any B 2 a l cap w h (by omega) (by omega))
  have HB10 := Lib.hid (fun W (h : CurOk W B a l cap) => l01Below_any B 10 a l cap W h (by omega) (by omega))
  clear h
  go_enter Tryz.func151, Tryz.ntmps151
  go_wp2_with fail
  refine HB2.out.mono ?_
  rintro e w2 ⟨x, hx, rfl, hc2, hg2⟩
  have HDW : Hid (Calls Tryz.prog 43 #[.pointer (some ⟨B, 0, none⟩), .int .i64 (2 + (x : Int)), .int .i64 8] w2 fun e w' => ∃ s : ByteArray, (allB (letB ((2 + x : Nat) : Int)) s = true ∧ s.size ≤ 8) ∧ e = .returned (.string s) ∧ CurOk w' B a l cap ∧ w2.grownBy w' (some B)) := Lib.hid (by
    have h := l02Draw_any B (2 + x) 8 a l cap w2 hc2 (by omega) (by omega) (by omega)
    rwa [Int.natCast_add] at h)
  have HG2 := Lib.hid hg2
  clear hc2 hg2 HB2
  go_wp2_with fail
  refine HDW.out.mono ?_
  rintro e w3 ⟨s, ⟨-, hs⟩, rfl, hc3, hg3⟩
  have HG3 := Lib.hid (grown_tr HG2.out hg3)
  have HC3 := Lib.hid hc3
  clear hc3 hg3 HG2 HDW
  go_wp2_with fail
  refine (HB10.out _ HC3.out).mono ?_
  rintro e w4 ⟨y, hy, rfl, hc4, hg4⟩
  have HG4 := Lib.hid (grown_tr HG3.out hg4)
  have HC4 := Lib.hid hc4
  clear hc4 hg4 HG3 HC3
  by_cases y0 : y = 0
  · subst y0
    have hA : ¬ 9223372036854775807 < s.size + 1 := by omega
    have F : Hid (RetWd B a l cap w (.returned (.string (s ++ ⟨#[122]⟩))) w4) := Lib.hid ⟨_, by rw [ByteArray.size_append]; show s.size + 1 ≤ 24; omega, rfl, HC4.out, HG4.out⟩
    go_wp2_with fail
    go_ret
    exact F.out
  by_cases y1 : y = 1
  · subst y1
    have hA : ¬ 9223372036854775807 < s.size + s.size := by omega
    have hB : ¬ 9223372036854775807 < s.size + s.size + 8 := by omega
    have F : Hid (RetWd B a l cap w (.returned (.string (s ++ s ++ ⟨#[97, 98, 97, 98, 97, 98, 97, 98]⟩))) w4) := Lib.hid ⟨_, by rw [ByteArray.size_append, ByteArray.size_append]; show s.size + s.size + 8 ≤ 24; omega, rfl, HC4.out, HG4.out⟩
    go_wp2_with fail
    go_ret
    exact F.out
  have z0 : (((y : Nat) : Int) == 0) = false := by rw [beq_eq_false_iff_ne]; omega
  have z1 : (((y : Nat) : Int) == 1) = false := by rw [beq_eq_false_iff_ne]; omega
  have F : Hid (RetWd B a l cap w (.returned (.string s)) w4) := Lib.hid ⟨_, by omega, rfl, HC4.out, HG4.out⟩
  clear y0 y1
  go_wp2_with fail
  go_ret
  exact F.out
end Go.Proofs.YtoddpmdjjgnpgaaGreatDoor
