/-
  What the reference draws: numbers below a bound, words, patterns.
-/
import Derived.Test.YtnnboeeogbgmdaaCur
import Derived.Test.YtnnboeeogbgmdaaCountAv
import Derived.Test.YtnnboeeogbgmdaaVarsOf
import Derived.Test.YtnnboeeogbgmdaaAppM
namespace Go.Proofs.Ytnnboeeogbgmdaa
open Go.RowKit
set_option linter.unusedVariables false
theorem grown_alloc {w w1 : World} {r : Option Nat} (h : w.grownBy w1 r) (o : Obj) : w.grownBy (w1.alloc o) r := by
  have e := Below.heap_alloc w1 o
  exact ⟨h.os, h.tape, h.output, Nat.le_trans h.size (by simp), fun k hk hne => (e k (Nat.lt_of_lt_of_le hk h.size)).trans (h.block k hk hne)⟩
theorem CurOk.alloc {w : World} {B : Nat} {a : Option Addr} {l : List UInt8} {cap : Nat} (h : CurOk w B a l cap) (o : Obj) : CurOk (w.alloc o) B a l cap := h.later ((Below.refl _ _).alloc (Nat.le_refl _) _)
theorem CurOk.lt {w : World} {B : Nat} {a : Option Addr} {l : List UInt8} {cap : Nat} (h : CurOk w B a l cap) : B < w.heap.size := h.at_.lt
set_option maxHeartbeats 1000000 in
theorem l01Below_any (B n : Nat) (a : Option Addr) (l : List UInt8) (cap : Nat) (w : World) (h : CurOk w B a l cap) (hn : 1 ≤ n) (hn2 : n ≤ 256) :
    Calls Try.prog 63 #[.pointer (some ⟨B, 0, none⟩), .int .i64 (n : Nat)] w fun e w' => ∃ x : Nat, x < n ∧ e = .returned (.int .i64 ((x : Nat) : Int)) ∧ CurOk w' B a l cap ∧ w.grownBy w' (some B) := by
  have HB := Lib.hid (byte_cur h)
  clear h
  have h0 : ¬ (n : Int) ≤ 0 := by omega
  have h2 : (n : Int) ≤ 256 := by omega
  have hnz : ((n : Int) == 0) = false := by rw [beq_eq_false_iff_ne]; omega
  have hnz2 : ¬ (n : Int) = 0 := by omega
  go_enter Try.func63, Try.ntmps63
  go_wp2_with fail
  refine HB.out.mono ?_
  rintro e w2 ⟨x, hx, rfl, hc2, hg2⟩
  have HC := Lib.hid hc2
  have HG := Lib.hid hg2
  clear hc2 hg2 HB
  go_wp2_with fail
  go_ret
  exact ⟨x % n, Nat.mod_lt _ (by omega), ret_int (by first | rfl | simp), HC.out, HG.out⟩
set_option maxHeartbeats 400000 in
theorem l01Once_any (B n : Nat) (a : Option Addr) (l : List UInt8) (cap : Nat) (w : World) (h : CurOk w B a l cap) (hn : 1 ≤ n) (hn2 : n ≤ 256) :
    Calls Try.prog 61 #[.pointer (some ⟨B, 0, none⟩), .int .i64 (n : Nat)] w fun e w' => ∃ b : Bool, e = .returned (.bool b) ∧ CurOk w' B a l cap ∧ w.grownBy w' (some B) := by
  have HB := Lib.hid (l01Below_any B n a l cap w h hn hn2)
  clear h
  go_enter Try.func61, Try.ntmps61
  go_wp2_with fail
  refine HB.out.mono ?_
  rintro e w2 ⟨x, hx, rfl, hc2, hg2⟩
  have HC := Lib.hid hc2
  have HG := Lib.hid hg2
  clear hc2 hg2 HB
  go_wp2_with fail
  go_ret
  exact ⟨_, rfl, HC.out, HG.out⟩
theorem StrsIn.grownB {w w' : World} {B : Nat} {a : Option Addr} {l : List ByteArray} (h : StrsIn w a l) (hg : w.grownBy w' (some B)) (hne : ∀ x, a = some x → x.block ≠ B) : StrsIn w' a l := by
  rcases h with h | ⟨b, off, ha, hc⟩
  · exact .inl h
  · refine .inr ⟨b, off, ha, fun i hi => ?_⟩
    rw [World.cell?_of_block (w := w) (hg.block b (World.block_lt_of_cell? w _ (hc i hi)) (fun e => hne _ ha (Option.some.inj e)))]
    exact hc i hi
set_option maxHeartbeats 1000000 in
theorem l01Str_any (B : Nat) (a : Option Addr) (l : List UInt8) (cap : Nat) (ls : List ByteArray) (a2 : Option Addr) (cap2 : Nat) (w : World) (h : CurOk w B a l cap) (hl : StrsIn w a2 ls) (hne : ∀ x, a2 = some x → x.block ≠ B) (h1 : 1 ≤ ls.length) (h2 : ls.length ≤ 256) :
    Calls Try.prog 62 #[.pointer (some ⟨B, 0, none⟩), .slice a2 ls.length cap2] w fun e w' => ∃ i : Nat, i < ls.length ∧ e = .returned (.string (nthS ls i)) ∧ CurOk w' B a l cap ∧ w.grownBy w' (some B) := by
  have HB := Lib.hid (l01Below_any B ls.length a l cap w h h1 h2)
  have HL := Lib.hid hl
  have HN := Lib.hid hne
  clear h hl hne
  go_enter Try.func62, Try.ntmps62
  go_wp2_with fail
  refine HB.out.mono ?_
  rintro e w2 ⟨x, hx, rfl, hc2, hg2⟩
  obtain ⟨b, off, rfl, hb, hcell⟩ := (HL.out.grownB hg2 HN.out).cell hx
  have c1 := hcell x hx
  have HC := Lib.hid hc2
  have HG := Lib.hid hg2
  clear hc2 hg2 HB hcell
  go_wp2_with fail
  go_ret
  exact ⟨x, hx, rfl, HC.out, HG.out⟩
theorem StrsIn.lit (w : World) (ls : List ByteArray) : StrsIn (w.alloc (.cells (strVals ls).toArray 9)) (some ⟨w.heap.size, 0, none⟩) ls := by
  refine .inr ⟨_, _, rfl, fun i hi => ?_⟩
  rw [Nat.zero_add, World.cell?_alloc_new]
  have h2 : i < (strVals ls).length := by simpa [strVals] using hi
  show (strVals ls).toArray[i]? = some _
  rw [List.getElem?_toArray, List.getElem?_eq_getElem h2]
  rfl
/-- a literal row of strings is drawn from -/
theorem strLit_any (B : Nat) (a : Option Addr) (l : List UInt8) (cap : Nat) (ls : List ByteArray) (w : World) (h : CurOk w B a l cap) (h1 : 1 ≤ ls.length) (h2 : ls.length ≤ 256) :
    Calls Try.prog 62 #[.pointer (some ⟨B, 0, none⟩), .slice (some ⟨w.heap.size, 0, none⟩) ls.length ls.length] (w.alloc (.cells (strVals ls).toArray 9)) fun e w' => ∃ i : Nat, i < ls.length ∧ e = .returned (.string (nthS ls i)) ∧ CurOk w' B a l cap ∧ w.grownBy w' (some B) :=
  (l01Str_any B a l cap ls (some ⟨w.heap.size, 0, none⟩) ls.length _ (h.alloc _) (StrsIn.lit w ls) (fun x hx => by
    obtain rfl := Option.some.inj hx
    have := h.lt
    show w.heap.size ≠ B; omega) h1 h2).mono fun _ _ ⟨i, hi, he, hc, hg⟩ => ⟨i, hi, he, hc, grown_tr (grown_alloc ⟨rfl, rfl, rfl, Nat.le_refl _, fun _ _ _ => rfl⟩ _) hg⟩
/-- the given patterns, the given letters -/
def pats : List ByteArray := [⟨#[88, 88]⟩, ⟨#[88, 88, 88]⟩, ⟨#[88, 89, 88]⟩, ⟨#[88, 89, 88, 89, 88]⟩, ⟨#[88, 97, 88]⟩, ⟨#[88, 89, 89, 88]⟩, ⟨#[97, 88, 98]⟩, ⟨#[88, 89, 90]⟩, ⟨#[88, 97]⟩, ⟨#[97, 98]⟩, ⟨#[]⟩]
def lets : List ByteArray := [⟨#[88]⟩, ⟨#[89]⟩, ⟨#[97]⟩, ⟨#[98]⟩]
theorem pats_ok : ∀ i, i < 11 → patternOkB (nthS pats i) = true := by decide +kernel
theorem lets_ok : ∀ i, i < 4 → allB patB (nthS lets i) = true ∧ (nthS lets i).size = 1 := by decide +kernel
theorem allB_app (p : UInt8 → Bool) (u v : ByteArray) : allB p (u ++ v) = (allB p u && allB p v) := by simp [allB]
set_option maxRecDepth 20000 in
set_option maxHeartbeats 2000000 in
theorem l28Pattern_any (B : Nat) (a : Option Addr) (l : List UInt8) (cap : Nat) (w : World) (h : CurOk w B a l cap) :
    Calls Try.prog 33 #[.pointer (some ⟨B, 0, none⟩)] w fun e w' => ∃ p, patternOkB p = true ∧ e = .returned (.string p) ∧ CurOk w' B a l cap ∧ w.grownBy w' (some B) := by
  have HO : Hid (Calls Try.prog 61 #[.pointer (some ⟨B, 0, none⟩), .int .i64 2] w fun e w' => ∃ b : Bool, e = .returned (.bool b) ∧ CurOk w' B a l cap ∧ w.grownBy w' (some B)) := Lib.hid (l01Once_any B 2 a l cap w h (by omega) (by omega))
  clear h
  go_enter Try.func33, Try.ntmps33
  go_wp2_with fail
  refine HO.out.mono ?_
  rintro e w2 ⟨b, rfl, hc2, hg2⟩
  have HC2 := Lib.hid hc2
  have HG2 := Lib.hid hg2
  clear hc2 hg2 HO
  cases b
  · have HN : Hid (Calls Try.prog 63 #[.pointer (some ⟨B, 0, none⟩), .int .i64 6] w2 fun e w' => ∃ x : Nat, x < 6 ∧ e = .returned (.int .i64 ((x : Nat) : Int)) ∧ CurOk w' B a l cap ∧ w2.grownBy w' (some B)) := Lib.hid (l01Below_any B 6 a l cap w2 HC2.out (by omega) (by omega))
    go_wp2_with fail
    refine HN.out.mono ?_
    rintro e w3 ⟨x, hx, rfl, hc3, hg3⟩
    have HC3 := Lib.hid hc3
    have HG3 := Lib.hid (grown_tr HG2.out hg3)
    clear hc3 hg3 HN
    go_wp2_with fail
    go_loopw [3, 4] (fun u v wr => ∃ (j : Nat) (s : ByteArray), v = .int .i64 ((j : Nat) : Int) ∧ u = .string s ∧ Hid (allB patB s = true) ∧ s.size + j ≤ 5 ∧ CurOk wr B a l cap ∧ w.grownBy wr (some B)) (fun _ v _ => (intOf v).toNat)
    case atStart => exact ⟨x, ⟨#[]⟩, rfl, rfl, Lib.hid rfl, by show 0 + x ≤ 5; omega, HC3.out, HG3.out⟩
    case round =>
      clear HC3 HG3
      obtain ⟨j, s, rfl, rfl, hs, hsz, hc, hg⟩ := hrel
      have HC := Lib.hid hc
      have HG := Lib.hid hg
      clear hc hg
      by_cases hj : 0 < j
      · have HS := Lib.hid (strLit_any B a l cap lets wr HC.out (by decide) (by decide))
        have hji : (0 : Int) < (j : Int) := by omega
        go_wp2_with fail
        refine HS.out.mono ?_
        rintro e w5 ⟨i, hi, rfl, hc5, hg5⟩
        obtain ⟨hl1, hl2⟩ := lets_ok i hi
        have HC5 := Lib.hid hc5
        have HG5 := Lib.hid (grown_tr HG.out hg5)
        have HA : Hid (allB patB (s ++ nthS lets i) = true) := Lib.hid (by rw [allB_app, hs.out, hl1]; rfl)
        have hsum : ¬ 9223372036854775807 < s.size + (nthS lets i).size := by omega
        have hss : (s ++ nthS lets i).size + (j - 1) ≤ 5 := by rw [ByteArray.size_append]; omega
        have HSS := Lib.hid hss
        clear hc5 hg5 hl1 hl2 HS hss
        generalize nthS lets i = v at *
        go_wp2_with fail
        go_roundw
        case rel => exact ⟨j - 1, _, by congr 1; omega, rfl, HA, HSS.out, HC5.out, HG5.out⟩
        case measure => simp [intOf]; omega
      · have hji : ¬ (0 : Int) < (j : Int) := by omega
        go_wp2_with fail
        go_ret
        exact ⟨s, by unfold patternOkB; rw [hs.out]; simp; omega, rfl, HC.out, HG.out⟩
  · have HS := Lib.hid (strLit_any B a l cap pats w2 HC2.out (by decide) (by decide))
    go_wp2_with fail
    refine HS.out.mono ?_
    rintro e w5 ⟨i, hi, rfl, hc5, hg5⟩
    have HP := Lib.hid (pats_ok i hi)
    have HC5 := Lib.hid hc5
    have HG5 := Lib.hid (grown_tr HG2.out hg5)
    clear hc5 hg5 HS
    generalize nthS pats i = v at *
    go_wp2_with fail
    go_ret
    exact ⟨v, HP.out, rfl, HC5.out, HG5.out⟩
set_option maxHeartbeats 400000 in
theorem makePattern_any (a : Option Addr) (l : List UInt8) (cap k : Nat) (w : World) (hl : BytesIn w a l) (hlen : l.length ≤ 2 ^ 40) (hk : k ≤ 1000) :
    Calls Try.prog 11 #[.slice a l.length cap, .int .i64 (k : Nat)] w fun e w' => ∃ p, patternOkB p = true ∧ e = .returned (.string p) ∧ Below w.heap.size w w' := by
  have HN := Lib.hid (l31New_any a l cap k w hl hlen hk)
  clear hl
  go_enter Try.func11, Try.ntmps11
  go_wp2_with fail
  refine HN.out.mono ?_
  rintro e w2 ⟨rfl, hc, hb⟩
  have HC := Lib.hid hc
  have HB := Lib.hid hb
  clear hc hb HN
  go_wp2_with fail
  refine (l28Pattern_any _ a l cap w2 HC.out).mono ?_
  rintro e w3 ⟨p, hp, rfl, hc3, hg3⟩
  have HB3 := Lib.hid (below_curs HB.out hg3 (Nat.le_refl _))
  clear hc3 hg3
  go_wp2_with fail
  go_ret
  exact ⟨p, hp, rfl, HB3.out⟩
set_option maxRecDepth 20000 in
set_option maxHeartbeats 2000000 in
theorem l02Draw_any (B k most : Nat) (a : Option Addr) (l : List UInt8) (cap : Nat) (w : World) (h : CurOk w B a l cap) (hk1 : 1 ≤ k) (hk : k ≤ 4) (hm : most ≤ 16) :
    Calls Try.prog 35 #[.pointer (some ⟨B, 0, none⟩), .int .i64 (k : Nat), .int .i64 (most : Nat)] w fun e w' => ∃ s : ByteArray, (allB (letB 4) s = true ∧ s.size ≤ most) ∧ e = .returned (.string s) ∧ CurOk w' B a l cap ∧ w.grownBy w' (some B) := by
  have kc := convC
  have HN : Hid (Calls Try.prog 63 #[.pointer (some ⟨B, 0, none⟩), .int .i64 ((most : Int) + 1)] w fun e w' => ∃ x : Nat, x < most + 1 ∧ e = .returned (.int .i64 ((x : Nat) : Int)) ∧ CurOk w' B a l cap ∧ w.grownBy w' (some B)) := Lib.hid (l01Below_any B (most + 1) a l cap w h (by omega) (by omega))
  clear h
  go_enter Try.func35, Try.ntmps35
  go_wp2_with fail
  refine HN.out.mono ?_
  rintro e w3 ⟨x, hx, rfl, hc3, hg3⟩
  have HC3 := Lib.hid hc3
  have HG3 := Lib.hid hg3
  clear hc3 hg3 HN
  go_wp2_with fail
  go_loopw [7, 8] (fun u v wr => ∃ (j : Nat) (s : ByteArray), v = .int .i64 ((j : Nat) : Int) ∧ u = .string s ∧ Hid (allB (letB 4) s = true) ∧ s.size + j ≤ most ∧ CurOk wr B a l cap ∧ w.grownBy wr (some B)) (fun _ v _ => (intOf v).toNat)
  case atStart => exact ⟨x, ⟨#[]⟩, rfl, rfl, Lib.hid rfl, by show 0 + x ≤ most; omega, HC3.out, HG3.out⟩
  case round =>
    clear HC3 HG3
    obtain ⟨j, s, rfl, rfl, hs, hsz, hc, hg⟩ := hrel
    have HC := Lib.hid hc
    have HG := Lib.hid hg
    clear hc hg
    by_cases hj : 0 < j
    · have HS := Lib.hid (l01Below_any B k a l cap wr HC.out hk1 (by omega))
      have hji : (0 : Int) < (j : Int) := by omega
      go_wp2_with fail
      refine HS.out.mono ?_
      rintro e w5 ⟨i, hi, rfl, hc5, hg5⟩
      have hu : IntKind.u8.wrap (97 + (i : Int)) = 97 + (i : Int) := by simp [IntKind.wrap, IntKind.signed, IntKind.bits]; omega
      have HC5 := Lib.hid (hc5.alloc (.cells #[.int .u8 (97 + (i : Int))] 5))
      have HG5 := Lib.hid (grown_alloc (grown_tr HG.out hg5) (.cells #[.int .u8 (97 + (i : Int))] 5))
      have hlb : allB (letB 4) (letterN i) = true := by
        unfold allB
        have : (letterN i).data.toList = [UInt8.ofNat (97 + i)] := by
          show [UInt8.ofNat ((97 + (i : Int)).toNat)] = _
          rw [show (97 + (i : Int)).toNat = 97 + i by omega]
        rw [this]
        have hi4 : i < 4 := by omega
        match i, hi4 with
        | 0, _ => decide
        | 1, _ => decide
        | 2, _ => decide
        | 3, _ => decide
      have HA : Hid (allB (letB 4) (s ++ oneC (97 + (i : Int))) = true) := Lib.hid (by
        rw [allB_app, hs.out]
        exact hlb)
      have hsum : ¬ 9223372036854775807 < s.size + (oneC (97 + (i : Int))).size := by
        show ¬ 9223372036854775807 < s.size + 1; omega
      have hss : (s ++ oneC (97 + (i : Int))).size + (j - 1) ≤ most := by
        rw [ByteArray.size_append]
        show s.size + 1 + (j - 1) ≤ most; omega
      have HSS := Lib.hid hss
      clear hc5 hg5 HS hss hlb
      go_wp2_with fail
      go_roundw
      case rel => exact ⟨j - 1, _, by congr 1; omega, rfl, HA, HSS.out, HC5.out, HG5.out⟩
      case measure => simp [intOf]; omega
    · have hji : ¬ (0 : Int) < (j : Int) := by omega
      go_wp2_with fail
      go_ret
      exact ⟨s, ⟨hs.out, by omega⟩, rfl, HC.out, HG.out⟩
set_option maxHeartbeats 400000 in
theorem makeWord7_any (a : Option Addr) (l : List UInt8) (cap k : Nat) (w : World) (hl : BytesIn w a l) (hlen : l.length ≤ 2 ^ 40) (hk : k ≤ 1000) :
    Calls Try.prog 13 #[.slice a l.length cap, .int .i64 (k : Nat), .int .i64 2, .int .i64 7] w fun e w' => ∃ s, (allB (letB 4) s = true ∧ s.size ≤ 7) ∧ e = .returned (.string s) ∧ Below w.heap.size w w' := by
  have HN := Lib.hid (l31New_any a l cap k w hl hlen hk)
  have HD : Hid (∀ B W, CurOk W B a l cap → Calls Try.prog 35 #[.pointer (some ⟨B, 0, none⟩), .int .i64 2, .int .i64 7] W fun e w' => ∃ s : ByteArray, (allB (letB 4) s = true ∧ s.size ≤ 7) ∧ e = .returned (.string s) ∧ CurOk w' B a l cap ∧ W.grownBy w' (some B)) := Lib.hid (fun B W h => l02Draw_any B 2 7 a l cap W h (by omega) (by omega) (by omega))
  clear hl
  go_enter Try.func13, Try.ntmps13
  go_wp2_with fail
  refine HN.out.mono ?_
  rintro e w2 ⟨rfl, hc, hb⟩
  have HC := Lib.hid hc
  have HB := Lib.hid hb
  clear hc hb HN
  go_wp2_with fail
  refine (HD.out _ w2 HC.out).mono ?_
  rintro e w3 ⟨p, hp, rfl, hc3, hg3⟩
  have HB3 := Lib.hid (below_curs HB.out hg3 (Nat.le_refl _))
  clear hc3 hg3
  go_wp2_with fail
  go_ret
  exact ⟨p, hp, rfl, HB3.out⟩
set_option maxHeartbeats 400000 in
theorem makeWord1_any (a : Option Addr) (l : List UInt8) (cap k : Nat) (w : World) (hl : BytesIn w a l) (hlen : l.length ≤ 2 ^ 40) (hk : k ≤ 1000) :
    Calls Try.prog 13 #[.slice a l.length cap, .int .i64 (k : Nat), .int .i64 2, .int .i64 1] w fun e w' => ∃ s, (allB (letB 4) s = true ∧ s.size ≤ 1) ∧ e = .returned (.string s) ∧ Below w.heap.size w w' := by
  have HN := Lib.hid (l31New_any a l cap k w hl hlen hk)
  have HD : Hid (∀ B W, CurOk W B a l cap → Calls Try.prog 35 #[.pointer (some ⟨B, 0, none⟩), .int .i64 2, .int .i64 1] W fun e w' => ∃ s : ByteArray, (allB (letB 4) s = true ∧ s.size ≤ 1) ∧ e = .returned (.string s) ∧ CurOk w' B a l cap ∧ W.grownBy w' (some B)) := Lib.hid (fun B W h => l02Draw_any B 2 1 a l cap W h (by omega) (by omega) (by omega))
  clear hl
  go_enter Try.func13, Try.ntmps13
  go_wp2_with fail
  refine HN.out.mono ?_
  rintro e w2 ⟨rfl, hc, hb⟩
  have HC := Lib.hid hc
  have HB := Lib.hid hb
  clear hc hb HN
  go_wp2_with fail
  refine (HD.out _ w2 HC.out).mono ?_
  rintro e w3 ⟨p, hp, rfl, hc3, hg3⟩
  have HB3 := Lib.hid (below_curs HB.out hg3 (Nat.le_refl _))
  clear hc3 hg3
  go_wp2_with fail
  go_ret
  exact ⟨p, hp, rfl, HB3.out⟩
end Go.Proofs.Ytnnboeeogbgmdaa
