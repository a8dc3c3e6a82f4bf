/-
  The reference's ParseSystem, coarsely.
-/
import Derived.Test.YtgoeadgpbidgiaaGreatClp24
import Derived.Test.YtgoeadgpbidgiaaGreatClp04
import Derived.Deep.QuietTactic
import Derived.BigQuiet
import Derived.Deep.DeepCutAuto
import Derived.Test.YtgoeadgpbidgiaaGreatClp15
import Derived.Deep.RegionHeld3
import Derived.Deep.RegionLaw
import Derived.Test.YtgoeadgpbidgiaaGreatClp16
namespace Go.Proofs.YtgoeadgpbidgiaaGreat
open Go.RowKit
set_option linter.unusedVariables false
/-- strings of at most m bytes -/
def ShortS (m : Nat) (l : List ByteArray) : Prop := ∀ s ∈ l, s.size ≤ m
theorem ShortS.app {m : Nat} {l : List ByteArray} {s : ByteArray} (h : ShortS m l) (hs : s.size ≤ m) : ShortS m (l ++ [s]) := by
  intro x hx
  rcases List.mem_append.1 hx with h1 | h1
  · exact h x h1
  · obtain rfl : x = s := by simpa using h1
    exact hs
theorem ShortS.at_ {m : Nat} {l : List ByteArray} (h : ShortS m l) {j : Nat} (hj : j < l.length) : (nthS l j).size ≤ m := h _ (by rw [nthS_lt hj]; exact List.getElem_mem hj)
def RetStrs (m k : Nat) (w : World) (e : Ending) (w' : World) : Prop := ∃ l : List ByteArray, (ShortS m l ∧ 1 ≤ l.length ∧ l.length ≤ k) ∧ RetSl 9 1 l.length (strVals l) w e w'
theorem strVals_appP (l : List ByteArray) (s : ByteArray) : strVals (l ++ [s]) = strVals l ++ [.string s] := by simp [strVals]
theorem bld_drewN {T : TypeId} {size : Nat} {w wr : World} {v : Value} {n : Nat} {xs : List Value} (h : Bld T size w wr v n xs) (k : Nat) : Bld T size w (wr.drewN k) v n xs := h.later ⟨rfl, rfl, rfl, Nat.le_refl _, fun _ _ => rfl⟩
set_option maxRecDepth 20000 in
set_option maxHeartbeats 4000000 in
theorem specSplitAny_any (s : ByteArray) (c : UInt8) (w : World) (hs : s.size ≤ 2 ^ 20) :
    Calls Tryz.prog 60 #[.string s, .string ⟨#[c]⟩] w (RetStrs s.size (s.size + 1) w) := by
  have HS := Lib.hid (Bld.empty 9 1 w)
  have hz1 : (⟨#[c]⟩ : ByteArray).size = 1 := rfl
  have hcb := byte_lt c
  go_enter Tryz.func60, Tryz.ntmps60
  go_wp2_with fail
  go_loopw [5, 6, 7] (fun o f i wr => ∃ (j fr : Nat) (l : List ByteArray), (j ≤ s.size ∧ fr ≤ j) ∧ i = .int .i64 (j : Nat) ∧ f = .int .i64 (fr : Nat) ∧ Hid (ShortS s.size l ∧ l.length ≤ j) ∧ Bld 9 1 w wr o l.length (strVals l)) (fun _ _ i _ => s.size - (intOf i).toNat)
  case atStart => exact ⟨0, 0, [], ⟨Nat.zero_le _, Nat.le_refl _⟩, rfl, rfl, Lib.hid ⟨(fun x hx => by simp at hx), Nat.le_refl _⟩, HS.out⟩
  case round =>
    clear HS
    obtain ⟨j, fr, l, ⟨hj, hfr⟩, rfl, rfl, hl, hbd⟩ := hrel
    obtain ⟨a3, c3, rfl⟩ := owns_form hbd.1
    have hl2 := hl.out.2
    have HB := Lib.hid hbd
    clear hbd
    by_cases hlt : j < s.size
    · have hji : (j : Int) < (s.size : Int) := by omega
      go_wp2_with fail
      generalize hW : wr = wr0 at *; clear hW
      go_loopw [5, 6, 8] (fun o f k wr => ∃ i : Nat, i ≤ 1 ∧ o = .slice a3 l.length c3 ∧ f = .int .i64 (fr : Nat) ∧ k = .int .i64 (i : Nat) ∧ Hid (Bld 9 1 w wr (.slice a3 l.length c3) l.length (strVals l))) (fun _ _ k _ => 1 - (intOf k).toNat)
      case atStart => exact ⟨0, by omega, rfl, rfl, rfl, HB⟩
      case round =>
        clear HB
        obtain ⟨i, hi, rfl, rfl, rfl, HB⟩ := hrel
        by_cases hi0 : i = 0
        · subst hi0
          have HD : Hid (∀ n, Bld 9 1 w (wr.drewN n) (.slice a3 l.length c3) l.length (strVals l)) := Lib.hid (fun n => bld_drewN HB.out n)
          cases hq : ((s[j]'hlt).toNat : Int) == ((((⟨#[c]⟩ : ByteArray)[0]'(Nat.zero_lt_one)).toNat : Nat) : Int)
          · go_wp2_with fail
            go_quiet (fail)
            go_wp2_with fail
            go_roundw
            case rel => exact ⟨1, by omega, rfl, rfl, by go_num, Lib.hid (HD.out _)⟩
            case measure => simp [intOf]; try omega
          · have F : Hid (∀ x, x.size ≤ s.size → (ShortS s.size (l ++ [x]) ∧ (l ++ [x]).length ≤ j + 1)) := Lib.hid (fun x hx => ⟨hl.out.1.app hx, by simp; omega⟩)
            have hxs : (s.extract fr j).size ≤ s.size := by rw [ByteArray.size_extract]; omega
            go_wp2_with fail
            go_quiet (fail)
            go_wp2_with (at_builtin; refine wpList_app1 rfl _ _ rfl Tryz.underlying32 Tryz.infoStr rfl (by decide) rfl (HD.out nq) rfl rfl ?c1 ?c2 ?c3 ?c4)
            case c1 => simp [Value.oneCell']
            case c2 => unfold maxLen; omega
            case c3 => omega
            intro v2 w4 hb2
            have F2 : Hid (Bld 9 1 w w4 v2 (l ++ [s.extract fr j]).length (strVals (l ++ [s.extract fr j]))) := Lib.hid (by rw [strVals_appP, List.length_append]; exact hb2)
            clear hb2
            go_wp2_with fail
            go_roundw
            case rel => exact ⟨j + 1, j + 1, _, ⟨by omega, by omega⟩, by go_num, by go_num, Lib.hid (F.out _ hxs), F2.out⟩
            case measure => simp [intOf]; omega
        · obtain rfl : i = 1 := by omega
          go_wp2_with fail
          go_roundw
          case rel => exact ⟨j + 1, fr, l, ⟨by omega, by omega⟩, by go_num, rfl, Lib.hid ⟨hl.out.1, by omega⟩, HB.out⟩
          case measure => simp [intOf]; omega
    · obtain rfl : j = s.size := by omega
      have F : Hid (∀ x, x.size ≤ s.size → (ShortS s.size (l ++ [x]) ∧ 1 ≤ (l ++ [x]).length ∧ (l ++ [x]).length ≤ s.size + 1)) := Lib.hid (fun x hx => ⟨hl.out.1.app hx, by simp, by simp; omega⟩)
      have hxs : (s.extract fr s.size).size ≤ s.size := by rw [ByteArray.size_extract]; omega
      go_wp2_with (at_builtin; refine wpList_app1 rfl _ _ rfl Tryz.underlying32 Tryz.infoStr rfl (by decide) rfl HB.out rfl rfl ?a1 ?a2 ?a3 ?a4)
      case a1 => simp [Value.oneCell']
      case a2 => unfold maxLen; omega
      case a3 => omega
      intro v2 w4 hb2
      have F2 : Hid (RetStrs s.size (s.size + 1) w (.returned v2) w4) := Lib.hid ⟨_, F.out _ hxs, by rw [strVals_appP, List.length_append]; exact hb2.ret⟩
      clear hb2
      go_wp2_with fail
      go_ret
      exact F2.out
end Go.Proofs.YtgoeadgpbidgiaaGreat
namespace Go.Proofs.YtgoeadgpbidgiaaGreat
open Go.RowKit
set_option linter.unusedVariables false
def digP (s : ByteArray) : Prop := ∀ j (h : j < s.size), 48 ≤ ((s[j]'h).toNat : Int) ∧ ((s[j]'h).toNat : Int) ≤ 57
def RetDig (s : ByteArray) (w : World) (e : Ending) (w' : World) : Prop := ∃ b : Bool, (b = true → digP s) ∧ e = .returned (.bool b) ∧ w = w'
set_option maxHeartbeats 1000000 in
theorem specIsDigits_any (s : ByteArray) (w : World) (hs : s.size ≤ maxLen) :
    Calls Tryz.prog 91 #[.string s] w (RetDig s w) := by
  unfold maxLen at hs
  go_enter Tryz.func91, Tryz.ntmps91
  go_wp2_with fail
  go_loop [3] (fun i => ∃ j : Nat, j ≤ s.size ∧ i = .int .i64 j ∧ Hid (∀ j' (h : j' < s.size), j' < j → 48 ≤ ((s[j']'h).toNat : Int) ∧ ((s[j']'h).toNat : Int) ≤ 57)) (fun i => s.size - (intOf i).toNat)
  case atStart => exact ⟨0, Nat.zero_le _, rfl, Lib.hid (fun j' h h2 => absurd h2 (Nat.not_lt_zero _))⟩
  case round =>
    obtain ⟨j, hj, rfl, HA⟩ := hrel
    by_cases hlt : j < s.size
    · have hb := byte_lt s[j]
      by_cases h1 : (s[j].toNat : Int) < 48
      · go_wp2
        go_ret
        exact ⟨false, fun h => Bool.noConfusion h, rfl, rfl⟩
      · by_cases h2 : 57 < (s[j].toNat : Int)
        · go_wp2
          go_ret
          exact ⟨false, fun h => Bool.noConfusion h, rfl, rfl⟩
        · have HN : Hid (∀ j' (h : j' < s.size), j' < j + 1 → 48 ≤ ((s[j']'h).toNat : Int) ∧ ((s[j']'h).toNat : Int) ≤ 57) := Lib.hid (fun j' h hj' => by
            by_cases e : j' = j
            · subst e; omega
            · exact HA.out j' h (by omega))
          go_wp2
          go_round
          case rel => exact ⟨j + 1, by omega, by go_num, HN⟩
          case measure => simp [intOf]; omega
    · obtain rfl : j = s.size := by omega
      have HD : Hid (digP s) := Lib.hid (fun j h => HA.out j h h)
      go_wp2
      go_ret
      exact ⟨_, fun _ => HD.out, rfl, rfl⟩
def RetNum (w : World) (e : Ending) (w' : World) : Prop := ∃ (n : Int) (b : Bool), (-9223372036854775808 ≤ n ∧ n ≤ 9223372036854775807) ∧ e = .returned (.tuple #[.int .i64 n, .bool b]) ∧ Below w.heap.size w w'
theorem tdiv_ge {m c : Int} (h0 : 0 ≤ c) (h9 : c ≤ 9) (h : ¬ m < (-9223372036854775808 + c).tdiv 10) : -9223372036854775808 + c ≤ m * 10 := by
  rw [show -9223372036854775808 + c = -(9223372036854775808 - c) by omega, Int.neg_tdiv, Int.tdiv_eq_ediv_of_nonneg (by omega)] at h
  omega
theorem retN {w wr : World} {a : Act} {n : Int} {b : Bool} {fn : Func} (h1 : -9223372036854775808 ≤ n) (h2 : n ≤ 9223372036854775807) (hd : a.defers = []) (hv : (results fn a.tmps).run Tryz.prog wr = .ok (.tuple #[.int .i64 n, .bool b]) wr) (hb : Below w.heap.size w wr) : bodyPost Tryz.prog fn (RetNum w) Exit.ret a wr :=
  bodyPost_ret (v := .tuple #[.int .i64 n, .bool b]) hv hd ⟨n, b, ⟨h1, h2⟩, rfl, hb⟩
theorem ret0 {w wr : World} {a : Act} {fn : Func} (hd : a.defers = []) (hv : (results fn a.tmps).run Tryz.prog wr = .ok (.tuple #[.int .i64 0, .bool false]) wr) (hb : Below w.heap.size w wr) : bodyPost Tryz.prog fn (RetNum w) Exit.ret a wr := retN (by omega) (by omega) hd hv hb
set_option maxRecDepth 20000 in
set_option maxHeartbeats 4000000 in
theorem specParseInt_any (s : ByteArray) (w : World) (hs : s.size ≤ 2 ^ 20) :
    Calls Tryz.prog 61 #[.string s] w (RetNum w) := by
  have HD := Lib.hid (fun t W (h : t.size ≤ s.size) => specIsDigits_any t W (by unfold maxLen; omega))
  have HF := Lib.hid (fun n W h1 h2 => specFormatInt_any n W h1 h2)
  go_enter Tryz.func61, Tryz.ntmps61
  go_upto_region 1 with fail
  go_cut [4] (fun v wx => ∃ b : Bool, v = .bool b ∧ (b = true → 0 < s.size) ∧ wx = w)
  case first =>
    by_cases h0 : 0 < s.size
    · go_wp2_with fail
      go_meet
      exact ⟨_, rfl, fun _ => h0, rfl⟩
    · go_wp2_with fail
      go_meet
      exact ⟨_, rfl, fun h => Bool.noConfusion h, rfl⟩
  case rest =>
    obtain ⟨b, rfl, hb0, rfl⟩ := hcut
    cases b
    · have HTS : Hid (s.size ≤ s.size) := Lib.hid (Nat.le_refl _)
      go_wp2_with fail
      refine (HD.out _ _ HTS.out).mono ?_
      rintro e w2 ⟨bb, hbb, rfl, rfl⟩
      have hts := HTS.out
      cases bb
      · go_wp2_with fail
        exact ret0 rfl (by simp [results, Tryz.results61, go_sem]) (Below.refl _ _)
      · have HDP := Lib.hid (hbb rfl)
        by_cases h19 : 19 < s.size
        · go_wp2_with fail
          exact ret0 rfl (by simp [results, Tryz.results61, go_sem]) (Below.refl _ _)
        · go_wp2_with fail
          go_loop [6, 7] (fun n i => ∃ (j : Nat) (m : Int), j ≤ s.size ∧ i = .int .i64 (j : Nat) ∧ n = .int .i64 m ∧ -9223372036854775808 ≤ m ∧ m ≤ 0) (fun _ i => s.size - (intOf i).toNat)
          case atStart => exact ⟨0, 0, Nat.zero_le _, rfl, rfl, by omega, by omega⟩
          case round =>
            obtain ⟨j, m, hj, rfl, rfl, hm1, hm2⟩ := hrel
            by_cases hlt : j < s.size
            · obtain ⟨d1, d2⟩ := HDP.out j hlt
              have hbt := byte_lt s[j]
              by_cases hq : m < (-9223372036854775808 + (((s[j]'hlt).toNat : Int) - 48)).tdiv 10
              · go_wp2_with fail
                exact ret0 rfl (by simp [results, Tryz.results61, go_sem]) (Below.refl _ _)
              · have hge := tdiv_ge (c := ((s[j]'hlt).toNat : Int) - 48) (by omega) (by omega) hq
                have hr1 : -9223372036854775808 ≤ m * 10 - (((s[j]'hlt).toNat : Int) - 48) := by omega
                have hr2 : m * 10 - (((s[j]'hlt).toNat : Int) - 48) ≤ 0 := by omega
                have hq2 : decide (m < (-9223372036854775808 + (((s[j]'hlt).toNat : Int) - 48)).tdiv 10) = false := decide_eq_false hq
                clear hge
                go_wp2_with fail
                go_round
                case rel => exact ⟨j + 1, _, by omega, by go_num, rfl, hr1, hr2⟩
                case measure => simp [intOf]; omega
            · obtain rfl : j = s.size := by omega
              by_cases hm : m = -9223372036854775808
              · go_wp2_with fail
                exact ret0 rfl (by simp [results, Tryz.results61, go_sem]) (Below.refl _ _)
              · have hm2 : (m == -9223372036854775808) = false := beq_eq_false_iff_ne.2 hm
                go_wp2_with fail
                refine (HF.out (-m) _ (by omega) (by omega)).mono ?_
                rintro e w3 ⟨rfl, hb3⟩
                have HB3 := Lib.hid hb3
                clear hb3
                generalize (⟨(Lib.itoa (-m)).toArray⟩ : ByteArray) = fs at *
                cases hq : (fs.toList == s.toList)
                · go_wp2_with fail
                  exact ret0 rfl (by simp [results, Tryz.results61, go_sem]) HB3.out
                · go_wp2_with fail
                  exact retN (n := -m) (b := true) (by omega) (by omega) rfl (by simp [results, Tryz.results61, go_sem]) HB3.out
    · have h0 := hb0 rfl
      have HTS : Hid ((s.extract 1 s.size).size ≤ s.size) := Lib.hid (by rw [ByteArray.size_extract]; omega)
      go_wp2_with fail
      refine (HD.out _ _ HTS.out).mono ?_
      rintro e w2 ⟨bb, hbb, rfl, rfl⟩
      generalize s.extract 1 s.size = t at *
      have hts := HTS.out
      cases bb
      · go_wp2_with fail
        exact ret0 rfl (by simp [results, Tryz.results61, go_sem]) (Below.refl _ _)
      · have HDP := Lib.hid (hbb rfl)
        by_cases h19 : 19 < t.size
        · go_wp2_with fail
          exact ret0 rfl (by simp [results, Tryz.results61, go_sem]) (Below.refl _ _)
        · go_wp2_with fail
          go_loop [6, 7] (fun n i => ∃ (j : Nat) (m : Int), j ≤ t.size ∧ i = .int .i64 (j : Nat) ∧ n = .int .i64 m ∧ -9223372036854775808 ≤ m ∧ m ≤ 0) (fun _ i => t.size - (intOf i).toNat)
          case atStart => exact ⟨0, 0, Nat.zero_le _, rfl, rfl, by omega, by omega⟩
          case round =>
            obtain ⟨j, m, hj, rfl, rfl, hm1, hm2⟩ := hrel
            by_cases hlt : j < t.size
            · obtain ⟨d1, d2⟩ := HDP.out j hlt
              have hbt := byte_lt t[j]
              by_cases hq : m < (-9223372036854775808 + (((t[j]'hlt).toNat : Int) - 48)).tdiv 10
              · go_wp2_with fail
                exact ret0 rfl (by simp [results, Tryz.results61, go_sem]) (Below.refl _ _)
              · have hge := tdiv_ge (c := ((t[j]'hlt).toNat : Int) - 48) (by omega) (by omega) hq
                have hr1 : -9223372036854775808 ≤ m * 10 - (((t[j]'hlt).toNat : Int) - 48) := by omega
                have hr2 : m * 10 - (((t[j]'hlt).toNat : Int) - 48) ≤ 0 := by omega
                have hq2 : decide (m < (-9223372036854775808 + (((t[j]'hlt).toNat : Int) - 48)).tdiv 10) = false := decide_eq_false hq
                clear hge
                go_wp2_with fail
                go_round
                case rel => exact ⟨j + 1, _, by omega, by go_num, rfl, hr1, hr2⟩
                case measure => simp [intOf]; omega
            · obtain rfl : j = t.size := by omega
              go_wp2_with fail
              refine (HF.out m _ (by omega) (by omega)).mono ?_
              rintro e w3 ⟨rfl, hb3⟩
              have HB3 := Lib.hid hb3
              clear hb3
              generalize (⟨(Lib.itoa m).toArray⟩ : ByteArray) = fs at *
              cases hq : (fs.toList == s.toList)
              · go_wp2_with fail
                exact ret0 rfl (by simp [results, Tryz.results61, go_sem]) HB3.out
              · go_wp2_with fail
                exact retN (n := m) (b := true) (by omega) (by omega) rfl (by simp [results, Tryz.results61, go_sem]) HB3.out
end Go.Proofs.YtgoeadgpbidgiaaGreat
namespace Go.Proofs.YtgoeadgpbidgiaaGreat
open Go.RowKit
set_option linter.unusedVariables false
def RetRule (m : Nat) (w : World) (e : Ending) (w' : World) : Prop := ∃ (x y : ByteArray) (b : Bool), (x.size ≤ m ∧ y.size ≤ m) ∧ e = .returned (.tuple #[.agg #[.string x, .string y], .bool b]) ∧ Below w.heap.size w w'
/-- two strings in a row of their own -/
def TwoS (m B : Nat) (w wr : World) (v : Value) : Prop := ∃ x y : ByteArray, (x.size ≤ m ∧ y.size ≤ m) ∧ wr.ownsRow (B + 1) 9 1 v 2 [.string x, .string y] ∧ Below B w wr ∧ wr.heap[B]? = some (.cells #[.string ⟨#[]⟩, .string ⟨#[]⟩] 67 (0, 0))
theorem TwoS.mk {m B : Nat} {w wr : World} {v : Value} {l : List ByteArray} (h2 : l.length = 2) (hl : ShortS m l) (ho : wr.ownsRow (B + 1) 9 1 v l.length (strVals l)) (hb : Below B w wr) (h0 : wr.heap[B]? = some (.cells #[.string ⟨#[]⟩, .string ⟨#[]⟩] 67 (0, 0))) : TwoS m B w wr v := by
  match l, h2 with
  | [x, y], _ => exact ⟨x, y, ⟨hl x (by simp), hl y (by simp)⟩, ho, hb, h0⟩
theorem TwoS.form {m B : Nat} {w wr : World} {a : Option Addr} {n cap : Nat} (h : TwoS m B w wr (.slice a n cap)) : ∃ g, a = some ⟨g, 0, none⟩ ∧ B + 1 ≤ g ∧ n = 2 := by
  obtain ⟨x, y, hs, ho, hb, h0⟩ := h
  rcases ho.2 with ⟨hv, h0⟩ | ⟨g, cap', cur, hv, hb', r⟩
  · cases h0
  · simp only [Value.slice.injEq] at hv
    exact ⟨g, hv.1, hb', hv.2.1⟩
theorem TwoS.store {m B : Nat} {w wr : World} {g cap : Nat} (h : TwoS m B w wr (.slice (some ⟨g, 0, none⟩) 2 cap)) (hg : B + 1 ≤ g) (i : Nat) : i < 2 → TwoS m B w (wr.setCell ⟨g, i, none⟩ (.string ⟨#[]⟩)) (.slice (some ⟨g, 0, none⟩) 2 cap) := by
  intro hi
  obtain ⟨x, y, hs, ho, hb, h0⟩ := h
  have hz : (⟨#[]⟩ : ByteArray).size = 0 := rfl
  have hst := (ho.stored i (.string ⟨#[]⟩)).1
  have hblk : (wr.setCell ⟨g, i, none⟩ (.string ⟨#[]⟩)).heap[B]? = some (.cells #[.string ⟨#[]⟩, .string ⟨#[]⟩] 67 (0, 0)) := by
    rw [← h0]
    unfold World.setCell
    rw [Array.getElem?_modify, if_neg (by show ¬ g = B; omega)]
  match i, hi with
  | 0, _ => exact ⟨⟨#[]⟩, y, by omega, hst, hb.setCell (by show B ≤ g; omega) _, hblk⟩
  | 1, _ => exact ⟨x, ⟨#[]⟩, by omega, hst, hb.setCell (by show B ≤ g; omega) _, hblk⟩
theorem RetRule.zero {m : Nat} {w wr : World} (h : Below w.heap.size w wr) : RetRule m w (.returned (.tuple #[.agg #[.string ⟨#[]⟩, .string ⟨#[]⟩], .bool false])) ((wr.setCell ⟨w.heap.size, 0, none⟩ (.string ⟨#[]⟩)).setCell ⟨w.heap.size, 1, none⟩ (.string ⟨#[]⟩)) := by
  have hz : (⟨#[]⟩ : ByteArray).size = 0 := rfl
  exact ⟨⟨#[]⟩, ⟨#[]⟩, false, by omega, rfl, (h.setCell (Nat.le_refl _) _).setCell (Nat.le_refl _) _⟩
set_option maxRecDepth 20000 in
set_option maxHeartbeats 4000000 in
theorem specParseRule_any (s : ByteArray) (w : World) (hs : s.size ≤ 2 ^ 20) :
    Calls Tryz.prog 62 #[.string s] w (RetRule s.size w) := by
  have HSP := Lib.hid (fun W => specSplitAny_any s 62 W hs)
  have hz1 : (⟨#[]⟩ : ByteArray).size = 0 := rfl
  go_enter Tryz.func62, Tryz.ntmps62
  go_wp2_with fail
  refine (HSP.out _).mono ?_
  rintro e w2 ⟨l, ⟨hl1, hl2, hl3⟩, a, cap, rfl, ho, hb2⟩
  have hb0 := (hb2.block w.heap.size (by simp)).trans (alloc_at w (.cells #[.string ⟨#[]⟩, .string ⟨#[]⟩] 67))
  have hf0 : w2.frozen? ⟨w.heap.size, 0, none⟩ = false ∧ w2.frozen? ⟨w.heap.size, 1, none⟩ = false := by simp [World.frozen?, hb0]
  obtain ⟨f0, f1⟩ := hf0
  have HW1 := Lib.hid ((Below.refl w.heap.size w).alloc (Nat.le_refl _) (.cells #[.string ⟨#[]⟩, .string ⟨#[]⟩] 67))
  by_cases h2 : l.length = 2
  · have HT : Hid (TwoS s.size w.heap.size w w2 (.slice a 2 cap)) := Lib.hid (TwoS.mk h2 hl1 (by rw [← h2]; simpa using ho) (Below.now HW1.out hb2) hb0)
    have HZ0 : Hid (w2.heap[w.heap.size]? = some (.cells #[.string ⟨#[]⟩, .string ⟨#[]⟩] 67 (0, 0))) := Lib.hid hb0
    clear hb2 ho hb0 f0 f1
    rw [h2]
    clear h2 hl1 hl2 hl3
    obtain ⟨g, rfl, hg, _⟩ := HT.out.form
    go_wp2_with fail
    go_loopw [16] (fun i wr => ∃ j : Nat, j ≤ 2 ∧ i = .int .i64 (j : Nat) ∧ Hid (TwoS s.size w.heap.size w wr (.slice (some ⟨g, 0, none⟩) 2 cap))) (fun i _ => 2 - (intOf i).toNat)
    case atStart => exact ⟨0, by omega, rfl, HT⟩
    case round =>
      clear HT HZ0
      obtain ⟨j, hj, rfl, HT⟩ := hrel
      obtain ⟨x, y, ⟨hx, hy⟩, ho, hb, h0⟩ := HT.out
      have H0 := Lib.hid h0
      have c0 : wr.cell? ⟨g, 0, none⟩ = some (.string x) := ho.cellAt 0 (by omega)
      have c1 : wr.cell? ⟨g, 1, none⟩ = some (.string y) := ho.cellAt 1 (by omega)
      have f0 := ho.frozenAt 0
      have f1 := ho.frozenAt 1
      have HS := Lib.hid (HT.out.store hg)
      clear h0
      have hj3 : j = 0 ∨ j = 1 ∨ j = 2 := by omega
      rcases hj3 with rfl | rfl | rfl
      · have HS0 := Lib.hid (HS.out 0 (by omega))
        go_wp2_with fail
        · go_roundw
          case rel => exact ⟨1, by omega, by go_num, HS0⟩
          case measure => simp [intOf]
        · go_roundw
          case rel => exact ⟨1, by omega, by go_num, HT⟩
          case measure => simp [intOf]
      · have HS1 := Lib.hid (HS.out 1 (by omega))
        go_wp2_with fail
        · go_roundw
          case rel => exact ⟨2, by omega, by go_num, HS1⟩
          case measure => simp [intOf]
        · go_roundw
          case rel => exact ⟨2, by omega, by go_num, HT⟩
          case measure => simp [intOf]
      · have p0 : ∀ o, (wr.alloc o).cell? ⟨g, 0, none⟩ = some (.string x) := fun o => by rw [(alloc_belowS wr o).cell (World.block_lt_of_cell? wr _ c0)]; exact c0
        have p1 : ∀ o, (wr.alloc o).cell? ⟨g, 1, none⟩ = some (.string y) := fun o => by rw [(alloc_belowS wr o).cell (World.block_lt_of_cell? wr _ c1)]; exact c1
        go_wp2_with fail
        go_upto_region 10 with fail
        go_cut [7] (fun v wx => v = .pointer (some ⟨wr.heap.size, 0, none⟩) ∧ wx.heap[wr.heap.size]? = some (.cells #[.string x, .string y] 67 (0, 0)) ∧ Below wr.heap.size wr wx)
        case first =>
          go_region_law (fail)
          all_goals
            go_wp2_with fail
            go_meet
            exact ⟨rfl, alloc_at wr _, Below.drew (alloc_belowS wr _)⟩
        case rest =>
          obtain ⟨rfl, hbx, hbc⟩ := hcut
          have hz := (hbc.block w.heap.size (Array.getElem?_eq_some_iff.1 H0.out).1).trans H0.out
          have HBW := Lib.hid (Below.now hb hbc)
          obtain ⟨s0, s1⟩ := sys_cells hbx
          clear hbc H0 p0 p1 c0 c1 f0 f1 hb ho HT HS
          have PW := Lib.hid (fun v W (h : v.size ≤ s.size) => specWordOk_any 4 v W (by unfold maxLen; omega))
          cases h1 : wordOkB 4 x
          · have F := Lib.hid (RetRule.zero (m := s.size) HBW.out)
            obtain ⟨z0, z1⟩ := sys_cells hz
            obtain ⟨u0, u1⟩ := sys_cells (set_two hz (.string ⟨#[]⟩) (.string ⟨#[]⟩))
            have ff0 : wc.frozen? ⟨w.heap.size, 0, none⟩ = false := by simp [World.frozen?, hz]
            have ff1 : wc.frozen? ⟨w.heap.size, 1, none⟩ = false := by simp [World.frozen?, hz]
            clear hz
            go_wp2_with (go_at_call 93; refine (PW.out _ _ (by first | exact hx | exact hy)).mono ?_; rintro e w' ⟨rfl, rfl⟩; (try rw [h1]))
            refine bodyPost_ret (v := .tuple #[.agg #[.string ⟨#[]⟩, .string ⟨#[]⟩], .bool false]) ?_ rfl F.out
            simp [results, Tryz.results62, go_sem, u0, u1]
          · cases h2 : wordOkB 4 y
            · have F := Lib.hid (RetRule.zero (m := s.size) HBW.out)
              obtain ⟨z0, z1⟩ := sys_cells hz
              obtain ⟨u0, u1⟩ := sys_cells (set_two hz (.string ⟨#[]⟩) (.string ⟨#[]⟩))
              have ff0 : wc.frozen? ⟨w.heap.size, 0, none⟩ = false := by simp [World.frozen?, hz]
              have ff1 : wc.frozen? ⟨w.heap.size, 1, none⟩ = false := by simp [World.frozen?, hz]
              clear hz
              go_wp2_with (go_at_call 93; refine (PW.out _ _ (by first | exact hx | exact hy)).mono ?_; rintro e w' ⟨rfl, rfl⟩; (try rw [h1]); (try rw [h2]))
              refine bodyPost_ret (v := .tuple #[.agg #[.string ⟨#[]⟩, .string ⟨#[]⟩], .bool false]) ?_ rfl F.out
              simp [results, Tryz.results62, go_sem, u0, u1]
            · have HFR := Lib.hid (fun W => specFormatRule_any x y W (by unfold maxLen; omega))
              have HZ := Lib.hid hz
              clear hz
              go_wp2_with (go_at_call 93; refine (PW.out _ _ (by first | exact hx | exact hy)).mono ?_; rintro e w' ⟨rfl, rfl⟩; (try rw [h1]); (try rw [h2]))
              refine (HFR.out _).mono ?_
              rintro e w3 ⟨rfl, hb3⟩
              have hz := (hb3.block w.heap.size (Array.getElem?_eq_some_iff.1 HZ.out).1).trans HZ.out
              obtain ⟨s0, s1⟩ := sys_cells ((hb3.block wr.heap.size (Array.getElem?_eq_some_iff.1 hbx).1).trans hbx)
              replace HBW := Lib.hid (Below.now HBW.out hb3)
              clear hb3 hbx HZ HFR PW
              generalize ruleT (x, y) = rt at *
              cases hq : (rt.toList == s.toList)
              · have F := Lib.hid (RetRule.zero (m := s.size) HBW.out)
                obtain ⟨z0, z1⟩ := sys_cells hz
                obtain ⟨u0, u1⟩ := sys_cells (set_two hz (.string ⟨#[]⟩) (.string ⟨#[]⟩))
                have ff0 : w3.frozen? ⟨w.heap.size, 0, none⟩ = false := by simp [World.frozen?, hz]
                have ff1 : w3.frozen? ⟨w.heap.size, 1, none⟩ = false := by simp [World.frozen?, hz]
                clear hz
                go_wp2_with fail
                refine bodyPost_ret (v := .tuple #[.agg #[.string ⟨#[]⟩, .string ⟨#[]⟩], .bool false]) ?_ rfl F.out
                simp [results, Tryz.results62, go_sem, u0, u1]
              · have F : Hid (RetRule s.size w (.returned (.tuple #[.agg #[.string x, .string y], .bool true])) ((w3.setCell ⟨w.heap.size, 0, none⟩ (.string x)).setCell ⟨w.heap.size, 1, none⟩ (.string y))) := Lib.hid ⟨x, y, true, ⟨hx, hy⟩, rfl, (HBW.out.setCell (Nat.le_refl _) _).setCell (Nat.le_refl _) _⟩
                obtain ⟨z0, z1⟩ := sys_cells hz
                obtain ⟨u0, u1⟩ := sys_cells (set_two hz (.string x) (.string y))
                have ff0 : w3.frozen? ⟨w.heap.size, 0, none⟩ = false := by simp [World.frozen?, hz]
                have ff1 : w3.frozen? ⟨w.heap.size, 1, none⟩ = false := by simp [World.frozen?, hz]
                clear hz
                go_wp2_with fail
                refine bodyPost_ret (v := .tuple #[.agg #[.string x, .string y], .bool true]) ?_ rfl F.out
                simp [results, Tryz.results62, go_sem, u0, u1]
  · have h2i : ((l.length : Int) == 2) = false := beq_eq_false_iff_ne.2 (by omega)
    have h2n : ¬ (l.length : Int) = 2 := by omega
    have F := Lib.hid (RetRule.zero (m := s.size) (Below.now HW1.out hb2))
    obtain ⟨z0, z1⟩ := sys_cells hb0
    obtain ⟨u0, u1⟩ := sys_cells (set_two hb0 (.string ⟨#[]⟩) (.string ⟨#[]⟩))
    clear hb2 ho
    go_wp2_with fail
    refine bodyPost_ret (v := .tuple #[.agg #[.string ⟨#[]⟩, .string ⟨#[]⟩], .bool false]) ?_ rfl F.out
    simp [results, Tryz.results62, go_sem, u0, u1]
end Go.Proofs.YtgoeadgpbidgiaaGreat
namespace Go.Proofs.YtgoeadgpbidgiaaGreat
open Go.RowKit
set_option linter.unusedVariables false
/-- rules whose sides have at most m bytes -/
def ShortR (m : Nat) (R : List RulD) : Prop := ∀ r ∈ R, r.1.size ≤ m ∧ r.2.size ≤ m
theorem ShortR.app {m : Nat} {R : List RulD} {r : RulD} (h : ShortR m R) (hr : r.1.size ≤ m ∧ r.2.size ≤ m) : ShortR m (R ++ [r]) := by
  intro x hx
  rcases List.mem_append.1 hx with h1 | h1
  · exact h x h1
  · obtain rfl : x = r := by simpa using h1
    exact hr
theorem ShortR.sz {m : Nat} {R : List RulD} (h : ShortR m R) (hm : m ≤ maxLen) : SzR R := fun j hj => ⟨Nat.le_trans (h _ (nthR_mem hj)).1 hm, Nat.le_trans (h _ (nthR_mem hj)).2 hm⟩
/-- some system in memory -/
def RetPS (m : Nat) (w : World) (e : Ending) (w' : World) : Prop := ∃ (k : Int) (R : List RulD) (a : Option Addr) (cap : Nat) (b : Bool),
  (ShortR m R ∧ R.length ≤ m) ∧ e = .returned (.tuple #[.agg #[.int .i64 k, .slice a R.length cap], .bool b]) ∧ RulesIn w' a R ∧ Below w.heap.size w w'
theorem RetPS.zero {m : Nat} {w wr : World} (h : Below w.heap.size w wr) : RetPS m w (.returned (.tuple #[.agg #[.int .i64 0, .slice none 0 0], .bool false])) ((wr.setCell ⟨w.heap.size, 0, none⟩ (.int .i64 0)).setCell ⟨w.heap.size, 1, none⟩ (.slice none 0 0)) :=
  ⟨0, [], none, 0, false, ⟨fun r hr => by simp at hr, Nat.zero_le _⟩, rfl, .inl rfl, (h.setCell (Nat.le_refl _) _).setCell (Nat.le_refl _) _⟩
set_option maxRecDepth 20000 in
set_option maxHeartbeats 4000000 in
theorem specParseSystem_any (s : ByteArray) (w : World) (hs : s.size ≤ 1000) :
    Calls Tryz.prog 33 #[.string s] w (RetPS (s.size + 1) w) := by
  have HSP := Lib.hid (fun W => specSplitAny_any s 32 W (by omega))
  have HW1 := Lib.hid ((Below.refl w.heap.size w).alloc (Nat.le_refl _) (.cells #[.int .i64 0, .slice none 0 0] 25))
  go_enter Tryz.func33, Tryz.ntmps33
  go_wp2_with fail
  refine (HSP.out _).mono ?_
  rintro e w2 ⟨l, ⟨hl1, hl2, hl3⟩, a, cap, rfl, ho, hb2⟩
  have hb0 := (hb2.block w.heap.size (by simp)).trans (alloc_at w (.cells #[.int .i64 0, .slice none 0 0] 25))
  have hcap := owns_capS ho
  obtain ⟨g, hg, off, rfl, hcells⟩ : ∃ g, g < w2.heap.size ∧ ∃ off, a = some ⟨g, off, none⟩ ∧ ∀ j, j < l.length → w2.cell? ⟨g, off + j, none⟩ = some (.string (nthS l j)) := by
    obtain ⟨b, off, ha, hb, hc⟩ := (owns_strs ho).cell (show 0 < l.length by omega)
    exact ⟨b, hb, off, ha, hc⟩
  have hc0 : w2.cell? ⟨g, off, none⟩ = some (.string (nthS l 0)) := hcells 0 (by omega)
  have hz0 := hl1.at_ (show 0 < l.length by omega)
  have HPI := Lib.hid (fun W => specParseInt_any (nthS l 0) W (by omega))
  have HB2 := Lib.hid (Below.now HW1.out hb2)
  have HC := Lib.hid hcells
  have HO := Lib.hid hb0
  clear hcells hb2 ho hz0 hb0
  generalize nthS l 0 = s0 at *
  go_wp2_with fail
  refine (HPI.out _).mono ?_
  rintro e w3 ⟨n, b, ⟨hn1, hn2⟩, rfl, hb3⟩
  have hb0 := (hb3.block w.heap.size (Array.getElem?_eq_some_iff.1 HO.out).1).trans HO.out
  have HB3 := Lib.hid (Below.now HB2.out hb3)
  have HC3 : Hid (∀ j, j < l.length → w3.cell? ⟨g, off + j, none⟩ = some (.string (nthS l j))) := Lib.hid (fun j hj => by rw [hb3.cell (World.block_lt_of_cell? w2 _ (HC.out j hj))]; exact HC.out j hj)
  clear hb3 HC HO HPI hc0
  cases b
  · have F := Lib.hid (RetPS.zero (m := s.size + 1) HB3.out)
    obtain ⟨z0, z1⟩ := sys_cells hb0
    obtain ⟨u0, u1⟩ := sys_cells (set_two hb0 (.int .i64 0) (.slice none 0 0))
    have ff0 : w3.frozen? ⟨w.heap.size, 0, none⟩ = false := by simp [World.frozen?, hb0]
    have ff1 : w3.frozen? ⟨w.heap.size, 1, none⟩ = false := by simp [World.frozen?, hb0]
    clear hb0
    go_wp2_with fail
    refine bodyPost_ret (v := .tuple #[.agg #[.int .i64 0, .slice none 0 0], .bool false]) ?_ rfl F.out
    simp [results, Tryz.results33, go_sem, u0, u1]
  · have HR := Lib.hid (Rec2.start 25 67 2 (w := w3) (w1 := w3) (Below.refl _ _) (.int .i64 n))
    obtain ⟨m, hm⟩ : ∃ m, l.length = m + 1 := ⟨l.length - 1, by omega⟩
    have HZ := Lib.hid hb0
    clear hb0
    go_upto_region 6 with fail
    generalize hW4 : w3.alloc (.cells #[.int .i64 n, .slice none 0 0] 25) = w4 at *
    go_cut [27, 28, 29] (fun v u i wx => ∃ off2 cap2, v = .slice (some ⟨g, off2, none⟩) m cap2 ∧ u = .int .i64 (m : Nat) ∧ i = .int .i64 0 ∧ (∀ j, j < m → w3.cell? ⟨g, off2 + j, none⟩ = some (.string (nthS l (j + 1)))) ∧ wx = w4)
    case first =>
      by_cases hc1 : cap = 1
      · subst hc1
        obtain rfl : m = 0 := by omega
        go_wp2_with fail
        go_meet
        exact ⟨_, _, rfl, rfl, rfl, fun j hj => by omega, rfl⟩
      · have hc2 : (1 : Int) < (cap : Int) := by omega
        have hc3 : ¬ (cap : Int) = 1 := by omega
        have HCC : Hid (∀ j, j < m → w3.cell? ⟨g, off + 1 + j, none⟩ = some (.string (nthS l (j + 1)))) := Lib.hid (fun j hj => by rw [show off + 1 + j = off + (j + 1) by omega]; exact HC3.out (j + 1) (by omega))
        go_wp2_with fail
        go_meet
        exact ⟨_, _, rfl, rfl, rfl, HCC.out, rfl⟩
    case rest =>
      obtain ⟨off2, cap2, rfl, rfl, rfl, hcs, rfl⟩ := hcut
      have HCS := Lib.hid hcs
      clear hcs HC3 hW4
      go_wp2_with fail
      go_loopw [29] (fun i wr => ∃ (R : List RulD) (v : Value), R.length ≤ m ∧ i = .int .i64 (R.length : Nat) ∧ Hid (ShortR s.size R) ∧ Hid (Rec2 25 67 2 w3 wr w3.heap.size (.int .i64 n) v R.length (ruleCells R))) (fun i _ => m - (intOf i).toNat)
      case atStart => exact ⟨[], .slice none 0 0, Nat.zero_le _, rfl, Lib.hid (fun r hr => by simp at hr), HR⟩
      case round =>
        clear HR
        obtain ⟨R, v, hj, rfl, hsh, HRC⟩ := hrel
        obtain ⟨a3, c3, rfl⟩ := owns_form HRC.out.own
        have HBW := Lib.hid (Below.now HB3.out HRC.out.below)
        have hz := (HRC.out.below.block w.heap.size (Array.getElem?_eq_some_iff.1 HZ.out).1).trans HZ.out
        have hsz := HRC.out.lt
        by_cases hlt : R.length < m
        · have cw : wr.cell? ⟨g, off2 + R.length, none⟩ = some (.string (nthS l (R.length + 1))) := by rw [HRC.out.below.cell (World.block_lt_of_cell? w3 _ (HCS.out R.length hlt))]; exact HCS.out R.length hlt
          have hnz := hl1.at_ (show R.length + 1 < l.length by omega)
          have HPR := Lib.hid (fun W => specParseRule_any (nthS l (R.length + 1)) W (by omega))
          generalize nthS l (R.length + 1) = sj at *
          have HZW := Lib.hid hz
          clear hz
          go_wp2_with fail
          refine (HPR.out _).mono ?_
          rintro e w5 ⟨x, y, b, ⟨hx, hy⟩, rfl, hb5⟩
          have HR5 := Lib.hid (HRC.out.later hb5)
          have HB5 := Lib.hid (Below.now HBW.out hb5)
          have hz5 := (hb5.block w.heap.size (Array.getElem?_eq_some_iff.1 HZW.out).1).trans HZW.out
          have HK6 := Lib.hid (fun o => alloc_belowS w5 o)
          have hz := ((HK6.out (.cells #[.string x, .string y] 67)).block w.heap.size (Array.getElem?_eq_some_iff.1 hz5).1).trans hz5
          have HR6 := Lib.hid (HR5.out.later (HK6.out (.cells #[.string x, .string y] 67)))
          replace HBW := Lib.hid (Below.now HB5.out (HK6.out (.cells #[.string x, .string y] 67)))
          obtain ⟨n0, n1⟩ := sys_cells (alloc_at w5 (.cells #[.string x, .string y] 67))
          clear HRC HZW cw hb5 HR5 HB5 hz5 HK6 HPR
          go_upto_region 10 with fail
          generalize w5.alloc (.cells #[.string x, .string y] 67) = w6 at *
          cases b
          · have F := Lib.hid (RetPS.zero (m := s.size + 1) HBW.out)
            obtain ⟨z0, z1⟩ := sys_cells hz
            obtain ⟨u0, u1⟩ := sys_cells (set_two hz (.int .i64 0) (.slice none 0 0))
            have ff0 : w6.frozen? ⟨w.heap.size, 0, none⟩ = false := by simp [World.frozen?, hz]
            have ff1 : w6.frozen? ⟨w.heap.size, 1, none⟩ = false := by simp [World.frozen?, hz]
            clear hz
            go_wp2_with fail
            refine bodyPost_ret (v := .tuple #[.agg #[.int .i64 0, .slice none 0 0], .bool false]) ?_ rfl F.out
            simp [results, Tryz.results33, go_sem, u0, u1]
          · have HN1 : Hid ([Value.string x, .string y].length = 1 * 2) := Lib.hid rfl
            have HN2 : Hid (∀ v ∈ [Value.string x, .string y], v.oneCell' = true) := Lib.hid (fun v hv => by simp at hv; rcases hv with rfl | rfl <;> rfl)
            obtain ⟨_, y1, _, y3⟩ := HR6.out.facts
            clear hz
            go_wp2_with (at_builtin; refine wpList_appH (n := R.length) (wr := w6) (news := [Value.string x, .string y]) rfl (.tmp 42) (.tmp 44) rfl Tryz.underlying23 Tryz.infoRule rfl (by decide) rfl HR6.out.own HR6.out.lt rfl HN1.out HN2.out (by unfold maxLen; omega) (by omega) ?_; intro g4 c4 w4 ho4 hg4 hr4; obtain ⟨_, x1, _, x3⟩ := rec_cells (HR6.out.grown (Below.refl _ _) hg4))
            have HR4 : Hid (Rec2 25 67 2 w3 (w4.setCell ⟨w3.heap.size, 1, none⟩ (.slice (some ⟨g4, 0, none⟩) (R.length + 1) c4)) w3.heap.size (.int .i64 n) (.slice (some ⟨g4, 0, none⟩) (R.length + 1) c4) (R ++ [(x, y)]).length (ruleCells (R ++ [(x, y)]))) := Lib.hid (by
              rw [List.length_append, ruleCells_app, show ruleCells [(x, y)] = [Value.string x, .string y] from rfl]; exact HR6.out.put (Below.refl _ _) hg4 ho4)
            have HSH := Lib.hid (hsh.out.app (r := (x, y)) ⟨by show x.size ≤ s.size; omega, by show y.size ≤ s.size; omega⟩)
            clear ho4 hg4 hr4 y1 y3 n0 n1 x1 x3
            go_wp2_with fail
            go_roundw
            case rel => exact ⟨R ++ [(x, y)], _, by simp; omega, by simp, HSH, HR4⟩
            case measure => simp [intOf]; omega
        · obtain rfl : m = R.length := by omega
          have HRO := Lib.hid (fun W h => specRulesOk_any n R a3 c3 W h (by omega) (hsh.out.sz (by unfold maxLen; omega)))
          have HFS := Lib.hid (fun W h => specFormatSystem_any n R a3 c3 W h (by omega) (hsh.out.sz (by unfold maxLen; omega)))
          have HRI := Lib.hid (owns_rules HRC.out.own)
          obtain ⟨y0, y1, _, _⟩ := HRC.out.facts
          have HZW := Lib.hid hz
          clear hz
          go_wp2_with fail
          refine (HRO.out _ HRI.out).mono ?_
          rintro e w5 ⟨bb, hbb, rfl, hb5⟩
          have HR5 := Lib.hid (HRC.out.later hb5)
          replace HBW := Lib.hid (Below.now HBW.out hb5)
          have hz := (hb5.block w.heap.size (Array.getElem?_eq_some_iff.1 HZW.out).1).trans HZW.out
          clear HRC HZW hb5 HRO hbb y0 y1 HRI
          cases bb
          · have F := Lib.hid (RetPS.zero (m := s.size + 1) HBW.out)
            obtain ⟨z0, z1⟩ := sys_cells hz
            obtain ⟨u0, u1⟩ := sys_cells (set_two hz (.int .i64 0) (.slice none 0 0))
            have ff0 : w5.frozen? ⟨w.heap.size, 0, none⟩ = false := by simp [World.frozen?, hz]
            have ff1 : w5.frozen? ⟨w.heap.size, 1, none⟩ = false := by simp [World.frozen?, hz]
            clear hz
            go_wp2_with fail
            refine bodyPost_ret (v := .tuple #[.agg #[.int .i64 0, .slice none 0 0], .bool false]) ?_ rfl F.out
            simp [results, Tryz.results33, go_sem, u0, u1]
          · have HRI := Lib.hid (owns_rules HR5.out.own)
            obtain ⟨y0, y1, _, _⟩ := HR5.out.facts
            have HZW := Lib.hid hz
            clear hz
            go_wp2_with fail
            refine (HFS.out _ HRI.out).mono ?_
            rintro e w6 ⟨rfl, hb6⟩
            have HR6 := Lib.hid (HR5.out.later hb6)
            replace HBW := Lib.hid (Below.now HBW.out hb6)
            have hz := (hb6.block w.heap.size (Array.getElem?_eq_some_iff.1 HZW.out).1).trans HZW.out
            clear HR5 HZW hb6 HFS y0 y1 HRI
            generalize sysT0 n R = st at *
            cases hq : (st.toList == s.toList)
            · have F := Lib.hid (RetPS.zero (m := s.size + 1) HBW.out)
              obtain ⟨z0, z1⟩ := sys_cells hz
              obtain ⟨u0, u1⟩ := sys_cells (set_two hz (.int .i64 0) (.slice none 0 0))
              have ff0 : w6.frozen? ⟨w.heap.size, 0, none⟩ = false := by simp [World.frozen?, hz]
              have ff1 : w6.frozen? ⟨w.heap.size, 1, none⟩ = false := by simp [World.frozen?, hz]
              clear hz
              go_wp2_with fail
              refine bodyPost_ret (v := .tuple #[.agg #[.int .i64 0, .slice none 0 0], .bool false]) ?_ rfl F.out
              simp [results, Tryz.results33, go_sem, u0, u1]
            · have F : Hid (RetPS (s.size + 1) w (.returned (.tuple #[.agg #[.int .i64 n, .slice a3 R.length c3], .bool true])) ((w6.setCell ⟨w.heap.size, 0, none⟩ (.int .i64 n)).setCell ⟨w.heap.size, 1, none⟩ (.slice a3 R.length c3))) := Lib.hid ⟨n, R, a3, c3, true, ⟨fun r hr => ⟨Nat.le_trans (hsh.out r hr).1 (by omega), Nat.le_trans (hsh.out r hr).2 (by omega)⟩, by omega⟩, rfl,
                owns_rules (ownsRow_setCell_below (ownsRow_setCell_below HR6.out.own (by show w.heap.size < w3.heap.size + 1; have := HB3.out.size; omega) _) (by show w.heap.size < w3.heap.size + 1; have := HB3.out.size; omega) _), (HBW.out.setCell (Nat.le_refl _) _).setCell (Nat.le_refl _) _⟩
              obtain ⟨y0, y1, _, _⟩ := HR6.out.facts
              obtain ⟨z0, z1⟩ := sys_cells hz
              obtain ⟨u0, u1⟩ := sys_cells (set_two hz (.int .i64 n) (.slice a3 R.length c3))
              have ff0 : w6.frozen? ⟨w.heap.size, 0, none⟩ = false := by simp [World.frozen?, hz]
              have ff1 : w6.frozen? ⟨w.heap.size, 1, none⟩ = false := by simp [World.frozen?, hz]
              clear hz
              go_wp2_with fail
              refine bodyPost_ret (v := .tuple #[.agg #[.int .i64 n, .slice a3 R.length c3], .bool true]) ?_ rfl F.out
              simp [results, Tryz.results33, go_sem, u0, u1]
end Go.Proofs.YtgoeadgpbidgiaaGreat
