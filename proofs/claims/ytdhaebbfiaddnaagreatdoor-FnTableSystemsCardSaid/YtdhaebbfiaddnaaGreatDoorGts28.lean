/-
  apply, normal and NormalForm of the program.
-/
import Derived.Test.YtdhaebbfiaddnaaGreatDoorGts27
import Derived.Deep.DeepCutAuto
import Derived.Test.YtdhaebbfiaddnaaGreatDoorGts17
namespace Go.Proofs.YtdhaebbfiaddnaaGreatDoor
open Go.RowKit
set_option linter.unusedVariables false
def digP (s : ByteArray) : Prop := ∀ j (h : j < s.size), 48 ≤ ((s[j]'h).toNat : Int) ∧ ((s[j]'h).toNat : Int) ≤ 57
def RetDig (s : ByteArray) (w : World) (e : Ending) (w' : World) : Prop := ∃ b : Bool, (b = true → digP s) ∧ e = .returned (.bool b) ∧ w = w'
set_option maxHeartbeats 1000000 in
theorem specIsDigits_any (s : ByteArray) (w : World) (hs : s.size ≤ maxLen) :
    Calls Tryz.prog 128 #[.string s] w (RetDig s w) := by
  unfold maxLen at hs
  go_enter Tryz.func128, Tryz.ntmps128
  go_wp2_with fail
  go_loop [3] (fun i => ∃ j : Nat, j ≤ s.size ∧ i = .int .i64 j ∧ Hid (∀ j' (h : j' < s.size), j' < j → 48 ≤ ((s[j']'h).toNat : Int) ∧ ((s[j']'h).toNat : Int) ≤ 57)) (fun i => s.size - (intOf i).toNat)
  case atStart => exact ⟨0, Nat.zero_le _, rfl, Lib.hid (fun j' h h2 => absurd h2 (Nat.not_lt_zero _))⟩
  case round =>
    obtain ⟨j, hj, rfl, HA⟩ := hrel
    by_cases hlt : j < s.size
    · have hb := byte_lt s[j]
      by_cases h1 : (s[j].toNat : Int) < 48
      · go_wp2
        go_ret
        exact ⟨false, fun h => Bool.noConfusion h, rfl, rfl⟩
      · by_cases h2 : 57 < (s[j].toNat : Int)
        · go_wp2
          go_ret
          exact ⟨false, fun h => Bool.noConfusion h, rfl, rfl⟩
        · have HN : Hid (∀ j' (h : j' < s.size), j' < j + 1 → 48 ≤ ((s[j']'h).toNat : Int) ∧ ((s[j']'h).toNat : Int) ≤ 57) := Lib.hid (fun j' h hj' => by
            by_cases e : j' = j
            · subst e; omega
            · exact HA.out j' h (by omega))
          go_wp2
          go_round
          case rel => exact ⟨j + 1, by omega, by go_num, HN⟩
          case measure => simp [intOf]; omega
    · obtain rfl : j = s.size := by omega
      have HD : Hid (digP s) := Lib.hid (fun j h => HA.out j h h)
      go_wp2
      go_ret
      exact ⟨_, fun _ => HD.out, rfl, rfl⟩
def RetNum (w : World) (e : Ending) (w' : World) : Prop := ∃ (n : Int) (b : Bool), (-9223372036854775808 ≤ n ∧ n ≤ 9223372036854775807) ∧ e = .returned (.tuple #[.int .i64 n, .bool b]) ∧ Below w.heap.size w w'
theorem tdiv_ge {m c : Int} (h0 : 0 ≤ c) (h9 : c ≤ 9) (h : ¬ m < (-9223372036854775808 + c).tdiv 10) : -9223372036854775808 + c ≤ m * 10 := by
  rw [show -9223372036854775808 + c = -(9223372036854775808 - c) by omega, Int.neg_tdiv, Int.tdiv_eq_ediv_of_nonneg (by omega)] at h
  omega
theorem retN {w wr : World} {a : Act} {n : Int} {b : Bool} {fn : Func} (h1 : -9223372036854775808 ≤ n) (h2 : n ≤ 9223372036854775807) (hd : a.defers = []) (hv : (results fn a.tmps).run Tryz.prog wr = .ok (.tuple #[.int .i64 n, .bool b]) wr) (hb : Below w.heap.size w wr) : bodyPost Tryz.prog fn (RetNum w) Exit.ret a wr :=
  bodyPost_ret (v := .tuple #[.int .i64 n, .bool b]) hv hd ⟨n, b, ⟨h1, h2⟩, rfl, hb⟩
theorem ret0 {w wr : World} {a : Act} {fn : Func} (hd : a.defers = []) (hv : (results fn a.tmps).run Tryz.prog wr = .ok (.tuple #[.int .i64 0, .bool false]) wr) (hb : Below w.heap.size w wr) : bodyPost Tryz.prog fn (RetNum w) Exit.ret a wr := retN (by omega) (by omega) hd hv hb
set_option maxRecDepth 20000 in
set_option maxHeartbeats 4000000 in
theorem specParseInt_any (s : ByteArray) (w : World) (hs : s.size ≤ 2 ^ 20) :
    Calls Tryz.prog 95 #[.string s] w (RetNum w) := by
  have HD := Lib.hid (fun t W (h : t.size ≤ s.size) => specIsDigits_any t W (by unfold maxLen; omega))
  have HF := Lib.hid (fun n W h1 h2 => specFormatInt_any n W h1 h2)
  go_enter Tryz.func95, Tryz.ntmps95
  go_upto_region 1 with fail
  go_cut [4] (fun v wx => ∃ b : Bool, v = .bool b ∧ (b = true → 0 < s.size) ∧ wx = w)
  case first =>
    by_cases h0 : 0 < s.size
    · go_wp2_with fail
      go_meet
      exact ⟨_, rfl, fun _ => h0, rfl⟩
    · go_wp2_with fail
      go_meet
      exact ⟨_, rfl, fun h => Bool.noConfusion h, rfl⟩
  case rest =>
    obtain ⟨b, rfl, hb0, rfl⟩ := hcut
    cases b
    · have HTS : Hid (s.size ≤ s.size) := Lib.hid (Nat.le_refl _)
      go_wp2_with fail
      refine (HD.out _ _ HTS.out).mono ?_
      rintro e w2 ⟨bb, hbb, rfl, rfl⟩
      have hts := HTS.out
      cases bb
      · go_wp2_with fail
        exact ret0 rfl (by simp [results, Tryz.results95, go_sem]) (Below.refl _ _)
      · have HDP := Lib.hid (hbb rfl)
        by_cases h19 : 19 < s.size
        · go_wp2_with fail
          exact ret0 rfl (by simp [results, Tryz.results95, go_sem]) (Below.refl _ _)
        · go_wp2_with fail
          go_loop [6, 7] (fun n i => ∃ (j : Nat) (m : Int), j ≤ s.size ∧ i = .int .i64 (j : Nat) ∧ n = .int .i64 m ∧ -9223372036854775808 ≤ m ∧ m ≤ 0) (fun _ i => s.size - (intOf i).toNat)
          case atStart => exact ⟨0, 0, Nat.zero_le _, rfl, rfl, by omega, by omega⟩
          case round =>
            obtain ⟨j, m, hj, rfl, rfl, hm1, hm2⟩ := hrel
            by_cases hlt : j < s.size
            · obtain ⟨d1, d2⟩ := HDP.out j hlt
              have hbt := byte_lt s[j]
              by_cases hq : m < (-9223372036854775808 + (((s[j]'hlt).toNat : Int) - 48)).tdiv 10
              · go_wp2_with fail
                exact ret0 rfl (by simp [results, Tryz.results95, go_sem]) (Below.refl _ _)
              · have hge := tdiv_ge (c := ((s[j]'hlt).toNat : Int) - 48) (by omega) (by omega) hq
                have hr1 : -9223372036854775808 ≤ m * 10 - (((s[j]'hlt).toNat : Int) - 48) := by omega
                have hr2 : m * 10 - (((s[j]'hlt).toNat : Int) - 48) ≤ 0 := by omega
                have hq2 : decide (m < (-9223372036854775808 + (((s[j]'hlt).toNat : Int) - 48)).tdiv 10) = false := decide_eq_false hq
                clear hge
                go_wp2_with fail
                go_round
                case rel => exact ⟨j + 1, _, by omega, by go_num, rfl, hr1, hr2⟩
                case measure => simp [intOf]; omega
            · obtain rfl : j = s.size := by omega
              by_cases hm : m = -9223372036854775808
              · go_wp2_with fail
                exact ret0 rfl (by simp [results, Tryz.results95, go_sem]) (Below.refl _ _)
              · have hm2 : (m == -9223372036854775808) = false := beq_eq_false_iff_ne.2 hm
                go_wp2_with fail
                refine (HF.out (-m) _ (by omega) (by omega)).mono ?_
                rintro e w3 ⟨rfl, hb3⟩
                have HB3 := Lib.hid hb3
                clear hb3
                generalize (⟨(Lib.itoa (-m)).toArray⟩ : ByteArray) = fs at *
                cases hq : (fs.toList == s.toList)
                · go_wp2_with fail
                  exact ret0 rfl (by simp [results, Tryz.results95, go_sem]) HB3.out
                · go_wp2_with fail
                  exact retN (n := -m) (b := true) (by omega) (by omega) rfl (by simp [results, Tryz.results95, go_sem]) HB3.out
    · have h0 := hb0 rfl
      have HTS : Hid ((s.extract 1 s.size).size ≤ s.size) := Lib.hid (by rw [ByteArray.size_extract]; omega)
      go_wp2_with fail
      refine (HD.out _ _ HTS.out).mono ?_
      rintro e w2 ⟨bb, hbb, rfl, rfl⟩
      generalize s.extract 1 s.size = t at *
      have hts := HTS.out
      cases bb
      · go_wp2_with fail
        exact ret0 rfl (by simp [results, Tryz.results95, go_sem]) (Below.refl _ _)
      · have HDP := Lib.hid (hbb rfl)
        by_cases h19 : 19 < t.size
        · go_wp2_with fail
          exact ret0 rfl (by simp [results, Tryz.results95, go_sem]) (Below.refl _ _)
        · go_wp2_with fail
          go_loop [6, 7] (fun n i => ∃ (j : Nat) (m : Int), j ≤ t.size ∧ i = .int .i64 (j : Nat) ∧ n = .int .i64 m ∧ -9223372036854775808 ≤ m ∧ m ≤ 0) (fun _ i => t.size - (intOf i).toNat)
          case atStart => exact ⟨0, 0, Nat.zero_le _, rfl, rfl, by omega, by omega⟩
          case round =>
            obtain ⟨j, m, hj, rfl, rfl, hm1, hm2⟩ := hrel
            by_cases hlt : j < t.size
            · obtain ⟨d1, d2⟩ := HDP.out j hlt
              have hbt := byte_lt t[j]
              by_cases hq : m < (-9223372036854775808 + (((t[j]'hlt).toNat : Int) - 48)).tdiv 10
              · go_wp2_with fail
                exact ret0 rfl (by simp [results, Tryz.results95, go_sem]) (Below.refl _ _)
              · have hge := tdiv_ge (c := ((t[j]'hlt).toNat : Int) - 48) (by omega) (by omega) hq
                have hr1 : -9223372036854775808 ≤ m * 10 - (((t[j]'hlt).toNat : Int) - 48) := by omega
                have hr2 : m * 10 - (((t[j]'hlt).toNat : Int) - 48) ≤ 0 := by omega
                have hq2 : decide (m < (-9223372036854775808 + (((t[j]'hlt).toNat : Int) - 48)).tdiv 10) = false := decide_eq_false hq
                clear hge
                go_wp2_with fail
                go_round
                case rel => exact ⟨j + 1, _, by omega, by go_num, rfl, hr1, hr2⟩
                case measure => simp [intOf]; omega
            · obtain rfl : j = t.size := by omega
              go_wp2_with fail
              refine (HF.out m _ (by omega) (by omega)).mono ?_
              rintro e w3 ⟨rfl, hb3⟩
              have HB3 := Lib.hid hb3
              clear hb3
              generalize (⟨(Lib.itoa m).toArray⟩ : ByteArray) = fs at *
              cases hq : (fs.toList == s.toList)
              · go_wp2_with fail
                exact ret0 rfl (by simp [results, Tryz.results95, go_sem]) HB3.out
              · go_wp2_with fail
                exact retN (n := m) (b := true) (by omega) (by omega) rfl (by simp [results, Tryz.results95, go_sem]) HB3.out
end Go.Proofs.YtdhaebbfiaddnaaGreatDoor
namespace Go.Proofs.YtdhaebbfiaddnaaGreatDoor
open Go.RowKit
set_option linter.unusedVariables false
set_option maxRecDepth 100000 in
set_option maxHeartbeats 2000000 in
theorem implSteps_any (k : Int) (R : List RulD) (a : Option Addr) (cap : Nat) (w0 : ByteArray) (w : World) (hl : RulesIn w a R) (hs : sysP k R) (hw : w0.size ≤ 16) :
    Calls Tryz.prog 103 #[.agg #[.int .i64 k, .slice a R.length cap], .string w0] w (RetSl 30 2 (stepsF R w0).length (cellsL stV (stepsF R w0)) w) := by
  have h12 : R.length ≤ 12 := hs.1.1.2
  have hz : SzR R := fun j hj => by have := (hs.1.2 _ (nthR_mem hj)).1.2; unfold maxLen; omega
  have h8 := left8 hs
  have HPOS : Hid (∀ r, r < R.length → 0 < (nthR R r).1.size) := Lib.hid (fun r hr => by have := (hs.1.2 _ (nthR_mem hr)).2; omega)
  have HL := Lib.hid hl
  have HA := Lib.hid (fun o => alloc_belowS w o)
  have HBX : Hid (∀ W2, Below (w.alloc (.cells #[.int .i64 k, .slice a R.length cap] 25)).heap.size (w.alloc (.cells #[.int .i64 k, .slice a R.length cap] 25)) W2 → W2.cell? ⟨w.heap.size, 0, none⟩ = some (.int .i64 k) ∧ W2.cell? ⟨w.heap.size, 1, none⟩ = some (.slice a R.length cap)) := Lib.hid (fun W2 h => box_two h)
  clear hl hs hz
  go_enter Tryz.func103, Tryz.ntmps103
  go_wp2_with fail
  have HW1 : Hid (Below w.heap.size w (w.alloc (.cells #[.int .i64 k, .slice a R.length cap] 25))) := Lib.hid (HA.out _)
  have HL1 := Lib.hid (HL.out.later HW1.out)
  have HBX1 := HBX
  generalize w.alloc (.cells #[.int .i64 k, .slice a R.length cap] 25) = w1 at *
  have HB0 : Hid (Bld 30 2 w1 w1 (.slice none 0 0) (stTo R w0 0 0).length (cellsL stV (stTo R w0 0 0))) := Lib.hid (Bld.nil 30 2 (Below.refl _ _))
  clear HBX
  go_loopw [5, 11] (fun vo vi wr => ∃ i : Nat, i ≤ w0.size ∧ vi = .int .i64 (i : Nat) ∧ Bld 30 2 w1 wr vo (stTo R w0 i 0).length (cellsL stV (stTo R w0 i 0))) (fun _ vi _ => w0.size - (intOf vi).toNat)
  case atStart => exact ⟨0, Nat.zero_le _, rfl, HB0.out⟩
  case round =>
    clear HB0
    obtain ⟨i, hi, rfl, hbd⟩ := hrel
    obtain ⟨ao, co, rfl⟩ := owns_form hbd.1
    have HB := Lib.hid hbd
    obtain ⟨s0, s1⟩ := HBX1.out wr hbd.2
    clear hbd
    by_cases hlt : i < w0.size
    · have HXT := Lib.hid (stTo_next R w0 i)
      go_wp2_with fail
      generalize hW : wr = wr0 at *
      clear hW s0 s1
      go_loopw [5, 17] (fun vo vr wr => ∃ r : Nat, r ≤ R.length ∧ vr = .int .i64 (r : Nat) ∧ Bld 30 2 w1 wr vo (stTo R w0 i r).length (cellsL stV (stTo R w0 i r))) (fun _ vr _ => R.length - (intOf vr).toNat)
      case atStart => exact ⟨0, Nat.zero_le _, rfl, HB.out⟩
      case round =>
        clear HB
        obtain ⟨r, hr, rfl, hbd⟩ := hrel
        obtain ⟨a2, c2, rfl⟩ := owns_form hbd.1
        have HB := Lib.hid hbd
        have hsl := stTo_len R w0 i r
        have hil : i * R.length ≤ 16 * 12 := Nat.mul_le_mul (by omega) h12
        by_cases hlr : r < R.length
        · obtain ⟨b, off, rfl, hb, k0, k1⟩ := rule_at HL1.out hbd.2 hlr
          have hl8 := h8 r
          have hpos := HPOS.out r hlr
          have HY := Lib.hid (fun h => stTo_yes (R := R) (w := w0) (i := i) (k := r) h)
          have HN := Lib.hid (fun h => stTo_no (R := R) (w := w0) (i := i) (k := r) h)
          have HHP := Lib.hid (fun W => Tryz.strings_HasPrefix (w0.extract i w0.size) (nthR R r).1 W)
          rw [preAt_hp] at HHP
          have x3 : (i : Int) ≤ (w0.size : Int) := by omega
          have x4 : i ≤ w0.size := by omega
          clear hbd
          generalize (nthR R r).1 = l at *
          generalize (nthR R r).2 = q at *
          go_wp2_with fail
          have HB5 := Lib.hid (HB.out.later (alloc_belowS wr (.cells #[.string l, .string q] 36)))
          have hcb := alloc_at wr (.cells #[.string l, .string q] 36)
          have hc0 := (sys_cells hcb).1
          have HCB := Lib.hid hcb
          clear k0 k1 hcb
          generalize hg : wr.heap.size = g at *
          generalize wr.alloc (.cells #[.string l, .string q] 36) = w5 at *
          cases hp : preAt w0 i l
          · have HNX := Lib.hid (HN.out hp)
            rw [hp] at HHP
            clear hp HY HN
            generalize hX : stTo R w0 i r = X at *
            clear hX
            go_quiet ((go_at_call 101; refine (HHP.out _).mono ?_; rintro e w' ⟨rfl, rfl⟩; exact ⟨rfl, ⟨_, rfl⟩⟩))
            have HB6 := Lib.hid (HB5.out.later (below_drewN (Below.refl _ _) nq))
            go_wp2_with fail
            go_roundw
            case rel => exact ⟨r + 1, by omega, by go_num, by rw [HNX.out]; exact HB6.out⟩
            case measure => simp [intOf]; omega
          · have HNX := Lib.hid (HY.out hp)
            rw [hp] at HHP
            clear hp HY HN
            generalize hX : stTo R w0 i r = X at *
            clear hX
            go_quiet ((go_at_call 101; refine (HHP.out _).mono ?_; rintro e w' ⟨rfl, rfl⟩; exact ⟨rfl, ⟨_, rfl⟩⟩))
            have HB6 := Lib.hid (HB5.out.later (below_drewN (Below.refl _ _) nq))
            go_wp2_with (at_builtin; refine wpList_app1 rfl _ _ rfl Tryz.underlying54 Tryz.infoStep2 rfl (by decide) rfl HB6.out rfl ?c1 ?c2 ?c3 ?c4 ?c5)
            case c2 => intro u hu; simp at hu; rcases hu with rfl | rfl <;> rfl
            case c3 => unfold maxLen; omega
            case c4 => omega
            case c1 => rfl
            intro v4 w4 hb4
            have HB4 : Hid (Bld 30 2 w1 w4 v4 (stTo R w0 i (r + 1)).length (cellsL stV (stTo R w0 i (r + 1)))) := Lib.hid (by
              rw [HNX.out, List.length_append, cells_stV]; exact hb4)
            obtain ⟨a4, c4, hv4⟩ := owns_form HB4.out.1
            subst hv4
            clear hb4
            go_wp2_with fail
            go_roundw
            case rel => exact ⟨r + 1, by omega, by go_num, HB4.out⟩
            case measure => simp [intOf]; omega
        · obtain rfl : r = R.length := by omega
          have HB2 : Hid (Bld 30 2 w1 wr (.slice a2 (stTo R w0 i R.length).length c2) (stTo R w0 (i + 1) 0).length (cellsL stV (stTo R w0 (i + 1) 0))) := Lib.hid (by rw [← HXT.out]; exact HB.out)
          clear hbd
          go_wp2_with fail
          go_roundw
          case rel => exact ⟨i + 1, by omega, by go_num, HB2.out⟩
          case measure => simp [intOf]; omega
    · obtain rfl : i = w0.size := by omega
      have F : Hid (RetSl 30 2 (stepsF R w0).length (cellsL stV (stepsF R w0)) w (.returned (.slice ao (stTo R w0 w0.size 0).length co)) wr) := Lib.hid (by
        rw [stTo_done] at HB ⊢
        exact ((HB.out.since HW1.out).ret))
      go_wp2_with fail
      go_ret
      exact F.out
end Go.Proofs.YtdhaebbfiaddnaaGreatDoor
namespace Go.Proofs.YtdhaebbfiaddnaaGreatDoor
open Go.RowKit
set_option linter.unusedVariables false
theorem stTo_none {R : List RulD} {w : ByteArray} {i k : Nat} (h0 : stTo R w i k = []) (h : preAt w i (nthR R k).1 = false) : stTo R w i (k + 1) = [] := by rw [stTo_no h, h0]
set_option maxRecDepth 100000 in
set_option maxHeartbeats 2000000 in
theorem implFirstStep_any (k : Int) (R : List RulD) (a : Option Addr) (cap : Nat) (w0 : ByteArray) (w : World) (hl : RulesIn w a R) (hs : sysP k R) (hw : w0.size ≤ 16) :
    Calls Tryz.prog 74 #[.agg #[.int .i64 k, .slice a R.length cap], .string w0] w (RetFS R w0 w) := by
  have h12 : R.length ≤ 12 := hs.1.1.2
  have h8 := left8 hs
  have HL := Lib.hid hl
  have HA2 := Lib.hid (fun o o2 => Below.now (alloc_belowS w o) (alloc_belowS (w.alloc o) o2))
  have e1 : (w.alloc (.cells #[.int .i64 k, .slice a R.length cap] 25)).heap.size = w.heap.size + 1 := by simp
  have HBX := Lib.hid (fun W2 (h : Below ((w.alloc (.cells #[.int .i64 k, .slice a R.length cap] 25)).alloc (.cells #[.int .i64 0, .int .i64 0] 30)).heap.size ((w.alloc (.cells #[.int .i64 k, .slice a R.length cap] 25)).alloc (.cells #[.int .i64 0, .int .i64 0] 30)) W2) => And.intro (box_two (Below.now (alloc_belowS (w.alloc (.cells #[.int .i64 k, .slice a R.length cap] 25)) _) h)) (box_facts h))
  rw [e1] at HBX
  have HW1 : Hid (Below w.heap.size w ((w.alloc (.cells #[.int .i64 k, .slice a R.length cap] 25)).alloc (.cells #[.int .i64 0, .int .i64 0] 30))) := Lib.hid (HA2.out _ _)
  have HL1 := Lib.hid (HL.out.later HW1.out)
  clear hl hs e1
  go_enter Tryz.func74, Tryz.ntmps74
  go_wp2_with fail
  generalize (w.alloc (.cells #[.int .i64 k, .slice a R.length cap] 25)).alloc (.cells #[.int .i64 0, .int .i64 0] 30) = w1 at *
  go_loopw [11] (fun vi wr => ∃ i : Nat, i ≤ w0.size ∧ vi = .int .i64 (i : Nat) ∧ Hid (stTo R w0 i 0 = []) ∧ Below w1.heap.size w1 wr) (fun vi _ => w0.size - (intOf vi).toNat)
  case atStart => exact ⟨0, Nat.zero_le _, rfl, Lib.hid rfl, Below.refl _ _⟩
  case round =>
    obtain ⟨i, hi, rfl, HNO, hbw⟩ := hrel
    have HB := Lib.hid hbw
    obtain ⟨⟨s0, s1⟩, ⟨b0, b1⟩, f0, f1⟩ := HBX.out wr hbw
    clear hbw
    by_cases hlt : i < w0.size
    · have HXT := Lib.hid (stTo_next R w0 i)
      go_wp2_with fail
      generalize hW : wr = wr0 at *
      clear hW s0 s1 b0 b1 f0 f1
      go_loopw [17] (fun vr wr => ∃ r : Nat, r ≤ R.length ∧ vr = .int .i64 (r : Nat) ∧ Hid (stTo R w0 i r = []) ∧ Below w1.heap.size w1 wr) (fun vr _ => R.length - (intOf vr).toNat)
      case atStart => exact ⟨0, Nat.zero_le _, rfl, HNO, HB.out⟩
      case round =>
        clear HB HNO
        obtain ⟨r, hr, rfl, HNO, hbw⟩ := hrel
        by_cases hlr : r < R.length
        · obtain ⟨b, off, rfl, hb, k0, k1⟩ := rule_at HL1.out hbw hlr
          have hl8 := h8 r
          have HY := Lib.hid (fun h => first_at (R := R) (w := w0) (i := i) (k := r) hlt hlr HNO.out h)
          have HN := Lib.hid (fun h => stTo_none (R := R) (w := w0) (i := i) (k := r) HNO.out h)
          have HHP := Lib.hid (fun W => Tryz.strings_HasPrefix (w0.extract i w0.size) (nthR R r).1 W)
          rw [preAt_hp] at HHP
          have x3 : (i : Int) ≤ (w0.size : Int) := by omega
          have x4 : i ≤ w0.size := by omega
          have HB := Lib.hid hbw
          clear hbw
          generalize (nthR R r).1 = l at *
          generalize (nthR R r).2 = q at *
          go_wp2_with fail
          have HB5 := Lib.hid (Below.now HB.out (alloc_belowS wr (.cells #[.string l, .string q] 36)))
          have hcb := alloc_at wr (.cells #[.string l, .string q] 36)
          have hc0 := (sys_cells hcb).1
          clear k0 k1 hcb
          generalize hg : wr.heap.size = g at *
          generalize wr.alloc (.cells #[.string l, .string q] 36) = w5 at *
          cases hp : preAt w0 i l
          · have HNX := Lib.hid (HN.out hp)
            rw [hp] at HHP
            clear hp HY HN
            go_quiet ((go_at_call 101; refine (HHP.out _).mono ?_; rintro e w' ⟨rfl, rfl⟩; exact ⟨rfl, ⟨_, rfl⟩⟩))
            have HB6 := Lib.hid (Below.now HB5.out (below_drewN (Below.refl _ _) nq))
            go_wp2_with fail
            go_roundw
            case rel => exact ⟨r + 1, by omega, by go_num, HNX, HB6.out⟩
            case measure => simp [intOf]; omega
          · have HYX := Lib.hid (HY.out hp)
            rw [hp] at HHP
            clear hp HY HN
            go_quiet ((go_at_call 101; refine (HHP.out _).mono ?_; rintro e w' ⟨rfl, rfl⟩; exact ⟨rfl, ⟨_, rfl⟩⟩))
            have HB6 := Lib.hid (Below.now HB5.out (below_drewN (Below.refl _ _) nq))
            obtain ⟨_, ⟨b0, b1⟩, f0, f1⟩ := HBX.out _ HB6.out
            have HW6 := Lib.hid (Below.now HW1.out HB6.out)
            clear hc0
            go_wp2_with fail
            refine bodyPost_ret (v := .tuple #[.agg #[.int .i64 (r : Nat), .int .i64 (i : Nat)], .bool true]) ?_ rfl ?_
            · simp [results, Tryz.results74, go_sem, b0, b1]
            · exact ⟨(HW6.out.setCell (show w.heap.size ≤ w.heap.size + 1 by omega) _).setCell (show w.heap.size ≤ w.heap.size + 1 by omega) _, .inl ⟨(r, i), HYX.out, rfl⟩⟩
        · obtain rfl : r = R.length := by omega
          have HN2 : Hid (stTo R w0 (i + 1) 0 = []) := Lib.hid (by rw [← HXT.out]; exact HNO.out)
          go_wp2_with fail
          go_roundw
          case rel => exact ⟨i + 1, by omega, by go_num, HN2, hbw⟩
          case measure => simp [intOf]; omega
    · obtain rfl : i = w0.size := by omega
      have HHD : Hid ((stepsF R w0).head? = none) := Lib.hid (by rw [← stTo_done, HNO.out]; rfl)
      have HW6 := Lib.hid (Below.now HW1.out HB.out)
      go_wp2_with fail
      refine bodyPost_ret (v := .tuple #[.agg #[.int .i64 0, .int .i64 0], .bool false]) ?_ rfl ?_
      · simp [results, Tryz.results74, go_sem, b0, b1]
      · exact ⟨(HW6.out.setCell (show w.heap.size ≤ w.heap.size + 1 by omega) _).setCell (show w.heap.size ≤ w.heap.size + 1 by omega) _, .inr ⟨HHD.out, rfl⟩⟩
end Go.Proofs.YtdhaebbfiaddnaaGreatDoor
namespace Go.Proofs.YtdhaebbfiaddnaaGreatDoor
open Go.RowKit
set_option linter.unusedVariables false
set_option maxRecDepth 100000 in
set_option maxHeartbeats 2000000 in
theorem implApply_any (k : Int) (R : List RulD) (a : Option Addr) (cap : Nat) (w0 : ByteArray) (x y : Nat) (w : World) (hl : RulesIn w a R) (hs : sysP k R) (hw : w0.size ≤ 16) (hm : (x, y) ∈ stepsF R w0) :
    Calls Tryz.prog 72 #[.agg #[.int .i64 k, .slice a R.length cap], .string w0, .agg #[.int .i64 (x : Nat), .int .i64 (y : Nat)]] w fun e w' => e = .returned (.tuple #[.string (applyF R w0 (x, y)), .bool true]) ∧ Below w.heap.size w w' := by
  have HL := Lib.hid hl
  obtain ⟨hm1, hm2, _⟩ := mem_stepsF.1 hm
  have hm2 : x < R.length := hm2
  have hok := apply_ok hs hw hm
  have h8 := left8 hs x
  have h8b : (nthR R x).2.size ≤ 8 := (hs.1.2 _ (nthR_mem hm2)).1.2.2
  have HRA := Lib.hid (fun W => implReplaceAt_ok w0 (nthR R x).2 y (nthR R x).1.size W hok.1 hok.2 (by omega) (by omega))
  have HAP : Hid (applyF R w0 (x, y) = replF w0 y (nthR R x).1.size (nthR R x).2) := Lib.hid rfl
  have HA2 := Lib.hid (fun o o2 => Below.now (alloc_belowS w o) (alloc_belowS (w.alloc o) o2))
  have e1 : (w.alloc (.cells #[.int .i64 k, .slice a R.length cap] 25)).heap.size = w.heap.size + 1 := by simp
  have HBX := Lib.hid (fun W2 (h : Below ((w.alloc (.cells #[.int .i64 k, .slice a R.length cap] 25)).alloc (.cells #[.int .i64 (x : Nat), .int .i64 (y : Nat)] 30)).heap.size ((w.alloc (.cells #[.int .i64 k, .slice a R.length cap] 25)).alloc (.cells #[.int .i64 (x : Nat), .int .i64 (y : Nat)] 30)) W2) => And.intro (box_two (Below.now (alloc_belowS (w.alloc (.cells #[.int .i64 k, .slice a R.length cap] 25)) _) h)) (box_facts h).1)
  rw [e1] at HBX
  have HW1 : Hid (Below w.heap.size w ((w.alloc (.cells #[.int .i64 k, .slice a R.length cap] 25)).alloc (.cells #[.int .i64 (x : Nat), .int .i64 (y : Nat)] 30))) := Lib.hid (HA2.out _ _)
  obtain ⟨rb, ro, ra, rlt, k0, k1⟩ := rule_at HL.out HW1.out hm2
  subst ra
  obtain ⟨⟨s0, s1⟩, b0, b1⟩ := HBX.out _ (Below.refl _ _)
  have s2 := fun o => (HBX.out _ (alloc_belowS _ o)).2.1
  have s3 := fun o => (HBX.out _ (alloc_belowS _ o)).2.2
  rw [← HAP.out] at HRA
  clear hl hs e1 hm hok HBX HA2
  generalize (nthR R x).1 = l at *
  generalize (nthR R x).2 = q at *
  generalize applyF R w0 (x, y) = v at *
  go_enter Tryz.func72, Tryz.ntmps72
  go_wp2_with fail
  generalize (w.alloc (.cells #[.int .i64 k, .slice (some ⟨rb, ro, none⟩) R.length cap] 25)).alloc (.cells #[.int .i64 (x : Nat), .int .i64 (y : Nat)] 30) = w1 at *
  refine (HRA.out _).mono ?_
  rintro e w9 ⟨rfl, hb9⟩
  have HB9 := Lib.hid (Below.now HW1.out (Below.now (alloc_belowS w1 _) hb9))
  clear hb9 s0 s1 s2 s3 b0 b1 k0 k1
  go_wp2_with fail
  go_ret2
  exact ⟨rfl, HB9.out⟩
/-- a box of a step -/
def BoxS (g x y : Nat) (W : World) : Prop := W.heap[g]? = some (.cells #[.int .i64 (x : Nat), .int .i64 (y : Nat)] 30 (0, 0))
theorem BoxS.facts {g x y : Nat} {W : World} (h : BoxS g x y W) : (W.cell? ⟨g, 0, none⟩ = some (.int .i64 (x : Nat)) ∧ W.cell? ⟨g, 1, none⟩ = some (.int .i64 (y : Nat))) ∧ W.frozen? ⟨g, 0, none⟩ = false ∧ W.frozen? ⟨g, 1, none⟩ = false := by
  unfold BoxS at h
  refine ⟨sys_cells h, ?_, ?_⟩ <;> simp [World.frozen?, h]
theorem BoxS.set {g x y : Nat} {W : World} (h : BoxS g x y W) (x2 y2 : Nat) : BoxS g x2 y2 ((W.setCell ⟨g, 0, none⟩ (.int .i64 (x2 : Nat))).setCell ⟨g, 1, none⟩ (.int .i64 (y2 : Nat))) := by
  unfold BoxS at *
  unfold World.setCell
  simp [Array.getElem?_modify, h]
theorem BoxS.later {g x y : Nat} {W W' : World} (h : BoxS g x y W) (hb : Below W.heap.size W W') : BoxS g x y W' := (hb.block g (Array.getElem?_eq_some_iff.1 h).1).trans h
/-- what is known of the first step -/
def FsP (R : List RulD) (v : ByteArray) (x y : Nat) (b : Bool) : Prop := (b = true ∧ (stepsF R v).head? = some (x, y)) ∨ (b = false ∧ (stepsF R v).head? = none ∧ x = 0 ∧ y = 0)
theorem RetFS.form {R : List RulD} {v : ByteArray} {w : World} {e : Ending} {w' : World} (h : RetFS R v w e w') : ∃ x y b, FsP R v x y b ∧ e = .returned (.tuple #[.agg #[.int .i64 (x : Nat), .int .i64 (y : Nat)], .bool b]) ∧ Below w.heap.size w w' := by
  obtain ⟨hb, ⟨s, hs, rfl⟩ | ⟨hs, rfl⟩⟩ := h
  · exact ⟨s.1, s.2, true, .inl ⟨rfl, hs⟩, rfl, hb⟩
  · exact ⟨0, 0, false, .inr ⟨rfl, hs, rfl, rfl⟩, rfl, hb⟩
/-- what normal hands back -/
def RetNo (R : List RulD) (w0 : ByteArray) (w : World) (e : Ending) (w' : World) : Prop := ∃ x, NormIs R w0 x ∧ e = .returned (.string x) ∧ Below w.heap.size w w'
set_option maxRecDepth 100000 in
set_option maxHeartbeats 2000000 in
theorem implNormal_any (k : Int) (R : List RulD) (a : Option Addr) (cap : Nat) (w0 : ByteArray) (w : World) (hl : RulesIn w a R) (hs : sysP k R) (hw : wordOkB k w0 = true) :
    Calls Tryz.prog 37 #[.agg #[.int .i64 k, .slice a R.length cap], .string w0] w (RetNo R w0 w) := by
  have HL := Lib.hid hl
  have HS := Lib.hid hs
  have HW := Lib.hid hw
  have HFS := Lib.hid (fun v W h (hv : v.size ≤ 16) => (implFirstStep_any k R a cap v W h hs hv).mono (fun _ _ h => h.form))
  have HAS := Lib.hid (fun v x y W h (hv : v.size ≤ 16) hm => implApply_any k R a cap v x y W h hs hv hm)
  have hb1 := alloc_belowS w (.cells #[.int .i64 k, .slice a R.length cap] 25)
  have HBX := Lib.hid (fun W2 (h : Below (w.alloc (.cells #[.int .i64 k, .slice a R.length cap] 25)).heap.size (w.alloc (.cells #[.int .i64 k, .slice a R.length cap] 25)) W2) => box_two h)
  have HW1 := Lib.hid hb1
  have h16 := (wdP_of hw).len
  clear hl hs hw hb1
  go_enter Tryz.func37, Tryz.ntmps37
  go_wp2_with fail
  generalize w.alloc (.cells #[.int .i64 k, .slice a R.length cap] 25) = w1 at *
  refine (HFS.out w0 w1 (HL.out.later HW1.out) h16).mono ?_
  rintro e w2 ⟨x0, y0, b0, hfs, rfl, hb2⟩
  have HB2 := Lib.hid hb2
  have HFP := Lib.hid hfs
  have HBS0 : Hid (BoxS w2.heap.size x0 y0 (w2.alloc (.cells #[.int .i64 (x0 : Nat), .int .i64 (y0 : Nat)] 30))) := Lib.hid (alloc_at _ _)
  have HB3 : Hid (Below w1.heap.size w1 (w2.alloc (.cells #[.int .i64 (x0 : Nat), .int .i64 (y0 : Nat)] 30))) := Lib.hid (Below.now hb2 (alloc_belowS _ _))
  have hlt0 : w1.heap.size ≤ w2.heap.size := hb2.size
  clear hfs hb2
  go_wp2_with fail
  go_loopw [1, 5, 6] (fun vw vp vb wr => ∃ (v : ByteArray) (g x y : Nat) (b : Bool), vw = .string v ∧ vp = .pointer (some ⟨g, 0, none⟩) ∧ vb = .bool b ∧ w1.heap.size ≤ g ∧ Hid (wordOkB k v = true) ∧ Hid (∀ z, NormIs R v z → NormIs R w0 z) ∧ Hid (FsP R v x y b) ∧ Hid (BoxS g x y wr) ∧ Hid (Below w1.heap.size w1 wr)) (fun vw _ _ _ => rkV vw)
  case atStart => exact ⟨w0, w2.heap.size, x0, y0, b0, rfl, rfl, rfl, hlt0, HW, Lib.hid (fun z h => h), HFP, HBS0, HB3⟩
  case round =>
    clear HBS0 HB3 HFP HB2 hlt0
    obtain ⟨v, g, x, y, b, rfl, rfl, rfl, hg, HV, HNI, HFP, HBS, HB⟩ := hrel
    obtain ⟨s0, s1⟩ := HBX.out wr HB.out
    obtain ⟨⟨c0, c1⟩, f0, f1⟩ := HBS.out.facts
    have hv16 := (wdP_of HV.out).len
    rcases HFP.out with ⟨rfl, hh⟩ | ⟨rfl, hh, rfl, rfl⟩
    · have hm := head_mem hh
      have HLESS := Lib.hid (step_less HS.out hm)
      have HWD : Hid (wordOkB k (applyF R v (x, y)) = true) := Lib.hid (step_word HS.out HV.out hm)
      have HNI2 : Hid (∀ z, NormIs R (applyF R v (x, y)) z → NormIs R w0 z) := Lib.hid (fun z hz => HNI.out z (.step hh hz))
      have HAC := Lib.hid (HAS.out v x y wr (HL.out.later (Below.now HW1.out HB.out)) hv16 hm)
      have hv2 := (wdP_of HWD.out).len
      have HFC := Lib.hid (fun W h => HFS.out (applyF R v (x, y)) W h hv2)
      clear hh hm HFP
      generalize applyF R v (x, y) = v2 at *
      go_wp2_with fail
      refine HAC.out.mono ?_
      rintro e w3 ⟨rfl, hb3⟩
      have HBN := Lib.hid (Below.now HB.out hb3)
      obtain ⟨⟨d0, d1⟩, _, _⟩ := (HBS.out.later hb3).facts
      have t0 := fun o => (HBX.out _ (Below.now HBN.out (alloc_belowS w3 o))).1
      have t1 := fun o => (HBX.out _ (Below.now HBN.out (alloc_belowS w3 o))).2
      have HLW := Lib.hid (fun o => HL.out.later (Below.now HW1.out (Below.now HBN.out (alloc_belowS w3 o))))
      clear hb3 s0 s1 c0 c1 f0 f1 HAC HBS
      go_wp2_with fail
      refine (HFC.out _ (HLW.out _)).mono ?_
      rintro e w4 ⟨x2, y2, b2, hfs, rfl, hb4⟩
      have HFP2 := Lib.hid hfs
      have hbx : BoxS w3.heap.size x y w4 := (hb4.block _ (by simp)).trans (alloc_at _ _)
      obtain ⟨⟨k0, k1⟩, m0, m1⟩ := hbx.facts
      have HBS2 := Lib.hid (hbx.set x2 y2)
      have hsz : w1.heap.size ≤ w3.heap.size := HBN.out.size
      have HB4 : Hid (Below w1.heap.size w1 ((w4.setCell ⟨w3.heap.size, 0, none⟩ (.int .i64 (x2 : Nat))).setCell ⟨w3.heap.size, 1, none⟩ (.int .i64 (y2 : Nat)))) := Lib.hid (((Below.now HBN.out (Below.now (alloc_belowS w3 _) hb4)).setCell hsz _).setCell hsz _)
      clear hfs hb4 hbx d0 d1 t0 t1 HLW HFC
      go_wp2_with fail
      go_roundw
      case rel => exact ⟨v2, w3.heap.size, x2, y2, b2, rfl, rfl, rfl, hsz, HWD, HNI2, HFP2, HBS2, HB4⟩
      case measure => exact HLESS.out
    · have F : Hid (RetNo R w0 w (.returned (.string v)) wr) := Lib.hid ⟨v, HNI.out v (.done hh), rfl, Below.now HW1.out HB.out⟩
      clear hh s0 s1 c0 c1 f0 f1
      go_wp2_with fail
      go_ret
      exact F.out
set_option maxHeartbeats 1000000 in
theorem implTakes_any (k : Int) (R : List RulD) (a : Option Addr) (cap : Nat) (w0 : ByteArray) (w : World) (hl : RulesIn w a R) (hlen : R.length ≤ 2 ^ 40) (hz : SzR R) (hw : w0.size ≤ maxLen) :
    Calls Tryz.prog 36 #[.agg #[.int .i64 k, .slice a R.length cap], .string w0] w (RetP (sysP k R ∧ wordOkB k w0 = true) w) := by
  have HL := Lib.hid hl
  have HSO := Lib.hid (fun W h => implSystemOk_any k R a cap W h hlen hz)
  have HWO := Lib.hid (fun W => implWordOk_any k w0 W hw)
  have HBX := Lib.hid (fun W2 (h : Below (w.alloc (.cells #[.int .i64 k, .slice a R.length cap] 25)).heap.size (w.alloc (.cells #[.int .i64 k, .slice a R.length cap] 25)) W2) => box_two h)
  have HA := Lib.hid (fun o => alloc_belowS w o)
  clear hl hz
  go_enter Tryz.func36, Tryz.ntmps36
  go_wp2_with fail
  refine (HSO.out _ (HL.out.later (HA.out _))).mono ?_
  rintro e w1 ⟨bb, hbb, rfl, hb1⟩
  obtain ⟨s0, s1⟩ := HBX.out _ hb1
  have HBB := Lib.hid hbb
  have HW1 := Lib.hid (Below.now (HA.out _) hb1)
  clear hbb hb1
  cases bb
  · have F : Hid (RetP (sysP k R ∧ wordOkB k w0 = true) w (.returned (.bool false)) w1) := Lib.hid (RetP.no (fun h => by have := HBB.out.2 h.1; cases this) HW1.out)
    go_wp2_with fail
    go_ret
    exact F.out
  · have F : Hid (RetP (sysP k R ∧ wordOkB k w0 = true) w (.returned (.bool (wordOkB k w0))) w1) := Lib.hid ⟨_, ⟨fun h => ⟨HBB.out.1 rfl, h⟩, fun h => h.2⟩, rfl, HW1.out⟩
    generalize wordOkB k w0 = ok at *
    go_wp2_with fail
    refine (HWO.out _).mono ?_
    rintro e w2 ⟨rfl, rfl⟩
    go_wp2_with fail
    go_ret
    exact F.out
set_option maxHeartbeats 1000000 in
theorem implNormalForm_ok (k : Int) (R : List RulD) (a : Option Addr) (cap : Nat) (w0 : ByteArray) (w : World) (hl : RulesIn w a R) (hs : sysP k R) (hw : wordOkB k w0 = true) :
    Calls Tryz.prog 9 #[.agg #[.int .i64 k, .slice a R.length cap], .string w0] w fun e w' => ∃ x, NormIs R w0 x ∧ e = .returned (.tuple #[.string x, .bool true]) ∧ Below w.heap.size w w' := by
  have HL := Lib.hid hl
  have hz : SzR R := fun j hj => by have := (hs.1.2 _ (nthR_mem hj)).1.2; unfold maxLen; omega
  have HOK := Lib.hid (fun W h => implTakes_any k R a cap w0 W h (by have := hs.1.1.2; omega) hz (by have := (wdP_of hw).len; unfold maxLen; omega))
  have HYES : Hid (sysP k R ∧ wordOkB k w0 = true) := Lib.hid ⟨hs, hw⟩
  have HTR := Lib.hid (fun W h => implNormal_any k R a cap w0 W h hs hw)
  have HBX := Lib.hid (fun W2 (h : Below (w.alloc (.cells #[.int .i64 k, .slice a R.length cap] 25)).heap.size (w.alloc (.cells #[.int .i64 k, .slice a R.length cap] 25)) W2) => box_two h)
  have HA := Lib.hid (fun o => alloc_belowS w o)
  clear hl hz hs hw
  go_enter Tryz.func9, Tryz.ntmps9
  go_wp2_with fail
  refine (HOK.out _ (HL.out.later (HA.out _))).mono ?_
  rintro e w1 ⟨bb, hbb, rfl, hb1⟩
  obtain rfl := hbb.2 HYES.out
  obtain ⟨s0, s1⟩ := HBX.out _ hb1
  have HW1 := Lib.hid (Below.now (HA.out _) hb1)
  clear hbb hb1
  go_wp2_with fail
  refine (HTR.out _ (HL.out.later HW1.out)).mono ?_
  rintro e w2 ⟨x, hx, rfl, hb2⟩
  have HX := Lib.hid hx
  have HW2 := Lib.hid (Below.now HW1.out hb2)
  clear hx hb2
  go_wp2_with fail
  go_ret2
  exact ⟨x, HX.out, rfl, HW2.out⟩
end Go.Proofs.YtdhaebbfiaddnaaGreatDoor
