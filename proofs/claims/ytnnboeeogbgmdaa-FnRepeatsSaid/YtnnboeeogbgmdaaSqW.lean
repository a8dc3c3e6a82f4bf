/-
  Words without squares: the program's functions.
-/
import Derived.Test.YtnnboeeogbgmdaaSqPl
import Derived.Test.YtnnboeeogbgmdaaDelStrs
import Derived.IntWalk
namespace Go.Proofs.Ytnnboeeogbgmdaa
open Go.RowKit
set_option linter.unusedVariables false
set_option maxRecDepth 20000 in
set_option maxHeartbeats 2000000 in
theorem endsFree_any (s : ByteArray) (w : World) (hs : s.size ≤ 100000) : Calls Try.prog 57 #[.string s] w fun e w' => e = .returned (.bool (freeEnd (bl s))) ∧ Below w.heap.size w w' := by
  have hlen := bl_len s
  have HF0 : Hid (freeTo (bl s) 0 = true) := Lib.hid rfl
  have HE : Hid (freeEnd (bl s) = freeTo (bl s) (s.size / 2)) := Lib.hid (by unfold freeEnd; rw [hlen])
  have HLn := Lib.hid hlen
  clear hlen
  go_enter Try.func57, Try.ntmps57
  go_wp2_with fail
  go_loopw [3] (fun v wr => ∃ h : Nat, 1 ≤ h ∧ 2 * (h - 1) ≤ s.size ∧ v = .int .i64 (h : Nat) ∧ Hid (freeTo (bl s) (h - 1) = true) ∧ Below w.heap.size w wr) (fun v _ => s.size - (intOf v).toNat)
  case atStart => exact ⟨1, Nat.le_refl _, by omega, rfl, HF0.out |> Lib.hid, Below.refl _ _⟩
  case round =>
    obtain ⟨h, h1, h2, rfl, hfr, hbw⟩ := hrel
    by_cases hlt : 2 * h ≤ s.size
    · have w1 : IntKind.i64.wrap ((s.size : Int) - (h : Int)) = ((s.size - h : Nat) : Int) := by rw [IntWalk.i64_in _ (by omega)]; omega
      have w2 : IntKind.i64.wrap (2 * (h : Int)) = ((2 * h : Nat) : Int) := by rw [IntWalk.i64_in _ (by omega)]; omega
      have w3 : IntKind.i64.wrap ((s.size : Int) - ((2 * h : Nat) : Int)) = ((s.size - 2 * h : Nat) : Int) := by rw [IntWalk.i64_in _ (by omega)]; omega
      have q1 : ((s.size - h : Nat) : Int) ≤ (s.size : Int) := by omega
      have q2 : ((s.size - 2 * h : Nat) : Int) ≤ ((s.size - h : Nat) : Int) := by omega
      have q3 : (0 : Int) ≤ ((s.size - h : Nat) : Int) := by omega
      have q4 : (0 : Int) ≤ ((s.size - 2 * h : Nat) : Int) := by omega
      have q5 : 2 * (h : Int) ≤ (s.size : Int) := by omega
      have E := Lib.hid (sqAt_eq (s := s) hlt)
      have HNX : Hid (sqAt (bl s) h = false → freeTo (bl s) h = true) := Lib.hid (fun hh => by
        obtain ⟨j, rfl⟩ : ∃ j, h = j + 1 := ⟨h - 1, by omega⟩
        exact freeTo_succ hfr.out hh)
      have HNO : Hid (sqAt (bl s) h = true → freeEnd (bl s) = false) := Lib.hid (fun hh => by
        obtain ⟨j, rfl⟩ : ∃ j, h = j + 1 := ⟨h - 1, by omega⟩
        exact freeEnd_no (by rw [HLn.out]; omega) hh)
      have HW1 := Lib.hid w1
      have HW2 := Lib.hid w2
      have HW3 := Lib.hid w3
      clear w1 w2 w3
      cases hb : ((s.extract (s.size - h) s.size).toList == (s.extract (s.size - 2 * h) (s.size - h)).toList)
      · have F := Lib.hid (HNX.out (by rw [← E.out, hb]))
        go_wp2_with fail
        have w1 := HW1.out
        have w2 := HW2.out
        have w3 := HW3.out
        go_quiet (fail)
        have hb2 := below_drewN hbw nq
        clear w1 w2 w3 hb hbw
        go_wp2_with fail
        go_roundw
        case rel => exact ⟨h + 1, by omega, by omega, by go_num, F.out |> Lib.hid, hb2⟩
        case measure => simp [intOf]; omega
      · have F := Lib.hid (HNO.out (by rw [← E.out, hb]))
        go_wp2_with fail
        have w1 := HW1.out
        have w2 := HW2.out
        have w3 := HW3.out
        go_quiet (fail)
        have hb2 := below_drewN hbw nq
        clear w1 w2 w3 hb hbw
        go_wp2_with fail
        go_ret
        exact ⟨ret_bool F.out.symm, hb2⟩
    · have F : Hid (freeEnd (bl s) = true) := Lib.hid (by rw [HE.out, show s.size / 2 = h - 1 by omega]; exact hfr.out)
      have q5 : ¬ 2 * (h : Int) ≤ (s.size : Int) := by omega
      go_wp2_with fail
      go_ret
      exact ⟨ret_bool F.out.symm, hbw⟩
/-- a text that there may be -/
def RetO (o : Option ByteArray) (w : World) (e : Ending) (w' : World) : Prop := e = .returned (.tuple #[.string (o.getD ⟨#[]⟩), .bool o.isSome]) ∧ Below w.heap.size w w'
set_option maxRecDepth 20000 in
set_option maxHeartbeats 2000000 in
theorem leastSF_any (k n : Nat) (hk : k ≤ 4) (hn : n ≤ 60) : ∀ (f : Nat) (v : ByteArray) (w : World), v.size + f = n →
    Calls Try.prog 29 #[.int .i64 (k : Nat), .int .i64 (n : Nat), .string v] w (RetO (leastF k f v) w) := by
  intro f
  induction f with
  | zero =>
    intro v w hv
    have hq : ((v.size : Int) == (n : Int)) = true := by rw [beq_iff_eq]; omega
    have F : Hid (RetO (leastF k 0 v) w (.returned (.tuple #[.string v, .bool true])) w) := Lib.hid ⟨rfl, Below.refl _ _⟩
    clear hv
    go_enter Try.func29, Try.ntmps29
    go_wp2_with fail
    exact bodyPost_ret (v := .tuple #[.string v, .bool true]) (by simp [results, Try.results29, go_sem]) rfl F.out
  | succ f ih =>
    intro v w hv
    have IH := Lib.hid ih
    have hvn : v.size < n := by omega
    have hq : ((v.size : Int) == (n : Int)) = false := by rw [beq_eq_false_iff_ne]; omega
    have HV := Lib.hid hv
    clear hv ih
    go_enter Try.func29, Try.ntmps29
    go_wp2_with fail
    go_loopw [18] (fun i wr => ∃ x : Nat, x ≤ k ∧ i = .int .i64 (x : Nat) ∧ Hid (∀ y, y < x → tryF k f v y = none) ∧ Below w.heap.size w wr) (fun i _ => k - (intOf i).toNat)
    case atStart => exact ⟨0, Nat.zero_le _, rfl, Lib.hid (fun y hy => absurd hy (Nat.not_lt_zero _)), Below.refl _ _⟩
    case round =>
      obtain ⟨x, hx, rfl, hall, hbw⟩ := hrel
      by_cases hlt : x < k
      · have HLe := Lib.hid (fun W => letterOf_any x W (by omega))
        have hsz : (v ++ letterN x).size = v.size + 1 := by rw [ByteArray.size_append, letterN_size]
        have hsum : ¬ 9223372036854775807 < v.size + (letterN x).size := by rw [letterN_size]; omega
        have HEF := Lib.hid (fun W => endsFree_any (v ++ letterN x) W (by omega))
        have HRC := Lib.hid (fun W => IH.out (v ++ letterN x) W (by have := HV.out; omega))
        have HTN : Hid (freeEnd (bl (v ++ letterN x)) = false → tryF k f v x = none) := Lib.hid tryF_not
        have HTY : Hid (freeEnd (bl (v ++ letterN x)) = true → tryF k f v x = leastF k f (v ++ letterN x)) := Lib.hid tryF_yes
        have HNX : Hid (tryF k f v x = none → ∀ y, y < x + 1 → tryF k f v y = none) := Lib.hid (fun h y hy => by
          by_cases e : y = x
          · rw [e]; exact h
          · exact hall.out y (by omega))
        have HSO : Hid (∀ u, tryF k f v x = some u → leastF k (f + 1) v = some u) := Lib.hid (fun u h => leastF_some hlt hall.out h)
        clear hsz
        generalize letterN x = y at *
        go_wp2_with fail
        refine (HLe.out _).mono ?_
        rintro e w2 ⟨rfl, hb2⟩
        have B2 := Lib.hid (Below.now hbw hb2)
        clear hb2
        go_wp2_with fail
        refine (HEF.out _).mono ?_
        rintro e w3 ⟨rfl, hb3⟩
        have B3 := Lib.hid (Below.now B2.out hb3)
        clear hb3 HEF hsum
        generalize leastF k f (v ++ y) = o at *
        cases hb : freeEnd (bl (v ++ y))
        · have F := Lib.hid (HNX.out (HTN.out hb))
          clear hb
          go_wp2_with fail
          go_roundw
          case rel => exact ⟨x + 1, by omega, by go_num, F.out |> Lib.hid, B3.out⟩
          case measure => simp [intOf]; omega
        · have HT := Lib.hid (HTY.out hb)
          clear hb
          go_wp2_with fail
          refine (HRC.out _).mono ?_
          rintro e w4 ⟨rfl, hb4⟩
          have B4 := Lib.hid (Below.now B3.out hb4)
          clear hb4
          cases o with
          | none =>
            have F := Lib.hid (HNX.out HT.out)
            go_wp2_with fail
            go_roundw
            case rel => exact ⟨x + 1, by omega, by go_num, F.out |> Lib.hid, B4.out⟩
            case measure => simp [intOf]; omega
          | some u =>
            have F : Hid (RetO (leastF k (f + 1) v) w (.returned (.tuple #[.string u, .bool true])) w4) := Lib.hid (by rw [HSO.out u HT.out]; exact ⟨rfl, B4.out⟩)
            go_wp2_with fail
            exact bodyPost_ret (v := .tuple #[.string u, .bool true]) (by simp [results, Try.results29, go_sem]) rfl F.out
      · have F : Hid (RetO (leastF k (f + 1) v) w (.returned (.tuple #[.string ⟨#[]⟩, .bool false])) wr) := Lib.hid (by
          rw [leastF_none (fun y hy => hall.out y (by omega))]; exact ⟨rfl, hbw⟩)
        go_wp2_with fail
        exact bodyPost_ret (v := .tuple #[.string ⟨#[]⟩, .bool false]) (by simp [results, Try.results29, go_sem]) rfl F.out
set_option maxHeartbeats 400000 in
theorem leastSquareFree_any (k n : Nat) (w : World) (hk1 : 1 ≤ k) (hk : k ≤ 4) (hn : n ≤ 60) :
    Calls Try.prog 7 #[.int .i64 (k : Nat), .int .i64 (n : Nat)] w (RetO (leastF k n ⟨#[]⟩) w) := by
  have P1 : Hid (inB (k : Int) 1 4 = true) := Lib.hid (by simp [inB]; omega)
  have P2 : Hid (inB (n : Int) 0 60 = true) := Lib.hid (by simp [inB]; omega)
  have HL := Lib.hid (fun W => leastSF_any k n hk hn n ⟨#[]⟩ W (by show 0 + n = n; omega))
  have P1a : Hid (∀ W, Calls Try.prog 28 #[.int .i64 (k : Nat), .int .i64 1, .int .i64 4] W fun e w' => e = .returned (.bool true) ∧ W = w') := Lib.hid (fun W => by have := within_any (k : Int) 1 4 W; rw [P1.out] at this; exact this)
  have P2a : Hid (∀ W, Calls Try.prog 28 #[.int .i64 (n : Nat), .int .i64 0, .int .i64 60] W fun e w' => e = .returned (.bool true) ∧ W = w') := Lib.hid (fun W => by have := within_any (n : Int) 0 60 W; rw [P2.out] at this; exact this)
  go_enter Try.func7, Try.ntmps7
  go_wp2_with (first
    | (go_at_call 28; (with_reducible refine (P1a.out _).mono ?_); rintro e w' ⟨rfl, rfl⟩)
    | (go_at_call 28; (with_reducible refine (P2a.out _).mono ?_); rintro e w' ⟨rfl, rfl⟩))
  refine (HL.out _).mono ?_
  rintro e w2 hr
  obtain ⟨rfl, _⟩ := id hr
  have F := Lib.hid hr
  clear hr
  generalize (leastF k n ⟨#[]⟩).getD ⟨#[]⟩ = u at *
  go_wp2_with fail
  exact bodyPost_ret (v := .tuple #[.string u, .bool (leastF k n ⟨#[]⟩).isSome]) (by simp [results, Try.results7, go_sem]) rfl F.out
theorem notFree_any (v : ByteArray) (w : World) (hs : v.size ≤ 100000) : Calls Try.prog 60 #[.string v] w fun e w' => e = .returned (.bool (!freeB v)) ∧ Below w.heap.size w w' := by
  have HE := Lib.hid (endsFree_any v w hs)
  go_enter Try.func60, Try.ntmps60
  go_wp2_with fail
  refine HE.out.mono ?_
  rintro e w2 ⟨rfl, hb2⟩
  go_wp2_with fail
  go_ret
  exact ⟨rfl, hb2⟩
theorem keepS_free (l : List ByteArray) : keepS (fun v => !freeB v) l = l.filter freeB := by
  unfold keepS
  congr 1
  funext v
  simp
set_option maxRecDepth 20000 in
set_option maxHeartbeats 2000000 in
theorem squareFree_any (k n : Nat) (w : World) (hk : k ≤ 4) (hn : n ≤ 8) :
    Calls Try.prog 31 #[.int .i64 (k : Nat), .int .i64 (n : Nat)] w (RetSl 9 1 (sqf k n).length (strVals (sqf k n)) w) := by
  have eg := enters_of Try.func60 (by kernel_rfl) rfl
  have HS0 : Hid ((w.alloc (.cells #[.string ⟨#[]⟩] 9)).ownsRow w.heap.size 9 1 (.slice (some ⟨w.heap.size, 0, none⟩) (sqf k 0).length 1) (sqf k 0).length (strVals (sqf k 0)) ∧ Below w.heap.size w (w.alloc (.cells #[.string ⟨#[]⟩] 9))) :=
    Lib.hid ⟨World.ownsRow_lit (e := 9) (size := 1) w #[.string ⟨#[]⟩] 1 (Nat.le_refl _) (by unfold maxLen; omega) rfl, (Below.refl _ _).alloc (Nat.le_refl _) _⟩
  go_enter Try.func31, Try.ntmps31
  go_wp2_with fail
  go_loopw [5, 8] (fun v i wr => ∃ (j : Nat) (a : Option Addr) (c : Nat), j ≤ n ∧ i = .int .i64 (j : Nat) ∧ v = .slice a (sqf k j).length c ∧ wr.ownsRow w.heap.size 9 1 (.slice a (sqf k j).length c) (sqf k j).length (strVals (sqf k j)) ∧ Below w.heap.size w wr) (fun _ i _ => n - (intOf i).toNat)
  case atStart => exact ⟨0, some ⟨w.heap.size, 0, none⟩, 1, Nat.zero_le _, rfl, rfl, HS0.out.1, HS0.out.2⟩
  case round =>
    clear HS0
    obtain ⟨j, a, c, hj, rfl, rfl, ho, hbw⟩ := hrel
    have HO := Lib.hid ho
    have HB := Lib.hid hbw
    clear ho hbw
    by_cases hlt : j < n
    · have hpl := pow_le hk (show j ≤ 8 by omega)
      have hsl := sqf_len k j
      have hll := longer_len k (sqf k j)
      have hlk : (sqf k j).length * k ≤ 262144 := Nat.le_trans (Nat.mul_le_mul (Nat.le_trans hsl hpl) hk) (by decide)
      have HLW := Lib.hid (longerWords_any k (sqf k j) a c wr (owns_strsIn HO.out) hk (by omega) (fun v hv => by have := sqf_size k j v hv; omega))
      have HLL : Hid ((longer k (sqf k j)).length ≤ 1000000) := Lib.hid (by omega)
      have HSZ : Hid (∀ v ∈ longer k (sqf k j), v.size ≤ 100000) := Lib.hid (fun v hv => by
        obtain ⟨u, hu, hv⟩ := List.mem_flatMap.1 hv
        obtain ⟨x, _, rfl⟩ := List.mem_map.1 hv
        rw [ByteArray.size_append, letterN_size, sqf_size k j u hu]; omega)
      have HQ : Hid (keepS (fun v => !freeB v) (longer k (sqf k j)) = sqf k (j + 1)) := Lib.hid (by rw [keepS_free, sqf_succ])
      clear hpl hsl hll hlk
      generalize longer k (sqf k j) = L at *
      go_wp2_with fail
      refine HLW.out.mono ?_
      rintro e w2 ⟨a2, c2, rfl, ho2, hb2⟩
      have HD := Lib.hid (deleteFuncStrs_any 60 #[] (fun v => !freeB v) L a2 c2 wr.heap.size w2 ho2 HLL.out hb2.size (fun i hi W hW => notFree_any _ W (HSZ.out _ (by rw [nthS_lt hi]; exact List.getElem_mem _))) eg)
      have B2 := Lib.hid hb2
      clear ho2 hb2 HLW
      rw [HQ.out] at HD
      go_wp2_with fail
      refine HD.out.mono ?_
      rintro e w3 ⟨rfl, ho3, hb3⟩
      have HO3 := Lib.hid (owns_mono ho3 HB.out.size)
      have HB3 : Hid (Below w.heap.size w w3) := Lib.hid (Below.now HB.out (B2.out.trans hb3))
      clear ho3 hb3 HD
      go_wp2_with fail
      go_roundw
      case rel => exact ⟨j + 1, a2, c2, by omega, by go_num, rfl, HO3.out, HB3.out⟩
      case measure => simp [intOf]; omega
    · obtain rfl : j = n := by omega
      go_wp2_with fail
      go_ret
      exact ⟨_, _, rfl, HO.out, HB.out⟩
set_option maxHeartbeats 400000 in
theorem countSquareFree_any (k n : Nat) (w : World) (hk1 : 1 ≤ k) (hk : k ≤ 4) (hn : n ≤ 8) :
    Calls Try.prog 9 #[.int .i64 (k : Nat), .int .i64 (n : Nat)] w fun e w' => e = .returned (.int .i64 (((sqfL k n).length : Nat) : Int)) ∧ Below w.heap.size w w' := by
  have P1 : Hid (inB (k : Int) 1 4 = true) := Lib.hid (by simp [inB]; omega)
  have P2 : Hid (inB (n : Int) 0 10 = true) := Lib.hid (by simp [inB]; omega)
  have HL := Lib.hid (fun W => squareFree_any k n W hk hn)
  have P1a : Hid (∀ W, Calls Try.prog 28 #[.int .i64 (k : Nat), .int .i64 1, .int .i64 4] W fun e w' => e = .returned (.bool true) ∧ W = w') := Lib.hid (fun W => by have := within_any (k : Int) 1 4 W; rw [P1.out] at this; exact this)
  have P2a : Hid (∀ W, Calls Try.prog 28 #[.int .i64 (n : Nat), .int .i64 0, .int .i64 10] W fun e w' => e = .returned (.bool true) ∧ W = w') := Lib.hid (fun W => by have := within_any (n : Int) 0 10 W; rw [P2.out] at this; exact this)
  have HC := Lib.hid (sqf_cnt k n)
  go_enter Try.func9, Try.ntmps9
  go_wp2_with (first
    | (go_at_call 28; (with_reducible refine (P1a.out _).mono ?_); rintro e w' ⟨rfl, rfl⟩)
    | (go_at_call 28; (with_reducible refine (P2a.out _).mono ?_); rintro e w' ⟨rfl, rfl⟩))
  refine (HL.out _).mono ?_
  rintro e w2 ⟨a2, c2, rfl, ho2, hb2⟩
  have B2 := Lib.hid hb2
  clear ho2 hb2
  generalize (sqf k n).length = q at *
  go_wp2_with fail
  go_ret
  exact ⟨ret_int (by rw [HC.out]), B2.out⟩
end Go.Proofs.Ytnnboeeogbgmdaa
