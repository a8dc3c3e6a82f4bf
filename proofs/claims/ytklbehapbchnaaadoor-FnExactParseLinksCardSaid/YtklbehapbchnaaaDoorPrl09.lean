/-
  ParseLinks of the reference.
-/
import Derived.Test.YtklbehapbchnaaaDoorPrl04
import Derived.Test.YtklbehapbchnaaaDoorPrl08
import Derived.Test.YtklbehapbchnaaaDoorPrl05
import Derived.WideShapes
import Derived.Deep.QuietTactic
import Derived.Test.YtklbehapbchnaaaDoorPrl06
import Derived.Test.YtklbehapbchnaaaDoorPrl03
namespace Go.Proofs.YtklbehapbchnaaaDoor
open Go.RowKit
set_option linter.unusedVariables false
set_option maxHeartbeats 1000000 in
theorem specIsDigits_x (s : ByteArray) (w : World) (hs : s.size ≤ maxLen) (h0 : 0 < s.size) (hd : digP s) :
    Calls Tryd.prog 32 #[.string s] w fun e w' => e = .returned (.bool true) ∧ w = w' := by
  unfold maxLen at hs
  have HD := Lib.hid hd
  clear hd
  go_enter Tryd.func32, Tryd.ntmps32
  go_wp2_with fail
  go_loop [3] (fun i => ∃ j : Nat, j ≤ s.size ∧ i = .int .i64 j) (fun i => s.size - (intOf i).toNat)
  case atStart => exact ⟨0, Nat.zero_le _, rfl⟩
  case round =>
    obtain ⟨j, hj, rfl⟩ := hrel
    by_cases hlt : j < s.size
    · have hb := byte_lt s[j]
      have h1 : ¬ ((s[j]'hlt).toNat : Int) < 48 := by have := (HD.out j hlt).1; omega
      have h2 : ¬ (57 : Int) < ((s[j]'hlt).toNat : Int) := by have := (HD.out j hlt).2; omega
      go_wp2
      go_round
      case rel => exact ⟨j + 1, by omega, by go_num⟩
      case measure => simp [intOf]; omega
    · obtain rfl : j = s.size := by omega
      have hpos : (0 : Int) < (s.size : Int) := by omega
      go_wp2
      go_ret
      exact ⟨rfl, rfl⟩
/-- a side's text, read -/
def undot (s : ByteArray) : ByteArray := if (s.data.toList == [46]) = true then ⟨#[]⟩ else s
/-- a rule's text and the rule -/
structure RuleTx (s : ByteArray) (u v : ByteArray) : Prop where
  size : s.size ≤ 2 ^ 20
  small : u.size ≤ s.size ∧ v.size ≤ s.size
  split : splitB s 62 = [u, v]
  w1 : wordOkB 4 (undot u) = true
  w2 : wordOkB 4 (undot v) = true
  text : (ruleT (undot u, undot v)).toList = s.toList
end Go.Proofs.YtklbehapbchnaaaDoor
namespace Go.Proofs.YtklbehapbchnaaaDoor
open Go.RowKit
set_option linter.unusedVariables false
def RetPN (s : ByteArray) (w : World) (e : Ending) (w' : World) : Prop := ∃ (n : Int) (b : Bool), e = .returned (.tuple #[.int .i64 n, .bool b]) ∧ ((b = true ∧ IsNum s n) ∨ (b = false ∧ n = 0)) ∧ Below w.heap.size w w'
theorem retP {s : ByteArray} {w wr : World} {a : Act} {n : Int} {b : Bool} {fn : Func} (h1 : -9223372036854775808 ≤ n) (h2 : n ≤ 9223372036854775807) (hn : b = true → s = numB n) (hf : b = false → n = 0) (hd : a.defers = []) (hv : (results fn a.tmps).run Tryd.prog wr = .ok (.tuple #[.int .i64 n, .bool b]) wr) (hb : Below w.heap.size w wr) : bodyPost Tryd.prog fn (RetPN s w) Exit.ret a wr :=
  bodyPost_ret (v := .tuple #[.int .i64 n, .bool b]) hv hd ⟨n, b, rfl, by
    cases b
    · exact .inr ⟨rfl, hf rfl⟩
    · exact .inl ⟨rfl, ⟨h1, h2⟩, hn rfl⟩, hb⟩
theorem retP0 {s : ByteArray} {w wr : World} {a : Act} {fn : Func} (hd : a.defers = []) (hv : (results fn a.tmps).run Tryd.prog wr = .ok (.tuple #[.int .i64 0, .bool false]) wr) (hb : Below w.heap.size w wr) : bodyPost Tryd.prog fn (RetPN s w) Exit.ret a wr := retP (by omega) (by omega) (fun h => Bool.noConfusion h) (fun _ => rfl) hd hv hb
set_option maxRecDepth 20000 in
set_option maxHeartbeats 4000000 in
theorem specParseInt_no (s : ByteArray) (w : World) (hs : s.size ≤ 2 ^ 20) :
    Calls Tryd.prog 16 #[.string s] w (RetPN s w) := by
  have HD := Lib.hid (fun t W (h : t.size ≤ s.size) => specIsDigits_any t W (by unfold maxLen; omega))
  have HF := Lib.hid (fun n W h1 h2 => specFormatInt_any n W h1 h2)
  go_enter Tryd.func16, Tryd.ntmps16
  go_upto_region 1 with fail
  go_cut [4] (fun v wx => ∃ b : Bool, v = .bool b ∧ (b = true → 0 < s.size) ∧ wx = w)
  case first =>
    by_cases h0 : 0 < s.size
    · go_wp2_with fail
      go_meet
      exact ⟨_, rfl, fun _ => h0, rfl⟩
    · go_wp2_with fail
      go_meet
      exact ⟨_, rfl, fun h => Bool.noConfusion h, rfl⟩
  case rest =>
    obtain ⟨b, rfl, hb0, rfl⟩ := hcut
    cases b
    · have HTS : Hid (s.size ≤ s.size) := Lib.hid (Nat.le_refl _)
      go_wp2_with fail
      refine (HD.out _ _ HTS.out).mono ?_
      rintro e w2 ⟨bb, hbb, rfl, rfl⟩
      have hts := HTS.out
      cases bb
      · go_wp2_with fail
        exact retP0 rfl (by simp [results, Tryd.results16, go_sem]) (Below.refl _ _)
      · have HDP := Lib.hid (hbb rfl)
        by_cases h19 : 19 < s.size
        · go_wp2_with fail
          exact retP0 rfl (by simp [results, Tryd.results16, go_sem]) (Below.refl _ _)
        · go_wp2_with fail
          go_loop [6, 7] (fun n i => ∃ (j : Nat) (m : Int), j ≤ s.size ∧ i = .int .i64 (j : Nat) ∧ n = .int .i64 m ∧ -9223372036854775808 ≤ m ∧ m ≤ 0) (fun _ i => s.size - (intOf i).toNat)
          case atStart => exact ⟨0, 0, Nat.zero_le _, rfl, rfl, by omega, by omega⟩
          case round =>
            obtain ⟨j, m, hj, rfl, rfl, hm1, hm2⟩ := hrel
            by_cases hlt : j < s.size
            · obtain ⟨d1, d2⟩ := HDP.out j hlt
              have hbt := byte_lt s[j]
              by_cases hq : m < (-9223372036854775808 + (((s[j]'hlt).toNat : Int) - 48)).tdiv 10
              · go_wp2_with fail
                exact retP0 rfl (by simp [results, Tryd.results16, go_sem]) (Below.refl _ _)
              · have hge := tdiv_ge (c := ((s[j]'hlt).toNat : Int) - 48) (by omega) (by omega) hq
                have hr1 : -9223372036854775808 ≤ m * 10 - (((s[j]'hlt).toNat : Int) - 48) := by omega
                have hr2 : m * 10 - (((s[j]'hlt).toNat : Int) - 48) ≤ 0 := by omega
                have hq2 : decide (m < (-9223372036854775808 + (((s[j]'hlt).toNat : Int) - 48)).tdiv 10) = false := decide_eq_false hq
                clear hge
                go_wp2_with fail
                go_round
                case rel => exact ⟨j + 1, _, by omega, by go_num, rfl, hr1, hr2⟩
                case measure => simp [intOf]; omega
            · obtain rfl : j = s.size := by omega
              by_cases hm : m = -9223372036854775808
              · go_wp2_with fail
                exact retP0 rfl (by simp [results, Tryd.results16, go_sem]) (Below.refl _ _)
              · have hm2 : (m == -9223372036854775808) = false := beq_eq_false_iff_ne.2 hm
                go_wp2_with fail
                refine (HF.out (-m) _ (by omega) (by omega)).mono ?_
                rintro e w3 ⟨rfl, hb3⟩
                have HB3 := Lib.hid hb3
                clear hb3
                have HFS : Hid ((⟨(Lib.itoa (-m)).toArray⟩ : ByteArray) = numB (-m)) := Lib.hid rfl
                generalize (⟨(Lib.itoa (-m)).toArray⟩ : ByteArray) = fs at *
                cases hq : (fs.toList == s.toList)
                · go_wp2_with fail
                  exact retP0 rfl (by simp [results, Tryd.results16, go_sem]) HB3.out
                · have HEQ : Hid (s = numB (-m)) := Lib.hid (by rw [← HFS.out]; have h := eq_of_beq hq; rw [Lib.toList_data, Lib.toList_data] at h; exact (Go.WideShapes.bytes_inj h).symm)
                  go_wp2_with fail
                  exact retP (n := -m) (b := true) (by omega) (by omega) (fun _ => HEQ.out) (fun h => Bool.noConfusion h) rfl (by simp [results, Tryd.results16, go_sem]) HB3.out
    · have h0 := hb0 rfl
      have HTS : Hid ((s.extract 1 s.size).size ≤ s.size) := Lib.hid (by rw [ByteArray.size_extract]; omega)
      go_wp2_with fail
      refine (HD.out _ _ HTS.out).mono ?_
      rintro e w2 ⟨bb, hbb, rfl, rfl⟩
      generalize s.extract 1 s.size = t at *
      have hts := HTS.out
      cases bb
      · go_wp2_with fail
        exact retP0 rfl (by simp [results, Tryd.results16, go_sem]) (Below.refl _ _)
      · have HDP := Lib.hid (hbb rfl)
        by_cases h19 : 19 < t.size
        · go_wp2_with fail
          exact retP0 rfl (by simp [results, Tryd.results16, go_sem]) (Below.refl _ _)
        · go_wp2_with fail
          go_loop [6, 7] (fun n i => ∃ (j : Nat) (m : Int), j ≤ t.size ∧ i = .int .i64 (j : Nat) ∧ n = .int .i64 m ∧ -9223372036854775808 ≤ m ∧ m ≤ 0) (fun _ i => t.size - (intOf i).toNat)
          case atStart => exact ⟨0, 0, Nat.zero_le _, rfl, rfl, by omega, by omega⟩
          case round =>
            obtain ⟨j, m, hj, rfl, rfl, hm1, hm2⟩ := hrel
            by_cases hlt : j < t.size
            · obtain ⟨d1, d2⟩ := HDP.out j hlt
              have hbt := byte_lt t[j]
              by_cases hq : m < (-9223372036854775808 + (((t[j]'hlt).toNat : Int) - 48)).tdiv 10
              · go_wp2_with fail
                exact retP0 rfl (by simp [results, Tryd.results16, go_sem]) (Below.refl _ _)
              · have hge := tdiv_ge (c := ((t[j]'hlt).toNat : Int) - 48) (by omega) (by omega) hq
                have hr1 : -9223372036854775808 ≤ m * 10 - (((t[j]'hlt).toNat : Int) - 48) := by omega
                have hr2 : m * 10 - (((t[j]'hlt).toNat : Int) - 48) ≤ 0 := by omega
                have hq2 : decide (m < (-9223372036854775808 + (((t[j]'hlt).toNat : Int) - 48)).tdiv 10) = false := decide_eq_false hq
                clear hge
                go_wp2_with fail
                go_round
                case rel => exact ⟨j + 1, _, by omega, by go_num, rfl, hr1, hr2⟩
                case measure => simp [intOf]; omega
            · obtain rfl : j = t.size := by omega
              go_wp2_with fail
              refine (HF.out m _ (by omega) (by omega)).mono ?_
              rintro e w3 ⟨rfl, hb3⟩
              have HB3 := Lib.hid hb3
              clear hb3
              have HFS : Hid ((⟨(Lib.itoa m).toArray⟩ : ByteArray) = numB m) := Lib.hid rfl
              generalize (⟨(Lib.itoa m).toArray⟩ : ByteArray) = fs at *
              cases hq : (fs.toList == s.toList)
              · go_wp2_with fail
                exact retP0 rfl (by simp [results, Tryd.results16, go_sem]) HB3.out
              · have HEQ : Hid (s = numB (m)) := Lib.hid (by rw [← HFS.out]; have h := eq_of_beq hq; rw [Lib.toList_data, Lib.toList_data] at h; exact (Go.WideShapes.bytes_inj h).symm)
                go_wp2_with fail
                exact retP (n := m) (b := true) (by omega) (by omega) (fun _ => HEQ.out) (fun h => Bool.noConfusion h) rfl (by simp [results, Tryd.results16, go_sem]) HB3.out
set_option maxRecDepth 20000 in
set_option maxHeartbeats 4000000 in
theorem specParseInt_pos (u : Nat) (w : World) (hu : u ≤ 9223372036854775807) :
    Calls Tryd.prog 16 #[.string (numB (u : Int))] w fun e w' => e = .returned (.tuple #[.int .i64 (u : Int), .bool true]) ∧ Below w.heap.size w w' := by
  have hdl : (Lib.decDigits u).length ≤ 19 := by rw [Lib.decDigits_length]; exact nDigits_le 18 u (by omega)
  have hd0 : 0 < (Lib.decDigits u).length := by rw [Lib.decDigits_length]; exact Lib.nDigits_pos u
  have HDC := Lib.hid (decFrom_digits u)
  have HDD := Lib.hid (decDigits_dig u)
  have HF := Lib.hid (fun W => specFormatInt_any (u : Int) W (by omega) (by omega))
  have HNB : Hid ((⟨(Lib.itoa (u : Int)).toArray⟩ : ByteArray) = numB (u : Int)) := Lib.hid rfl
  rw [HNB.out] at HF
  have hq : ((numB (u : Int)).toList == (numB (u : Int)).toList) = true := by simp
  have HSL : Hid ((numB (u : Int)).data.toList = Lib.decDigits u) := Lib.hid (by rw [numB_nat])
  generalize Lib.decDigits u = l at *
  generalize numB (u : Int) = s at *
  clear HNB
  have hsz : s.size = l.length := by rw [show s.size = s.data.toList.length from Array.length_toList.symm, HSL.out]
  have HAT : Hid (∀ j (h : j < s.size) (h' : j < l.length), s[j] = l[j]) := Lib.hid (fun j h h' => by
    have e : s.data.toList[j]? = l[j]? := by rw [HSL.out]
    rw [Array.getElem?_toList, Array.getElem?_eq_getElem (by exact h), List.getElem?_eq_getElem h'] at e
    exact Option.some.inj e)
  have h0 : 0 < s.size := by omega
  have HD := Lib.hid (fun W => specIsDigits_x s W (by unfold maxLen; omega) h0 (fun j hj => by
    rw [HAT.out j hj (by omega)]
    have := HDD.out l[j] (List.getElem_mem (by omega))
    omega))
  have hne : (((s[0]'h0).toNat : Int) == 45) = false := by
    rw [HAT.out 0 h0 (by omega), beq_eq_false_iff_ne]
    have := HDD.out l[0] (List.getElem_mem (by omega))
    omega
  have h19 : ¬ 19 < (s.size : Int) := by omega
  go_enter Tryd.func16, Tryd.ntmps16
  go_wp2_with fail
  refine (HD.out _).mono ?_
  rintro e w2 ⟨rfl, rfl⟩
  go_wp2_with fail
  go_loop [6, 7] (fun n i => ∃ (j v : Nat), j ≤ s.size ∧ i = .int .i64 (j : Nat) ∧ n = .int .i64 (-(v : Int)) ∧ Hid (Lib.decFrom 0 (l.take j) = some v) ∧ v ≤ u) (fun _ i => s.size - (intOf i).toNat)
  case atStart => exact ⟨0, 0, Nat.zero_le _, rfl, rfl, Lib.hid (by simp [Lib.decFrom]), Nat.zero_le _⟩
  case round =>
    obtain ⟨j, v, hj, rfl, rfl, HV, hv⟩ := hrel
    by_cases hlt : j < s.size
    · have hjl : j < l.length := by omega
      obtain ⟨d, hd, hd9, HS, hsu⟩ := dec_step HDC.out hjl HV.out
      have hbd : (s[j]'hlt).toNat = 48 + d := by rw [HAT.out j hlt hjl]; exact hd
      have hlo : 48 ≤ ((s[j]'hlt).toNat : Int) := by omega
      have hhi : ((s[j]'hlt).toNat : Int) ≤ 57 := by omega
      have hq1 : ¬ -(v : Int) < (-9223372036854775808 + (((s[j]'hlt).toNat : Int) - 48)).tdiv 10 := by
        rw [show -9223372036854775808 + (((s[j]'hlt).toNat : Int) - 48) = -(9223372036854775808 - (d : Int)) by omega, Int.neg_tdiv, Int.tdiv_eq_ediv_of_nonneg (by omega)]
        omega
      have hq2 : decide (-(v : Int) < (-9223372036854775808 + (((s[j]'hlt).toNat : Int) - 48)).tdiv 10) = false := decide_eq_false hq1
      have hr1 : -9223372036854775808 ≤ -(v : Int) * 10 - (((s[j]'hlt).toNat : Int) - 48) := by omega
      have hr2 : -(v : Int) * 10 - (((s[j]'hlt).toNat : Int) - 48) ≤ 0 := by omega
      have HNX : Hid (-(v : Int) * 10 - (((s[j]'hlt).toNat : Int) - 48) = -((v * 10 + d : Nat) : Int)) := Lib.hid (by omega)
      have HS2 := Lib.hid HS
      have hji : (j : Int) < (s.size : Int) := by omega
      clear hd HS hbd
      go_wp2_with fail
      go_round
      case rel => exact ⟨j + 1, v * 10 + d, by omega, by go_num, by rw [HNX.out], HS2, hsu⟩
      case measure => simp [intOf]; omega
    · have hjl : j = l.length := by omega
      have hvu : v = u := by
        have h := HV.out
        rw [hjl, List.take_length, HDC.out] at h
        exact (Option.some.inj h).symm
      subst hvu
      have hji : ¬ (j : Int) < (s.size : Int) := by omega
      clear hjl
      have hmne : ((-(v : Int)) == -9223372036854775808) = false := by rw [beq_eq_false_iff_ne]; omega
      have hneg : - -(v : Int) = (v : Int) := by omega
      go_wp2_with fail
      refine (HF.out _).mono ?_
      rintro e w3 ⟨rfl, hb3⟩
      have HB3 := Lib.hid hb3
      clear hb3
      go_wp2_with fail
      refine bodyPost_ret (v := .tuple #[.int .i64 (v : Nat), .bool true]) ?_ rfl ⟨rfl, HB3.out⟩
      simp [results, Tryd.results16, go_sem]
set_option maxRecDepth 20000 in
set_option maxHeartbeats 4000000 in
theorem specParseInt_neg (u : Nat) (w : World) (hu1 : 1 ≤ u) (hu : u ≤ 9223372036854775808) :
    Calls Tryd.prog 16 #[.string (numB (-(u : Int)))] w fun e w' => e = .returned (.tuple #[.int .i64 (-(u : Int)), .bool true]) ∧ Below w.heap.size w w' := by
  have hdl : (Lib.decDigits u).length ≤ 19 := by rw [Lib.decDigits_length]; exact nDigits_le 18 u (by omega)
  have hd0 : 0 < (Lib.decDigits u).length := by rw [Lib.decDigits_length]; exact Lib.nDigits_pos u
  have HDC := Lib.hid (decFrom_digits u)
  have HDD := Lib.hid (decDigits_dig u)
  have HF := Lib.hid (fun W => specFormatInt_any (-(u : Int)) W (by omega) (by omega))
  have HNB : Hid ((⟨(Lib.itoa (-(u : Int))).toArray⟩ : ByteArray) = numB (-(u : Int))) := Lib.hid rfl
  rw [HNB.out] at HF
  have hq : ((numB (-(u : Int))).toList == (numB (-(u : Int))).toList) = true := by simp
  have HSL : Hid ((numB (-(u : Int))).data.toList = 45 :: Lib.decDigits u) := Lib.hid (by rw [numB_neg hu1])
  generalize Lib.decDigits u = l at *
  generalize numB (-(u : Int)) = s at *
  clear HNB
  have HTL : Hid ((s.extract 1 s.size).data.toList = l) := Lib.hid (by
    have e : s.size = l.length + 1 := by rw [show s.size = s.data.toList.length from Array.length_toList.symm, HSL.out]; rfl
    rw [ByteArray.data_extract, Array.toList_extract, List.extract_eq_take_drop, HSL.out, e]
    simp)
  have h0s : 0 < s.size := by rw [show s.size = s.data.toList.length from Array.length_toList.symm, HSL.out]; exact Nat.succ_pos _
  have hne : (((s[0]'h0s).toNat : Int) == 45) = true := by
    have e : s.data.toList[0]? = some 45 := by rw [HSL.out]; rfl
    rw [Array.getElem?_toList, Array.getElem?_eq_getElem (by exact h0s)] at e
    have e2 : s[0] = 45 := Option.some.inj e
    rw [e2]; rfl
  obtain ⟨t, ht⟩ : ∃ t, s.extract 1 s.size = t := ⟨_, rfl⟩
  have HTT := Lib.hid ht
  rw [ht] at HTL
  have hsz : t.size = l.length := by rw [show t.size = t.data.toList.length from Array.length_toList.symm, HTL.out]
  have HAT : Hid (∀ j (h : j < t.size) (h' : j < l.length), t[j] = l[j]) := Lib.hid (fun j h h' => by
    have e : t.data.toList[j]? = l[j]? := by rw [HTL.out]
    rw [Array.getElem?_toList, Array.getElem?_eq_getElem (by exact h), List.getElem?_eq_getElem h'] at e
    exact Option.some.inj e)
  have h0 : 0 < t.size := by omega
  have HD := Lib.hid (fun W => specIsDigits_x t W (by unfold maxLen; omega) h0 (fun j hj => by
    rw [HAT.out j hj (by omega)]
    have := HDD.out l[j] (List.getElem_mem (by omega))
    omega))
  have h19 : ¬ 19 < (t.size : Int) := by omega
  go_enter Tryd.func16, Tryd.ntmps16
  go_wp2_with fail
  refine (HD.out _).mono ?_
  rintro e w2 ⟨rfl, rfl⟩
  go_wp2_with fail
  go_loop [6, 7] (fun n i => ∃ (j v : Nat), j ≤ t.size ∧ i = .int .i64 (j : Nat) ∧ n = .int .i64 (-(v : Int)) ∧ Hid (Lib.decFrom 0 (l.take j) = some v) ∧ v ≤ u) (fun _ i => t.size - (intOf i).toNat)
  case atStart => exact ⟨0, 0, Nat.zero_le _, rfl, rfl, Lib.hid (by simp [Lib.decFrom]), Nat.zero_le _⟩
  case round =>
    obtain ⟨j, v, hj, rfl, rfl, HV, hv⟩ := hrel
    by_cases hlt : j < t.size
    · have hjl : j < l.length := by omega
      obtain ⟨d, hd, hd9, HS, hsu⟩ := dec_step HDC.out hjl HV.out
      have hbd : (t[j]'hlt).toNat = 48 + d := by rw [HAT.out j hlt hjl]; exact hd
      have hlo : 48 ≤ ((t[j]'hlt).toNat : Int) := by omega
      have hhi : ((t[j]'hlt).toNat : Int) ≤ 57 := by omega
      have hq1 : ¬ -(v : Int) < (-9223372036854775808 + (((t[j]'hlt).toNat : Int) - 48)).tdiv 10 := by
        rw [show -9223372036854775808 + (((t[j]'hlt).toNat : Int) - 48) = -(9223372036854775808 - (d : Int)) by omega, Int.neg_tdiv, Int.tdiv_eq_ediv_of_nonneg (by omega)]
        omega
      have hq2 : decide (-(v : Int) < (-9223372036854775808 + (((t[j]'hlt).toNat : Int) - 48)).tdiv 10) = false := decide_eq_false hq1
      have hr1 : -9223372036854775808 ≤ -(v : Int) * 10 - (((t[j]'hlt).toNat : Int) - 48) := by omega
      have hr2 : -(v : Int) * 10 - (((t[j]'hlt).toNat : Int) - 48) ≤ 0 := by omega
      have HNX : Hid (-(v : Int) * 10 - (((t[j]'hlt).toNat : Int) - 48) = -((v * 10 + d : Nat) : Int)) := Lib.hid (by omega)
      have HS2 := Lib.hid HS
      have hji : (j : Int) < (t.size : Int) := by omega
      clear hd HS hbd
      go_wp2_with fail
      go_round
      case rel => exact ⟨j + 1, v * 10 + d, by omega, by go_num, by rw [HNX.out], HS2, hsu⟩
      case measure => simp [intOf]; omega
    · have hjl : j = l.length := by omega
      have hvu : v = u := by
        have h := HV.out
        rw [hjl, List.take_length, HDC.out] at h
        exact (Option.some.inj h).symm
      subst hvu
      have hji : ¬ (j : Int) < (t.size : Int) := by omega
      clear hjl
      go_wp2_with fail
      refine (HF.out _).mono ?_
      rintro e w3 ⟨rfl, hb3⟩
      have HB3 := Lib.hid hb3
      clear hb3
      go_wp2_with fail
      refine bodyPost_ret (v := .tuple #[.int .i64 (-(v : Int)), .bool true]) ?_ rfl ⟨rfl, HB3.out⟩
      simp [results, Tryd.results16, go_sem]
theorem specParseInt_full (s : ByteArray) (w : World) (hs : s.size ≤ 2 ^ 20) :
    Calls Tryd.prog 16 #[.string s] w (RetPI s w) := by
  by_cases h : ∃ n, IsNum s n
  · obtain ⟨n, hn⟩ := h
    have hn' := hn
    obtain ⟨⟨h0, h1⟩, rfl⟩ := hn
    by_cases hneg : n < 0
    · obtain ⟨u, rfl⟩ : ∃ u : Nat, n = -(u : Int) := ⟨n.natAbs, by omega⟩
      exact (specParseInt_neg u w (by omega) (by omega)).mono fun e w' ⟨he, hb⟩ => he ▸ RetPI.yes hn' hb
    · obtain ⟨u, rfl⟩ : ∃ u : Nat, n = (u : Int) := ⟨n.natAbs, by omega⟩
      exact (specParseInt_pos u w (by omega)).mono fun e w' ⟨he, hb⟩ => he ▸ RetPI.yes hn' hb
  · refine (specParseInt_no s w hs).mono ?_
    rintro e w' ⟨n, b, rfl, ⟨rfl, hn⟩ | ⟨rfl, rfl⟩, hb⟩
    · exact absurd ⟨n, hn⟩ h
    · exact RetPI.no (fun m hm => h ⟨m, hm⟩) hb
end Go.Proofs.YtklbehapbchnaaaDoor
namespace Go.Proofs.YtklbehapbchnaaaDoor
open Go.RowKit Go.ChangeShapes Go.WideShapes Go.ChangeAt Go.Joins Go.Deep
set_option linter.unusedVariables false
theorem Tryd.infoLink : (Tryd.prog.info? 38).map (fun i => (i.zero, i.size, i.bytes)) = some (some (.agg #[.int .i64 0, .int .i64 0, .bool false]), 3, 24) := by kernel_rfl
set_option maxHeartbeats 400000 in
theorem eqLink_same (x y : Int) (z : Bool) (w : World) :
    Calls Tryd.prog 22 #[.agg #[.int .i64 x, .int .i64 y, .bool z], .agg #[.int .i64 x, .int .i64 y, .bool z]] w fun e w' => e = .returned (.bool true) ∧ Below w.heap.size w w' := by
  go_enter Tryd.func22, Tryd.ntmps22
  go_wp2_with fail
  go_ret
  exact ⟨rfl, by repeat (first | exact Below.refl _ _ | refine Below.alloc ?_ (by simp; try omega) _)⟩
set_option maxHeartbeats 1000000 in
theorem eqLinkS_same (l : List (Int × Int × Bool)) (a1 a2 : Option Addr) (c1 c2 : Nat) (w : World) (h1 : LinksIn w a1 l) (h2 : LinksIn w a2 l) (hlen : l.length ≤ 2 ^ 47) :
    Calls Tryd.prog 7 #[.slice a1 l.length c1, .slice a2 l.length c2] w fun e w' => e = .returned (.bool true) ∧ Below w.heap.size w w' := by
  have H1 := Lib.hid h1
  have H2 := Lib.hid h2
  clear h1 h2
  go_enter Tryd.func7, Tryd.ntmps7
  go_wp2
  go_loopw [5] (fun i wr => ∃ j : Nat, j ≤ l.length ∧ i = .int .i64 j ∧ Below w.heap.size w wr) (fun i _ => l.length - (intOf i).toNat)
  case atStart => exact ⟨0, Nat.zero_le _, rfl, Below.refl _ _⟩
  case round =>
    obtain ⟨j, hj, rfl, hbel⟩ := hrel
    by_cases hlt : j < l.length
    · obtain ⟨b1, o1, rfl, hb1, hc1⟩ := (H1.out.later hbel).cell hlt
      obtain ⟨b2, o2, rfl, hb2, hc2⟩ := (H2.out.later hbel).cell hlt
      have g1 : ∀ x, (wide wr x).cell? ⟨b1, o1 + j * 3, none⟩ = some (.int .i64 (nthK l j).1) := wide_cell (hc1 j hlt).1
      have g2 : ∀ x, (wide wr x).cell? ⟨b1, o1 + j * 3 + 1, none⟩ = some (.int .i64 (nthK l j).2.1) := wide_cell (hc1 j hlt).2.1
      have g5 : ∀ x, (wide wr x).cell? ⟨b1, o1 + j * 3 + 2, none⟩ = some (.bool (nthK l j).2.2) := wide_cell (hc1 j hlt).2.2
      have g3 : ∀ x, (wide wr x).cell? ⟨b2, o2 + j * 3, none⟩ = some (.int .i64 (nthK l j).1) := wide_cell (hc2 j hlt).1
      have g4 : ∀ x, (wide wr x).cell? ⟨b2, o2 + j * 3 + 1, none⟩ = some (.int .i64 (nthK l j).2.1) := wide_cell (hc2 j hlt).2.1
      have g6 : ∀ x, (wide wr x).cell? ⟨b2, o2 + j * 3 + 2, none⟩ = some (.bool (nthK l j).2.2) := wide_cell (hc2 j hlt).2.2
      clear hc1 hc2
      go_wp2_with fail
      refine region_wide (by kernel_rfl) (by kernel_rfl) ?_
      repeat (quiet_step ((go_at_call 22; refine (eqLink_same _ _ _ _).mono ?_; rintro e w2 ⟨rfl, hb2⟩; exact ⟨rfl, wide_next hb2⟩)))
      refine wpQuiet_nil ?_
      rintro w4 ⟨x4, rfl⟩
      have hbel2 := Below.now hbel (below_wide wr x4)
      clear hbel g1 g2 g3 g4 g5 g6
      go_wp2_with fail
      go_roundw
      case rel => exact ⟨j + 1, by omega, by go_num, hbel2⟩
      case measure => simp [intOf]; omega
    · go_wp2_with fail
      go_ret
      exact ⟨rfl, hbel⟩
end Go.Proofs.YtklbehapbchnaaaDoor
namespace Go.Proofs.YtklbehapbchnaaaDoor
open Go.RowKit
set_option linter.unusedVariables false
theorem rows_neL {w : World} {base base' size size' n m : Nat} {T T' : TypeId} {v u : Value} {xs ys : List Value} (h : w.ownsRow base T size v n xs) (h' : w.ownsRow base' T' size' u m ys) (hT : T ≠ T') : ∀ k, v.ownBlock = some k → u.ownBlock ≠ some k := fun k hk e => by
  rcases h.2 with ⟨rfl, _⟩ | ⟨g, cap, cur, rfl, _, hgb, _⟩
  · simp [Value.ownBlock] at hk
  · rcases h'.2 with ⟨rfl, _⟩ | ⟨g', cap', cur', rfl, _, hgb', _⟩
    · simp [Value.ownBlock] at e
    · obtain rfl : g = k := by simpa [Value.ownBlock] using hk
      obtain rfl : g' = g := by simpa [Value.ownBlock] using e
      rw [hgb] at hgb'
      simp only [Option.some.injEq, Obj.cells.injEq] at hgb'
      exact hT hgb'.2.1
theorem bld_keptL {T : TypeId} {size : Nat} {w wr wr' : World} {v : Value} {n : Nat} {xs : List Value} {own : Option Nat} (h : Bld T size w wr v n xs) (hg : wr.grownBy wr' own) (hne : ∀ k, v.ownBlock = some k → own ≠ some k) (ho : ∀ k, own = some k → w.heap.size ≤ k) : Bld T size w wr' v n xs := by
  refine ⟨h.1.kept hg ?_, h.2.grown hg h.2.size ho⟩
  cases hv : v.ownBlock with
  | none => exact .inl rfl
  | some k => exact .inr fun e => hne k hv (e.symm ▸ rfl)
theorem tail_size {s : ByteArray} {n : Nat} (h : s.size ≤ n) : (s.extract 1 s.size).size ≤ n := by
  rw [ByteArray.size_extract]
  exact Nat.le_trans (Nat.sub_le _ _) (Nat.le_trans (Nat.min_le_left _ _) h)
/-- the parts' row, and the links so far -/
structure PkS (w wr : World) (P : List ByteArray) (vP : Value) (Q : List LkZ) (vQ : Value) : Prop where
  parts : Bld 9 1 w wr vP P.length (strVals P)
  links : Bld 38 3 w wr vQ Q.length (linkCells Q)
theorem PkS.later {w wr wr' : World} {P : List ByteArray} {Q : List LkZ} {vP vQ : Value} (h : PkS w wr P vP Q vQ) (hb : Below wr.heap.size wr wr') : PkS w wr' P vP Q vQ := ⟨h.parts.later hb, h.links.later hb⟩
theorem PkS.put {w wr w' : World} {P : List ByteArray} {Q : List LkZ} {vP vQ v' : Value} {x : LkZ} {cs : Array Value} {T : TypeId} (h : PkS w wr P vP Q vQ) (hb : Bld 38 3 w w' v' (Q.length + 1) (linkCells Q ++ lkCell x)) (hg : (wr.alloc (.cells cs T)).grownBy w' vQ.ownBlock) : PkS w w' P vP (Q ++ [x]) v' := by
  have h1 := h.later (alloc_belowS wr (.cells cs T))
  refine ⟨bld_keptL h1.parts hg (fun k hk e => rows_neL h1.parts.1 h1.links.1 (by decide) k hk e) (fun k hk => (h1.links.1.lt k hk).1), ?_⟩
  rw [linkCells_app, List.length_append]; exact hb
theorem retK {t : ByteArray} {w wr : World} {L : List LkZ} {b : Bool} {a : Option Addr} {c : Nat} (h : AnsK t L b) (hb : Bld 38 3 w wr (.slice a L.length c) L.length (linkCells L)) : RetPK t w (.returned (.tuple #[.slice a L.length c, .bool b])) wr := ⟨L, b, a, c, h, rfl, hb.1, hb.2, h.len⟩
theorem retK0 {t : ByteArray} {w wr : World} (h : AnsK t [] false) (hb : Below w.heap.size w wr) : RetPK t w (.returned (.tuple #[.slice none 0 0, .bool false])) wr := retK (L := []) h (Bld.nil _ _ hb)
set_option maxRecDepth 100000 in
set_option maxHeartbeats 8000000 in
theorem specParseLinks_any (t : ByteArray) (w : World) (ht : t.size ≤ 2 ^ 20) :
    Calls Tryd.prog 5 #[.string t] w (RetPK t w) := by
  have HSP := Lib.hid (fun s c W h => specSplitAny_x s c W h)
  have HPI := Lib.hid (fun s W h => specParseInt_full s W h)
  have HE := Lib.hid (Bld.empty 38 3 w)
  by_cases hq : (t.toList == [61]) = true
  · have HR : Hid (AnsK t [] true) := Lib.hid (.inl ⟨by rw [Lib.toList_data] at hq; exact Go.WideShapes.bytes_inj (eq_of_beq hq), rfl, rfl⟩)
    go_enter Tryd.func5, Tryd.ntmps5
    go_wp2_with fail
    refine bodyPost_ret (v := .tuple #[.slice (some ⟨w.heap.size, 0, none⟩) 0 0, .bool true]) ?_ rfl (retK (L := []) HR.out HE.out)
    simp [results, Tryd.results5, go_sem]
  · have hq2 : (t.toList == [61]) = false := Bool.not_eq_true _ ▸ hq
    have HNE : Hid (t ≠ ⟨#[61]⟩) := Lib.hid (fun e => hq (by rw [e, Lib.toList_data]; rfl))
    have HTZ := Lib.hid ht
    have HAN : Hid (NoLk t → AnsK t [] false) := Lib.hid (fun h => .inr (.inr ⟨HNE.out, h, rfl, rfl⟩))
    clear hq
    go_enter Tryd.func5, Tryd.ntmps5
    go_wp2_with fail
    refine (HSP.out t 32 _ HTZ.out).mono ?_
    rintro e w2 ⟨aP, cP, rfl, ho, hb2⟩
    have HP2 : Hid (Bld 9 1 w w2 (.slice aP (splitB t 32).length cP) (splitB t 32).length (strVals (splitB t 32))) := Lib.hid (Bld.since (w := w.alloc (.cells #[] 38)) ⟨ho, hb2⟩ (alloc_belowS _ _))
    have HS2 : Hid (PkS w w2 (splitB t 32) (.slice aP (splitB t 32).length cP) [] (.slice (some ⟨w.heap.size, 0, none⟩) 0 0)) := Lib.hid ⟨HP2.out, HE.out.later hb2⟩
    have HLP : Hid ((splitB t 32).length ≤ 2 ^ 20 + 1) := Lib.hid (by
      have h1 := (spT_le t 32 t.size).2
      have h2 := HTZ.out
      unfold splitB
      rw [List.length_append]
      simp
      omega)
    have HPS : Hid (∀ k, k < (splitB t 32).length → (nthS (splitB t 32) k).size ≤ 2 ^ 20) := Lib.hid (fun k hk => by
      have h := part_size t 32 (nthS (splitB t 32) k) (by rw [nthS_lt hk]; exact List.getElem_mem hk)
      have := HTZ.out; omega)
    have HP0 := Lib.hid (split_pos t 32)
    have HALL := Lib.hid (fun Q (hl : Q.length = (splitB t 32).length) hr hq => ans_all goodP HNE.out (Q := Q) hl hr hq HP0.out)
    have HBAD := Lib.hid (fun k (hk : k < (splitB t 32).length) h => HAN.out (no_part hk h))
    clear ho hb2 HP2
    obtain ⟨P, hP⟩ : ∃ P, splitB t 32 = P := ⟨_, rfl⟩
    rw [hP] at HS2 HLP HPS HALL HBAD HP0 ⊢
    clear hP
    have hlp : P.length ≤ 1048577 := HLP.out
    clear HE
    go_wp2_with fail
    go_loopw [4, 19] (fun o i wr => ∃ (j : Nat) (Q : List LkZ), j ≤ P.length ∧ i = .int .i64 (j : Nat) ∧ Q.length = j ∧ Hid (RngK Q ∧ ∀ k, k < Q.length → GoodP (nthS P k) (nthK Q k)) ∧ Hid (PkS w wr P (.slice aP P.length cP) Q o)) (fun _ i _ => P.length - (intOf i).toNat)
    case atStart => exact ⟨0, [], Nat.zero_le _, rfl, rfl, Lib.hid ⟨RngK.nil, fun k hk => absurd hk (Nat.not_lt_zero _)⟩, HS2⟩
    case round =>
      clear HS2
      obtain ⟨j, Q, hj, rfl, hjl, HQ, HS⟩ := hrel
      obtain ⟨aQ, cQ, rfl⟩ := owns_form HS.out.links.1
      have HJL := Lib.hid hjl
      have hQl : Q.length ≤ P.length := by omega
      clear hjl
      by_cases hlt : j < P.length
      · obtain ⟨g, off, rfl, hg0, hc⟩ := (show StrsIn wr aP P from owns_cells HS.out.parts.1).cell hlt
        have c0 := hc j hlt
        have hszk := HPS.out j hlt
        have HBK := Lib.hid (HBAD.out j hlt)
        have HBL := Lib.hid HS.out.links.2
        obtain ⟨s, hs⟩ : ∃ s, nthS P j = s := ⟨_, rfl⟩
        rw [hs] at c0 hszk HBK
        have HSJ := Lib.hid hs
        have hij : (j : Int) < (P.length : Int) := by omega
        clear hc hs hg0
        by_cases h0 : 0 < s.size
        · have hse : (s.toList == []) = false := by
            rw [Lib.toList_data]
            cases e : s.data.toList with
            | nil => have h1 : s.size = s.data.toList.length := Array.length_toList.symm
                     rw [e] at h1
                     have h2 : s.size = 0 := h1
                     omega
            | cons _ _ => rfl
          have HTL : Hid ((s.extract 1 s.size).size ≤ 2 ^ 20) := Lib.hid (tail_size hszk)
          have h1s : (1 : Int) ≤ (s.size : Int) := by omega
          go_wp2_with fail
          refine (HSP.out _ 64 _ HTL.out).mono ?_
          rintro e w3 ⟨a3, c3, rfl, ho3, hb3⟩
          have HS3 := Lib.hid (HS.out.later hb3)
          have HBL3 := Lib.hid (Below.now HBL.out hb3)
          have HO3 := Lib.hid ho3
          have HW2 : Hid (∀ k, k < (splitB (s.extract 1 s.size) 64).length → (nthS (splitB (s.extract 1 s.size) 64) k).size ≤ 2 ^ 20) := Lib.hid (fun k hk => by
            have h := part_size (s.extract 1 s.size) 64 (nthS (splitB (s.extract 1 s.size) 64) k) (by rw [nthS_lt hk]; exact List.getElem_mem hk)
            have := HTL.out; omega)
          have HLX : Hid (∀ x, InK x → s = linkB x → splitB (s.extract 1 s.size) 64 = [numB x.1, numB x.2.1]) := Lib.hid (fun x _ e => by rw [e]; exact linkB_split x)
          have HGP : Hid (∀ (x : LkZ) a b, splitB (s.extract 1 s.size) 64 = [a, b] → IsNum a x.1 → IsNum b x.2.1 → ((((s[0]'h0).toNat : Nat) : Int) == 45) = x.2.2 → GoodP s x) := Lib.hid (fun x a b h ha hb hs => ⟨h0, ⟨a, b, h, ha, hb⟩, hs⟩)
          clear hb3 ho3 c0
          obtain ⟨W2, hW2⟩ : ∃ W2, splitB (s.extract 1 s.size) 64 = W2 := ⟨_, rfl⟩
          rw [hW2] at HO3 HW2 HLX HGP ⊢
          clear hW2
          by_cases h2 : W2.length = 2
          · obtain ⟨p, q, rfl⟩ : ∃ p q, W2 = [p, q] := by
              match W2, h2 with
              | [p, q], _ => exact ⟨p, q, rfl⟩
            obtain ⟨g3, o3, rfl, hg3, hc3⟩ := (show StrsIn w3 a3 [p, q] from owns_cells HO3.out).cell (i := 0) (show 0 < 2 by omega)
            have d0 : w3.cell? ⟨g3, o3, none⟩ = some (.string p) := hc3 0 (show 0 < 2 by omega)
            have hp20 : p.size ≤ 2 ^ 20 := HW2.out 0 (show 0 < 2 by omega)
            have hq20 : q.size ≤ 2 ^ 20 := HW2.out 1 (show 1 < 2 by omega)
            have HC3 : Hid (∀ W, Below w3.heap.size w3 W → W.cell? ⟨g3, o3 + 1, none⟩ = some (.string q)) := Lib.hid (fun W hW => (hW.cell (World.block_lt_of_cell? _ _ (hc3 1 (show 1 < 2 by omega)))).trans (hc3 1 (show 1 < 2 by omega)))
            have HP20 := Lib.hid hp20
            have HQ20 := Lib.hid hq20
            clear hc3 hg3 h2 hp20 hq20
            simp only [List.length_cons, List.length_nil, Nat.zero_add, Nat.reduceAdd]
            go_wp2_with fail
            refine (HPI.out p _ HP20.out).mono ?_
            rintro e w4 ⟨r1, b1, rfl, hr1, hb4⟩
            have d1 := HC3.out w4 hb4
            have HS4 := Lib.hid (HS3.out.later hb4)
            have HBL4 := Lib.hid (Below.now HBL3.out hb4)
            have HR1 := Lib.hid hr1
            clear hb4 hr1 d0
            go_wp2_with fail
            refine (HPI.out q _ HQ20.out).mono ?_
            rintro e w5 ⟨r2, b2, rfl, hr2, hb5⟩
            have HS5 := Lib.hid (HS4.out.later hb5)
            have HBL5 := Lib.hid (Below.now HBL4.out hb5)
            have HR2 := Lib.hid hr2
            clear hb5 hr2 d1
            cases b1
            · have HX : Hid (AnsK t [] false) := Lib.hid (HBK.out fun x hx e => by
                have h := HLX.out x hx e
                simp only [List.cons.injEq, and_true] at h
                rcases HR1.out with ⟨h', _⟩ | ⟨_, _, h'⟩
                · cases h'
                · exact h' x.1 ⟨hx.1, h.1⟩)
              go_wp2_with fail
              refine bodyPost_ret (v := .tuple #[.slice none 0 0, .bool false]) ?_ rfl (retK0 HX.out HBL5.out)
              simp [results, Tryd.results5, go_sem]
            · cases b2
              · have HX : Hid (AnsK t [] false) := Lib.hid (HBK.out fun x hx e => by
                  have h := HLX.out x hx e
                  simp only [List.cons.injEq, and_true] at h
                  rcases HR2.out with ⟨h', _⟩ | ⟨_, _, h'⟩
                  · cases h'
                  · exact h' x.2.1 ⟨hx.2, h.2⟩)
                go_wp2_with fail
                refine bodyPost_ret (v := .tuple #[.slice none 0 0, .bool false]) ?_ rfl (retK0 HX.out HBL5.out)
                simp [results, Tryd.results5, go_sem]
              · have HN1 : Hid (IsNum p r1) := Lib.hid (by
                  rcases HR1.out with ⟨_, h'⟩ | ⟨h', _⟩
                  · exact h'
                  · cases h')
                have HN2 : Hid (IsNum q r2) := Lib.hid (by
                  rcases HR2.out with ⟨_, h'⟩ | ⟨h', _⟩
                  · exact h'
                  · cases h')
                obtain ⟨bk, hbk⟩ : ∃ bk, ((((s[0]'h0).toNat : Nat) : Int) == 45) = bk := ⟨_, rfl⟩
                have HG := Lib.hid (HGP.out (r1, r2, bk) p q rfl HN1.out HN2.out hbk)
                have HW := Lib.hid (HS5.out.links.later (alloc_belowS w5 (.cells #[.int .i64 r1, .int .i64 r2, .bool bk] 38)))
                have M1 : Hid ([Value.int .i64 r1, .int .i64 r2, .bool bk].length = 1 * 3) := Lib.hid rfl
                have M2 : Hid (∀ q ∈ [Value.int .i64 r1, .int .i64 r2, .bool bk], q.oneCell' = true) := Lib.hid (by simp [Value.oneCell'])
                have M3 : Hid (Q.length + 1 ≤ maxLen) := Lib.hid (by unfold maxLen; omega)
                have M4 : Hid ((Q.length + 1) * 24 ≤ 140737488355328) := Lib.hid (by omega)
                clear HR1 HR2 HGP HLX HO3 HC3
                go_wp2_with (at_builtin; (refine wpList_appM rfl (.tmp 51) (.tmp 58) rfl Tryd.underlying22 Tryd.infoLink rfl (by decide) rfl HW.out rfl (Src.lit _) M1.out M2.out M3.out M4.out ?_))
                intro v9 w9 hb9 hg9 ho9
                have HS9 := Lib.hid (HS5.out.put (x := (r1, r2, bk)) hb9 hg9)
                have HR9 : Hid (RngK (Q ++ [(r1, r2, bk)]) ∧ ∀ k, k < (Q ++ [(r1, r2, bk)]).length → GoodP (nthS P k) (nthK (Q ++ [(r1, r2, bk)]) k)) := Lib.hid ⟨HQ.out.1.app ⟨HN1.out.1, HN2.out.1⟩, fun k hk => by
                  by_cases hkq : k < Q.length
                  · have h := HQ.out.2 k hkq
                    rw [nthK_lt hkq] at h
                    rw [nthK_lt hk, List.getElem_append_left hkq]
                    exact h
                  · have e : k = Q.length := by rw [List.length_append] at hk; simp at hk; omega
                    subst e
                    rw [nthK_lt hk, List.getElem_append_right (Nat.le_refl _)]
                    have h := HG.out
                    rw [← HSJ.out, ← HJL.out] at h
                    simpa using h⟩
                have hjl9 : (Q ++ [(r1, r2, bk)]).length = j + 1 := by rw [List.length_append, HJL.out]; rfl
                clear hb9 hg9 ho9 HW M1 M2 M3 M4
                go_wp2_with fail
                go_roundw
                case rel => exact ⟨j + 1, Q ++ [(r1, r2, bk)], by omega, by go_num, hjl9, HR9, HS9⟩
                case measure => simp [intOf]; omega
          · have HX : Hid (AnsK t [] false) := Lib.hid (HBK.out fun x hx e => h2 (by rw [HLX.out x hx e]; rfl))
            have hn2 : (((W2.length : Nat) : Int) != 2) = true := by rw [bne_iff_ne]; omega
            clear h2 HGP HLX
            go_wp2_with fail
            refine bodyPost_ret (v := .tuple #[.slice none 0 0, .bool false]) ?_ rfl (retK0 HX.out HBL3.out)
            simp [results, Tryd.results5, go_sem]
        · have hse : (s.toList == []) = true := by
            rw [Lib.toList_data]
            have h1 : s.size = s.data.toList.length := Array.length_toList.symm
            rw [List.length_eq_zero_iff.1 (show s.data.toList.length = 0 by omega)]
            rfl
          have HX : Hid (AnsK t [] false) := Lib.hid (HBK.out fun x hx e => h0 (by rw [e]; exact linkB_pos x))
          go_wp2_with fail
          refine bodyPost_ret (v := .tuple #[.slice none 0 0, .bool false]) ?_ rfl (retK0 HX.out HBL.out)
          simp [results, Tryd.results5, go_sem]
      · have hjp : j = P.length := by omega
        have HAL := Lib.hid (HALL.out Q (by have := HJL.out; omega) HQ.out.1 (fun k hk => HQ.out.2 k (by have := HJL.out; omega)))
        have HLQ : Hid (LinksIn wr aQ Q) := Lib.hid (owns_cells HS.out.links.1)
        have HFM := Lib.hid (fun W h => specFormatLinks_any Q aQ cQ W h (by omega) HQ.out.1)
        go_wp2_with fail
        refine (HFM.out _ HLQ.out).mono ?_
        rintro e w6 ⟨rfl, hb6⟩
        have HS6 := Lib.hid (HS.out.later hb6)
        clear hb6
        obtain ⟨fs, hfs⟩ : ∃ fs, fmtLinks Q = fs := ⟨_, rfl⟩
        rw [hfs] at HAL ⊢
        clear hfs
        cases hqq : (fs.toList == t.toList)
        · have HX := Lib.hid (HAL.out.2 (fun e => by rw [e] at hqq; simp at hqq))
          go_wp2_with fail
          refine bodyPost_ret (v := .tuple #[.slice none 0 0, .bool false]) ?_ rfl (retK0 HX.out HS6.out.links.2)
          simp [results, Tryd.results5, go_sem]
        · have HX := Lib.hid (HAL.out.1 (by
            have h := eq_of_beq hqq
            rw [Lib.toList_data, Lib.toList_data] at h
            exact Go.WideShapes.bytes_inj h))
          go_wp2_with fail
          refine bodyPost_ret (v := .tuple #[.slice aQ Q.length cQ, .bool true]) ?_ rfl (retK HX.out HS6.out.links)
          simp [results, Tryd.results5, go_sem]
end Go.Proofs.YtklbehapbchnaaaDoor
