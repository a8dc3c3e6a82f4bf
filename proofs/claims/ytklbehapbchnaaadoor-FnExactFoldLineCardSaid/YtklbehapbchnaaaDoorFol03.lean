/-
  Letters and their inverses, and words without neighbors that are inverse, of the reference.
-/
import Derived.Test.YtklbehapbchnaaaDoorFol01
import Derived.Test.YtklbehapbchnaaaDoorFol02
import Derived.Deep.Cut
namespace Go.Proofs.YtklbehapbchnaaaDoor
open Go.RowKit
set_option linter.unusedVariables false
/-- the inverse of a letter -/
def invN (g c : Nat) : Nat := 97 + (c - 97 + g) % (2 * g)
/-- a letter of g generators -/
def letG (g c : Nat) : Prop := 97 ≤ c ∧ c < 97 + 2 * g
/-- one more letter -/
def frS (g : Nat) (s : List UInt8) (c : UInt8) : List UInt8 := if s ≠ [] ∧ (s.getLast?.getD 0).toNat = invN g c.toNat then s.dropLast else s ++ [c]
/-- without neighbors that are inverse to each other -/
def frL (g : Nat) (w : List UInt8) : List UInt8 := w.foldl (frS g) []
def frB (g : Nat) (w : ByteArray) (i : Nat) : ByteArray := ⟨(frL g (w.data.toList.take i)).toArray⟩
theorem frB_list (g : Nat) (w : ByteArray) (i : Nat) : (frB g w i).data.toList = frL g (w.data.toList.take i) := by simp [frB]
theorem frL_succ {g : Nat} {w : List UInt8} {i : Nat} (h : i < w.length) : frL g (w.take (i + 1)) = frS g (frL g (w.take i)) w[i] := by
  unfold frL
  rw [List.take_succ_eq_append_getElem h, List.foldl_append]; rfl
theorem frS_len (g : Nat) (s : List UInt8) (c : UInt8) : (frS g s c).length ≤ s.length + 1 := by
  unfold frS; split <;> simp <;> omega
theorem frL_len (g : Nat) (w : List UInt8) : ∀ i, (frL g (w.take i)).length ≤ i
  | 0 => by simp [frL]
  | i + 1 => by
    have ih := frL_len g w i
    rcases Nat.lt_or_ge i w.length with h | h
    · rw [frL_succ h]; exact Nat.le_trans (frS_len _ _ _) (by omega)
    · rw [List.take_of_length_le (by omega)] at ih ⊢; omega
theorem frS_mem {g : Nat} {s : List UInt8} {c x : UInt8} (h : x ∈ frS g s c) : x ∈ s ∨ x = c := by
  unfold frS at h
  split at h
  · exact .inl (List.dropLast_subset _ h)
  · rcases List.mem_append.1 h with h | h
    · exact .inl h
    · exact .inr (List.mem_singleton.1 h)
theorem frL_mem {g : Nat} {w : List UInt8} : ∀ {i : Nat} {x : UInt8}, x ∈ frL g (w.take i) → x ∈ w
  | 0, x, h => by simp [frL] at h
  | i + 1, x, h => by
    rcases Nat.lt_or_ge i w.length with hi | hi
    · rw [frL_succ hi] at h
      rcases frS_mem h with h | h
      · exact frL_mem h
      · rw [h]; exact List.getElem_mem hi
    · rw [List.take_of_length_le (show w.length ≤ i + 1 by omega)] at h
      have h2 : x ∈ frL g (w.take i) := by rw [List.take_of_length_le hi]; exact h
      exact frL_mem h2
theorem frB_size (g : Nat) (w : ByteArray) (i : Nat) : (frB g w i).size ≤ i := by
  show (frL g _).toArray.size ≤ i
  rw [List.size_toArray]; exact frL_len _ _ _
theorem bszF (s : ByteArray) : s.data.toList.length = s.size := by rw [Array.length_toList]; rfl
theorem ba_extF {a b : ByteArray} (h : a.data.toList = b.data.toList) : a = b := by
  cases a; cases b
  simp only [ByteArray.mk.injEq]
  exact Array.toList_inj.1 h
theorem frB_add {g : Nat} {w s : ByteArray} {i : Nat} (h : i < w.size) (hs : frB g w i = s) (hn : s.size = 0 ∨ ∃ m, ∃ hm : m < s.size, s.size = m + 1 ∧ s[m].toNat ≠ invN g w[i].toNat) : frB g w (i + 1) = s ++ w.extract i (i + 1) := by
  apply ba_extF
  rw [frB_list, frL_succ (by simpa using h), ← frB_list, hs]
  have hx : (w.extract i (i + 1)).data.toList = [w[i]] := by
    rw [ByteArray.data_extract, Array.toList_extract]
    simp only [List.extract_eq_take_drop, Nat.add_sub_cancel_left]
    rw [List.drop_eq_getElem_cons (by simpa using h)]
    rfl
  rw [ByteArray.data_append, Array.toList_append, hx]
  unfold frS
  rw [if_neg]
  · rfl
  · rintro ⟨h1, h2⟩
    rcases hn with h0 | ⟨m, hm, hm2, hne⟩
    · exact h1 (List.eq_nil_of_length_eq_zero (by simpa using h0))
    · refine hne ?_
      rw [← show w.data.toList[i]'(by simpa using h) = w[i] from rfl, ← h2]
      rw [List.getLast?_eq_getElem?]
      have e1 : s.data.toList.length - 1 = m := by simp; omega
      rw [e1, List.getElem?_eq_getElem (by simpa using hm)]
      rfl
theorem frB_del {g : Nat} {w s : ByteArray} {i m : Nat} (h : i < w.size) (hs : frB g w i = s) (hm : m < s.size) (hm2 : s.size = m + 1) (he : s[m].toNat = invN g w[i].toNat) : frB g w (i + 1) = s.extract 0 m := by
  apply ba_extF
  rw [frB_list, frL_succ (by simpa using h), ← frB_list, hs]
  unfold frS
  rw [if_pos]
  · rw [ByteArray.data_extract, Array.toList_extract, List.dropLast_eq_take]
    have e1 : s.data.toList.length - 1 = m := by simp; omega
    rw [e1]
    rw [List.extract_eq_take_drop]; simp
  · refine ⟨fun e => ?_, ?_⟩
    · have h0 := bszF s
      rw [e] at h0
      have : s.size = 0 := h0.symm
      omega
    · rw [← show w[i] = w.data.toList[i]'(by simpa using h) from rfl, ← he]
      rw [List.getLast?_eq_getElem?]
      have e1 : s.data.toList.length - 1 = m := by simp; omega
      rw [e1, List.getElem?_eq_getElem (by simpa using hm)]
      rfl
theorem l24Inverse_any (g c : Nat) (w : World) (h1 : 1 ≤ g) (h2 : g ≤ 2) (hc : letG g c) :
    Calls Tryd.prog 89 #[.int .i64 (g : Nat), .int .u8 (c : Nat)] w fun e w' => e = .returned (.int .u8 ((invN g c : Nat) : Int)) ∧ w = w' := by
  obtain ⟨c1, c2⟩ := hc
  have hc6 : (g = 1 ∧ (c = 97 ∨ c = 98)) ∨ (g = 2 ∧ (c = 97 ∨ c = 98 ∨ c = 99 ∨ c = 100)) := by omega
  rcases hc6 with ⟨rfl, rfl | rfl⟩ | ⟨rfl, rfl | rfl | rfl | rfl⟩
  all_goals
    go_enter Tryd.func89, Tryd.ntmps89
    go_wp2_with fail
    go_ret
    exact ⟨rfl, rfl⟩
/-- the letters of g generators -/
def freeOkB (g : Int) (s : ByteArray) : Bool := inB g 1 2 && wordOkB (2 * g) s
theorem freeOk_let {g : Nat} {s : ByteArray} (h : freeOkB (g : Nat) s = true) : (1 ≤ g ∧ g ≤ 2) ∧ s.size ≤ 16 ∧ ∀ x ∈ s.data.toList, letG g x.toNat := by
  unfold freeOkB wordOkB allB at h
  simp only [Bool.and_eq_true, decide_eq_true_eq, List.all_eq_true] at h
  obtain ⟨h1, _, h2, h3⟩ := h
  have := inB_bounds h1
  refine ⟨by omega, h2, fun x hx => ?_⟩
  have := letB_true (h3 x hx)
  unfold letG; omega
theorem l24Ok_any (g : Int) (s : ByteArray) (w : World) (hs : s.size ≤ maxLen) :
    Calls Tryd.prog 38 #[.int .i64 g, .string s] w fun e w' => e = .returned (.bool (freeOkB g s)) ∧ w = w' := by
  cases hg : inB g 1 2
  · have F : Hid (false = freeOkB g s) := Lib.hid (by unfold freeOkB; rw [hg]; rfl)
    go_enter Tryd.func38, Tryd.ntmps38
    go_wp2_with (go_at_call 37; refine (l01In_any _ _ _ _).mono ?_; rintro e w' ⟨rfl, rfl⟩)
    go_ret
    exact ⟨ret_bool F.out, rfl⟩
  · have hb := inB_bounds hg
    have hwr : IntKind.i64.wrap (2 * g) = 2 * g := IntWalk.i64_in _ ⟨by omega, by omega⟩
    have F : Hid (wordOkB (2 * g) s = freeOkB g s) := Lib.hid (by unfold freeOkB; rw [hg]; rfl)
    go_enter Tryd.func38, Tryd.ntmps38
    go_wp2_with (first
      | (go_at_call 37; refine (l01In_any _ _ _ _).mono ?_; rintro e w' ⟨rfl, rfl⟩)
      | (go_at_call 61; refine (specWordOk_any _ _ _ hs).mono ?_; rintro e w' ⟨rfl, rfl⟩))
    go_ret
    exact ⟨ret_bool F.out, rfl⟩
set_option maxRecDepth 20000 in
set_option maxHeartbeats 2000000 in
theorem l24Form_any (g : Nat) (s : ByteArray) (w : World) (h : freeOkB (g : Nat) s = true) :
    Calls Tryd.prog 62 #[.int .i64 (g : Nat), .string s] w fun e w' => e = .returned (.string (frB g s s.size)) ∧ Below w.heap.size w w' := by
  obtain ⟨⟨hg1, hg2⟩, hs16, hlet⟩ := freeOk_let h
  have HLT := Lib.hid hlet
  clear hlet h
  go_enter Tryd.func62, Tryd.ntmps62
  go_wp2_with fail
  go_loopw [5, 6] (fun vs vi wr => ∃ i : Nat, i ≤ s.size ∧ vi = .int .i64 (i : Nat) ∧ vs = .string (frB g s i) ∧ Hid (Below w.heap.size w wr)) (fun _ vi _ => s.size - (intOf vi).toNat)
  case atStart => exact ⟨0, Nat.zero_le _, rfl, rfl, Lib.hid (Below.refl _ _)⟩
  case round =>
    obtain ⟨i, hi, rfl, rfl, HB⟩ := hrel
    by_cases hil : i < s.size
    · have hii : (i : Int) < (s.size : Int) := by omega
      have hi1 : ¬ 9223372036854775807 < i + 1 := by omega
      obtain ⟨t, ht⟩ : ∃ t, frB g s i = t := ⟨_, rfl⟩
      have htz : t.size ≤ i := by rw [← ht]; exact frB_size g s i
      have hq8 : letG g s[i].toNat := HLT.out _ (by have := List.getElem_mem (l := s.data.toList) (n := i) (by simpa using hil); rwa [Array.getElem_toList] at this)
      have HIV := Lib.hid (fun W => l24Inverse_any g s[i].toNat W hg1 hg2 hq8)
      have hwi : IntKind.i64.wrap ((i : Int) + 1) = (i : Int) + 1 := IntWalk.i64_in _ ⟨by omega, by omega⟩
      have hcat : ¬ 9223372036854775807 < t.size + (s.extract i (i + 1)).size := by
        rw [ByteArray.size_extract]; omega
      have HT := Lib.hid ht
      rcases Nat.eq_zero_or_pos t.size with h0 | h0
      · have HN : Hid (frB g s (i + 1) = t ++ s.extract i (i + 1)) := Lib.hid (frB_add hil ht (.inl h0))
        have hte : t = ⟨#[]⟩ := ba_extF (List.eq_nil_of_length_eq_zero (by simpa using h0))
        rw [ht]
        subst hte
        clear ht hq8 h0 htz
        go_upto_region 5 with fail
        refine region_each (fun W => Below wr.heap.size wr W) (fun W W2 => Below W.heap.size W W2) (fun u => by simp only [fPut, Act.put, List.setIfInBounds_toArray, List.set_cons_succ, List.set_cons_zero, Nat.zero_add, Nat.reduceAdd]; rfl) (by kernel_rfl) (by kernel_rfl) (by kernel_rfl) (Below.drew (Below.refl _ _)) ?_
        apply each_read (fun _ => Below.refl _ _) rfl
        · intro u wv hC hf
          clear hf
          go_simp
          try rfl
        apply each_read (fun _ => Below.refl _ _) rfl
        · intro u wv hC hf
          obtain ⟨d0_0, -⟩ := hf
          have e0 : u 0 = _ := d0_0 rfl
          clear d0_0
          go_simp
          try rfl
        apply each_read (fun _ => Below.refl _ _) rfl
        · intro u wv hC hf
          obtain ⟨d1_0, -⟩ := hf
          have e1 : u 1 = _ := d1_0 rfl
          clear d1_0
          go_simp
          try rfl
        refine each_off ?_ ?_
        · intro u wv hC hf
          obtain ⟨d2_0, -⟩ := hf
          have e2 : u 2 = _ := d2_0 rfl
          clear d2_0
          exact wanted_at rfl rfl rfl e2 rfl
        refine each_off ?_ ?_
        · intro u wv hC hf
          obtain ⟨d2_0, -⟩ := hf
          have e2 : u 2 = _ := d2_0 rfl
          clear d2_0
          exact wanted_at rfl rfl rfl e2 rfl
        refine each_off ?_ ?_
        · intro u wv hC hf
          obtain ⟨d4_0, d2_1, -⟩ := hf
          have e4 : u 4 = _ := d4_0 rfl
          clear d4_0
          have e2 : u 2 = _ := d2_1 rfl
          clear d2_1
          exact wanted_at rfl rfl rfl e2 rfl
        refine each_off ?_ ?_
        · intro u wv hC hf
          obtain ⟨d5_0, d2_1, -⟩ := hf
          have e5 : u 5 = _ := d5_0 rfl
          clear d5_0
          have e2 : u 2 = _ := d2_1 rfl
          clear d2_1
          exact wanted_at rfl rfl rfl e2 rfl
        refine each_off ?_ ?_
        · intro u wv hC hf
          obtain ⟨d3_0, d6_1, d2_2, -⟩ := hf
          have e3 : u 3 = _ := d3_0 rfl
          clear d3_0
          have e6 : u 6 = _ := d6_1 rfl
          clear d6_1
          have e2 : u 2 = _ := d2_2 rfl
          clear d2_2
          exact wanted_at rfl rfl rfl e2 rfl
        refine each_off ?_ ?_
        · intro u wv hC hf
          obtain ⟨d2_0, -⟩ := hf
          have e2 : u 2 = _ := d2_0 rfl
          clear d2_0
          exact wanted_at rfl rfl rfl e2 rfl
        refine each_off ?_ ?_
        · intro u wv hC hf
          obtain ⟨d2_0, -⟩ := hf
          have e2 : u 2 = _ := d2_0 rfl
          clear d2_0
          exact wanted_at rfl rfl rfl e2 rfl
        refine each_off ?_ ?_
        · intro u wv hC hf
          obtain ⟨d2_0, -⟩ := hf
          have e2 : u 2 = _ := d2_0 rfl
          clear d2_0
          exact wanted_at rfl rfl rfl e2 rfl
        refine each_off ?_ ?_
        · intro u wv hC hf
          obtain ⟨d9_0, d10_1, d2_2, -⟩ := hf
          have e9 : u 9 = _ := d9_0 rfl
          clear d9_0
          have e10 : u 10 = _ := d10_1 rfl
          clear d10_1
          have e2 : u 2 = _ := d2_2 rfl
          clear d2_2
          exact wanted_at rfl rfl rfl e2 rfl
        refine each_off ?_ ?_
        · intro u wv hC hf
          obtain ⟨d8_0, d11_1, d2_2, d2_3, -⟩ := hf
          have e8 : u 8 = _ := d8_0 rfl
          clear d8_0
          have e11 : u 11 = _ := d11_1 rfl
          clear d11_1
          have e2 : u 2 = _ := d2_2 rfl
          clear d2_2
          clear d2_3
          exact wanted_at rfl rfl rfl e2 rfl
        refine each_off ?_ ?_
        · intro u wv hC hf
          obtain ⟨d7_0, d12_1, d2_2, -⟩ := hf
          have e7 : u 7 = _ := d7_0 rfl
          clear d7_0
          have e12 : u 12 = _ := d12_1 rfl
          clear d12_1
          have e2 : u 2 = _ := d2_2 rfl
          clear d2_2
          exact wanted_at rfl rfl rfl e2 rfl
        apply each_read (fun _ => Below.refl _ _) rfl
        · intro u wv hC hf
          obtain ⟨d2_0, d13_1, -⟩ := hf
          have e2 : u 2 = _ := d2_0 rfl
          clear d2_0
          have e13 : u 13 = _ := d13_1 rfl
          clear d13_1
          go_simp
          try rfl
        intro u wv hC hall
        obtain ⟨a0, a1, a2, a3, a4, a5, a6, a7, a8, a9, a10, a11, a12, a13, a14, -⟩ := hall
        have e0 : u 0 = _ := a0
        clear a0
        have e1 : u 1 = _ := a1
        clear a1
        have e2 : u 2 = _ := a2
        clear a2
        have e3 : u 3 = _ := a3
        clear a3
        have e4 : u 4 = _ := a4
        clear a4
        have e5 : u 5 = _ := a5
        clear a5
        have e6 : u 6 = _ := a6
        clear a6
        have e7 : u 7 = _ := a7
        clear a7
        have e8 : u 8 = _ := a8
        clear a8
        have e9 : u 9 = _ := a9
        clear a9
        have e10 : u 10 = _ := a10
        clear a10
        have e11 : u 11 = _ := a11
        clear a11
        have e12 : u 12 = _ := a12
        clear a12
        have e13 : u 13 = _ := a13
        clear a13
        have e14 : u 14 = _ := a14
        clear a14
        simp only [e0, e1, e2, e3, e4, e5, e6, e7, e8, e9, e10, e11, e12, e13, e14]
        clear e0 e1 e2 e3 e4 e5 e6 e7 e8 e9 e10 e11 e12 e13 e14
        have HB2 := Lib.hid (Below.now HB.out hC)
        clear hC
        go_wp2_with fail
        go_roundw
        case rel => exact ⟨i + 1, by omega, by go_num, by rw [HN.out], HB2⟩
        case measure => simp [intOf]; omega
      · obtain ⟨m, hm⟩ : ∃ m, t.size = m + 1 := ⟨t.size - 1, by omega⟩
        have hml : m < t.size := by omega
        have hne : (t.toList == []) = false := by
          rw [beq_eq_false_iff_ne, ByteArray.toList_eq]
          intro e
          have h1 := bszF t
          rw [e] at h1
          have : t.size = 0 := h1.symm
          omega
        have hsub : (t.size : Int) - 1 = (m : Int) := by omega
        have hwm : IntKind.i64.wrap (m : Int) = (m : Int) := IntWalk.i64_in _ ⟨by omega, by omega⟩
        have hmi : (m : Int) < (t.size : Int) := by omega
        rw [ht]
        have HM := Lib.hid hm
        clear ht hq8 h0 hm
        go_upto_region 5 with fail
        refine region_each (fun W => Below wr.heap.size wr W) (fun W W2 => Below W.heap.size W W2) (fun u => by simp only [fPut, Act.put, List.setIfInBounds_toArray, List.set_cons_succ, List.set_cons_zero, Nat.zero_add, Nat.reduceAdd]; rfl) (by kernel_rfl) (by kernel_rfl) (by kernel_rfl) (Below.drew (Below.refl _ _)) ?_
        apply each_read (fun _ => Below.refl _ _) rfl
        · intro u wv hC hf
          clear hf
          go_simp
          try rfl
        apply each_read (fun _ => Below.refl _ _) rfl
        · intro u wv hC hf
          obtain ⟨d0_0, -⟩ := hf
          have e0 : u 0 = _ := d0_0 rfl
          clear d0_0
          go_simp
          try rfl
        apply each_read (fun _ => Below.refl _ _) rfl
        · intro u wv hC hf
          obtain ⟨d1_0, -⟩ := hf
          have e1 : u 1 = _ := d1_0 rfl
          clear d1_0
          go_simp
          try rfl
        apply each_readG (fun _ => Below.refl _ _)
        · intro u wv hC hf
          obtain ⟨d2_0, -⟩ := hf
          have e2 : u 2 = _ := d2_0 rfl
          clear d2_0
          refine ⟨wanted_at rfl rfl rfl e2 rfl, ?_⟩
          go_simp
          try rfl
        apply each_readG (fun _ => Below.refl _ _)
        · intro u wv hC hf
          obtain ⟨d2_0, -⟩ := hf
          have e2 : u 2 = _ := d2_0 rfl
          clear d2_0
          refine ⟨wanted_at rfl rfl rfl e2 rfl, ?_⟩
          go_simp
          try rfl
        apply each_readG (fun _ => Below.refl _ _)
        · intro u wv hC hf
          obtain ⟨d4_0, d2_1, -⟩ := hf
          have e4 : u 4 = _ := d4_0 rfl
          clear d4_0
          have e2 : u 2 = _ := d2_1 rfl
          clear d2_1
          refine ⟨wanted_at rfl rfl rfl e2 rfl, ?_⟩
          go_simp
          try rfl
        apply each_readG (fun _ => Below.refl _ _)
        · intro u wv hC hf
          obtain ⟨d5_0, d2_1, -⟩ := hf
          have e5 : u 5 = _ := d5_0 rfl
          clear d5_0
          have e2 : u 2 = _ := d2_1 rfl
          clear d2_1
          refine ⟨wanted_at rfl rfl rfl e2 rfl, ?_⟩
          go_simp
          try rfl
        apply each_readG (fun _ => Below.refl _ _)
        · intro u wv hC hf
          obtain ⟨d3_0, d6_1, d2_2, -⟩ := hf
          have e3 : u 3 = _ := d3_0 rfl
          clear d3_0
          have e6 : u 6 = _ := d6_1 rfl
          clear d6_1
          have e2 : u 2 = _ := d2_2 rfl
          clear d2_2
          refine ⟨wanted_at rfl rfl rfl e2 rfl, ?_⟩
          go_simp
          try rfl
        apply each_readG (fun _ => Below.refl _ _)
        · intro u wv hC hf
          obtain ⟨d2_0, -⟩ := hf
          have e2 : u 2 = _ := d2_0 rfl
          clear d2_0
          refine ⟨wanted_at rfl rfl rfl e2 rfl, ?_⟩
          go_simp
          try rfl
        apply each_readG (fun _ => Below.refl _ _)
        · intro u wv hC hf
          obtain ⟨d2_0, -⟩ := hf
          have e2 : u 2 = _ := d2_0 rfl
          clear d2_0
          refine ⟨wanted_at rfl rfl rfl e2 rfl, ?_⟩
          go_simp
          try rfl
        apply each_readG (fun _ => Below.refl _ _)
        · intro u wv hC hf
          obtain ⟨d2_0, -⟩ := hf
          have e2 : u 2 = _ := d2_0 rfl
          clear d2_0
          refine ⟨wanted_at rfl rfl rfl e2 rfl, ?_⟩
          go_simp
          try rfl
        apply each_readG (fun _ => Below.refl _ _)
        · intro u wv hC hf
          obtain ⟨d9_0, d10_1, d2_2, -⟩ := hf
          have e9 : u 9 = _ := d9_0 rfl
          clear d9_0
          have e10 : u 10 = _ := d10_1 rfl
          clear d10_1
          have e2 : u 2 = _ := d2_2 rfl
          clear d2_2
          refine ⟨wanted_at rfl rfl rfl e2 rfl, ?_⟩
          go_simp
          try rfl
        apply each_callRG
        · intro u wv hC hf
          obtain ⟨d8_0, d11_1, d2_2, d2_3, -⟩ := hf
          have e8 : u 8 = _ := d8_0 rfl
          clear d8_0
          have e11 : u 11 = _ := d11_1 rfl
          clear d11_1
          have e2 : u 2 = _ := d2_2 rfl
          clear d2_2
          clear d2_3
          refine ⟨wanted_at rfl rfl rfl e2 rfl, ?_⟩
          apply Exists.intro; apply Exists.intro; apply And.intro
          · go_simp; exact ⟨rfl, rfl⟩
          · refine (HIV.out _).mono ?_
            rintro e w3 ⟨rfl, rfl⟩
            exact ⟨rfl, hC, Below.refl _ _⟩
        apply each_readG (fun _ => Below.refl _ _)
        · intro u wv hC hf
          obtain ⟨d7_0, d12_1, d2_2, -⟩ := hf
          have e7 : u 7 = _ := d7_0 rfl
          clear d7_0
          have e12 : u 12 = _ := d12_1 rfl
          clear d12_1
          have e2 : u 2 = _ := d2_2 rfl
          clear d2_2
          refine ⟨wanted_at rfl rfl rfl e2 rfl, ?_⟩
          go_simp
          try rfl
        apply each_read (fun _ => Below.refl _ _) rfl
        · intro u wv hC hf
          obtain ⟨d2_0, d13_1, -⟩ := hf
          have e2 : u 2 = _ := d2_0 rfl
          clear d2_0
          have e13 : u 13 = _ := d13_1 rfl
          clear d13_1
          go_simp
          try rfl
        intro u wv hC hall
        obtain ⟨a0, a1, a2, a3, a4, a5, a6, a7, a8, a9, a10, a11, a12, a13, a14, -⟩ := hall
        have e0 : u 0 = _ := a0
        clear a0
        have e1 : u 1 = _ := a1
        clear a1
        have e2 : u 2 = _ := a2
        clear a2
        have e3 : u 3 = _ := a3
        clear a3
        have e4 : u 4 = _ := a4
        clear a4
        have e5 : u 5 = _ := a5
        clear a5
        have e6 : u 6 = _ := a6
        clear a6
        have e7 : u 7 = _ := a7
        clear a7
        have e8 : u 8 = _ := a8
        clear a8
        have e9 : u 9 = _ := a9
        clear a9
        have e10 : u 10 = _ := a10
        clear a10
        have e11 : u 11 = _ := a11
        clear a11
        have e12 : u 12 = _ := a12
        clear a12
        have e13 : u 13 = _ := a13
        clear a13
        have e14 : u 14 = _ := a14
        clear a14
        simp only [e0, e1, e2, e3, e4, e5, e6, e7, e8, e9, e10, e11, e12, e13, e14]
        clear e0 e1 e2 e3 e4 e5 e6 e7 e8 e9 e10 e11 e12 e13 e14
        have HB2 := Lib.hid (Below.now HB.out hC)
        clear hC
        cases hq : (((t[m].toNat : Nat) : Int) == ((invN g s[i].toNat : Nat) : Int))
        · have HN : Hid (frB g s (i + 1) = t ++ s.extract i (i + 1)) := Lib.hid (frB_add hil HT.out (.inr ⟨m, hml, HM.out, fun e => by rw [e] at hq; simp at hq⟩))
          go_wp2_with fail
          go_roundw
          case rel => exact ⟨i + 1, by omega, by go_num, by rw [HN.out], HB2⟩
          case measure => simp [intOf]; omega
        · have HN : Hid (frB g s (i + 1) = t.extract 0 m) := Lib.hid (frB_del hil HT.out hml HM.out (by have := beq_iff_eq.1 hq; omega))
          go_wp2_with fail
          go_roundw
          case rel => exact ⟨i + 1, by omega, by go_num, by rw [HN.out], HB2⟩
          case measure => simp [intOf]; omega
    · obtain rfl : i = s.size := by omega
      go_wp2_with fail
      go_ret
      exact ⟨rfl, HB.out⟩
end Go.Proofs.YtklbehapbchnaaaDoor
