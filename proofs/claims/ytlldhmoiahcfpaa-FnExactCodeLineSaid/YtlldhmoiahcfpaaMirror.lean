/-
  Words and lists turned round (MirrorWord, MirrorList); IsPrefixCode and IsSuffixCode of the reference.
-/
import Derived.Test.YtlldhmoiahcfpaaTailsS
namespace Go.Proofs.Ytlldhmoiahcfpaa
open Go.RowKit
set_option linter.unusedVariables false
/-- the bytes from m on, turned round -/
def revFrom (s : ByteArray) (m : Nat) : ByteArray := ⟨(s.data.toList.drop m).reverse.toArray⟩
def revB (s : ByteArray) : ByteArray := revFrom s 0
theorem revFrom_size {s : ByteArray} {m : Nat} (h : m ≤ s.size) : (revFrom s m).size = s.size - m := by
  show ((s.data.toList.drop m).reverse.toArray).size = _
  simp
theorem revB_size (s : ByteArray) : (revB s).size = s.size := by unfold revB; rw [revFrom_size (Nat.zero_le _)]; rfl
theorem revFrom_all (s : ByteArray) : revFrom s s.size = ⟨#[]⟩ := size_zero (by rw [revFrom_size (Nat.le_refl _)]; omega)
theorem ba_ext {a b : ByteArray} (h : a.data.toList = b.data.toList) : a = b := blW_inj h
theorem revFrom_step {s : ByteArray} {k : Nat} (h : k < s.size) : revFrom s k = revFrom s (k + 1) ++ s.extract k (k + 1) := by
  apply ba_ext
  rw [ByteArray.data_append, Array.toList_append]
  unfold revFrom
  rw [ByteArray.data_extract, Array.toList_extract]
  have hk : k < s.data.toList.length := by simpa using h
  rw [List.drop_eq_getElem_cons hk]
  simp only [List.reverse_cons]
  congr 1
  rw [List.extract_eq_take_drop, show k + 1 - k = 1 by omega, List.drop_eq_getElem_cons hk]
  simp
theorem revB_list (s : ByteArray) : (revB s).data.toList = s.data.toList.reverse := by unfold revB revFrom; simp
theorem revB_inj {a b : ByteArray} (h : revB a = revB b) : a = b := by
  apply ba_ext
  have h1 := congrArg (fun x => x.data.toList) h
  simp only [revB_list] at h1
  exact List.reverse_inj.1 h1
set_option maxHeartbeats 400000 in
theorem specMirrorWord_any (s : ByteArray) (w : World) (hs : s.size ≤ 1000) :
    Calls Try.prog 36 #[.string s] w fun e w' => e = .returned (.string (revB s)) ∧ w = w' := by
  have HA := Lib.hid (revFrom_all s)
  go_enter Try.func36, Try.ntmps36
  go_wp2_with fail
  go_loop [3, 4] (fun v i => ∃ m : Nat, m ≤ s.size ∧ i = .int .i64 ((m : Int) - 1) ∧ v = .string (revFrom s m)) (fun _ i => (intOf i + 1).toNat)
  case atStart => exact ⟨s.size, Nat.le_refl _, rfl, by rw [HA.out]⟩
  case round =>
    obtain ⟨m, hm, rfl, rfl⟩ := hrel
    rcases Nat.eq_zero_or_pos m with h0 | h0
    · subst h0
      have n1 : (decide ((0 : Int) ≤ ((0 : Nat) : Int) - 1)) = false := rfl
      go_wp2_with fail
      go_ret
      exact ⟨rfl, rfl⟩
    · obtain ⟨k, rfl⟩ : ∃ k, m = k + 1 := ⟨m - 1, by omega⟩
      have F := Lib.hid (revFrom_step (show k < s.size by omega))
      have hz := revFrom_size hm
      have e1 : (((k + 1 : Nat) : Int) - 1) = (k : Int) := by omega
      rw [e1]
      clear e1
      have HZ := Lib.hid hz
      have hz2 : (revFrom s (k + 1)).size ≤ 1000 := by omega
      clear hz
      generalize hr : revFrom s (k + 1) = r at *
      clear hr
      go_wp2_with fail
      go_round
      case rel => exact ⟨k, by omega, by go_num, by rw [F.out]⟩
      case measure => simp [intOf]
theorem revB_ltrs (p : UInt8 → Bool) (s : ByteArray) : allB p (revB s) = allB p s := by
  unfold allB
  rw [revB_list, List.all_reverse]
theorem revB_word (k : Int) (s : ByteArray) : wordOkB k (revB s) = wordOkB k s := by unfold wordOkB; rw [revB_size, revB_ltrs]
theorem nthS_map {l : List ByteArray} {f : ByteArray → ByteArray} {i : Nat} (h : i < l.length) : nthS (l.map f) i = f (nthS l i) := by
  rw [nthS_lt (by simpa using h), nthS_lt h, List.getElem_map]
theorem listP_rev {l : List ByteArray} (h : listP l) : listP (l.map revB) := by
  refine ⟨by simpa using h.1, fun i hi => ?_⟩
  have hi2 : i < l.length := by simpa using hi
  obtain ⟨h1, h2, h3⟩ := h.2 i hi2
  unfold wordP
  rw [nthS_map hi2, revB_word, revB_size]
  refine ⟨h1, h2, fun hm => h3 ?_⟩
  rw [← List.map_take] at hm
  obtain ⟨x, hx, he⟩ := List.mem_map.1 hm
  rw [← revB_inj he]; exact hx
/-- p ends s -/
def endP (s p : ByteArray) : Prop := p.size ≤ s.size ∧ s.extract (s.size - p.size) s.size = p
theorem endP_iff {s p : ByteArray} : endP s p ↔ p.data.toList <:+ s.data.toList := by
  unfold endP
  have hl : ∀ s : ByteArray, s.data.toList.length = s.size := fun s => rfl
  have hx : p.size ≤ s.size → (s.extract (s.size - p.size) s.size).data.toList = s.data.toList.drop (s.size - p.size) := fun h => by
    rw [ByteArray.data_extract, Array.toList_extract, List.extract_eq_take_drop, List.take_of_length_le (by rw [List.length_drop, hl]; exact Nat.le_refl _)]
  constructor
  · rintro ⟨h1, h2⟩
    rw [← h2, hx h1]
    exact List.drop_suffix _ _
  · rintro ⟨t, ht⟩
    have h1 : p.size ≤ s.size := by rw [← hl, ← hl, ← ht, List.length_append]; omega
    refine ⟨h1, ba_ext ?_⟩
    rw [hx h1, ← ht, List.drop_left']
    have := congrArg List.length ht
    rw [List.length_append, hl, hl] at this
    omega
theorem begP_iff {s p : ByteArray} : begP s p ↔ p.data.toList <+: s.data.toList := by
  unfold begP
  have hl : ∀ s : ByteArray, s.data.toList.length = s.size := fun s => rfl
  have hx : (s.extract 0 p.size).data.toList = s.data.toList.take p.size := by
    rw [ByteArray.data_extract, Array.toList_extract, List.extract_eq_take_drop]; simp
  constructor
  · rintro ⟨h1, h2⟩
    rw [← h2, hx]
    exact List.take_prefix _ _
  · rintro ⟨t, ht⟩
    have h1 : p.size ≤ s.size := by rw [← hl, ← hl, ← ht, List.length_append]; omega
    refine ⟨h1, ba_ext ?_⟩
    rw [hx, ← ht, List.take_left' (hl p)]
theorem begP_rev {s p : ByteArray} : begP (revB s) (revB p) ↔ endP s p := by
  rw [begP_iff, endP_iff, revB_list, revB_list, List.reverse_prefix]
def mirL (l : List ByteArray) : List ByteArray := l.map revB
def mirTo (l : List ByteArray) (j : Nat) : List ByteArray := (l.take j).map revB
theorem mirL_len (l : List ByteArray) : (mirL l).length = l.length := by simp [mirL]
theorem mirTo_all (l : List ByteArray) : mirTo l l.length = mirL l := by unfold mirTo mirL; rw [List.take_length]
/-- a prefix code, a suffix code -/
def prefP (l : List ByteArray) : Prop := listP l ∧ ∀ x ∈ l, ∀ y ∈ l, x ≠ y → ¬ begP x y
def suffP (l : List ByteArray) : Prop := listP l ∧ ∀ x ∈ l, ∀ y ∈ l, x ≠ y → ¬ endP x y
theorem prefP_rev {l : List ByteArray} (h : listP l) : prefP (mirL l) ↔ suffP l := by
  constructor
  · rintro ⟨_, h2⟩
    exact ⟨h, fun x hx y hy hne he => h2 _ (List.mem_map_of_mem hx) _ (List.mem_map_of_mem hy) (fun e => hne (revB_inj e)) (begP_rev.2 he)⟩
  · rintro ⟨_, h2⟩
    refine ⟨listP_rev h, fun x hx y hy hne he => ?_⟩
    obtain ⟨x', hx', rfl⟩ := List.mem_map.1 hx
    obtain ⟨y', hy', rfl⟩ := List.mem_map.1 hy
    exact h2 x' hx' y' hy' (fun e => hne (by rw [e])) (begP_rev.1 he)
theorem prefP_first {l q : List ByteArray} (h : listP l) (hq : ∀ u, u ∈ q ↔ firstM l u) : prefP l ↔ q.length = 0 := by
  constructor
  · rintro ⟨_, h2⟩
    rcases Nat.eq_zero_or_pos q.length with h0 | h0
    · exact h0
    · obtain ⟨x, hx, y, hy, hne, hb, _⟩ := (hq _).1 (nthS_mem h0)
      exact absurd hb (h2 x hx y hy hne)
  · intro h0
    refine ⟨h, fun x hx y hy hne hb => ?_⟩
    have := (hq _).2 ⟨x, hx, y, hy, hne, hb, rfl⟩
    rw [List.eq_nil_of_length_eq_zero h0] at this
    cases this
set_option maxHeartbeats 400000 in
theorem specIsPrefixCode_any (l : List ByteArray) (a : Option Addr) (cap : Nat) (w : World) (hl : StrsIn w a l) (hlen : l.length ≤ 2 ^ 40) (hcap : l.length ≤ cap) (hsz : ∀ j, j < l.length → (nthS l j).size ≤ maxLen) :
    Calls Try.prog 11 #[.slice a l.length cap] w (RetP (prefP l) w) := by
  have HL := Lib.hid hl
  have HOK := Lib.hid (fun W h => specListOk_any l a cap W h hlen hcap hsz)
  clear hl hsz
  go_enter Try.func11, Try.ntmps11
  go_wp2_with fail
  refine (HOK.out _ HL.out).mono ?_
  rintro e w1 ⟨bb, hbb, rfl, hb1⟩
  have HBB := Lib.hid hbb
  have HB1 := Lib.hid hb1
  clear hbb hb1 HOK
  cases bb
  · have F : Hid (RetP (prefP l) w (.returned (.bool false)) w1) := Lib.hid (RetP.no (fun h => by have := HBB.out.2 h.1; cases this) HB1.out)
    go_wp2_with fail
    go_ret
    exact F.out
  · have HLP := Lib.hid (HBB.out.1 rfl)
    have HF := Lib.hid (fun W h => l22First_any l a cap W h (LOk.of HLP.out))
    go_wp2_with fail
    refine (HF.out _ (HL.out.later HB1.out)).mono ?_
    rintro e w2 ⟨q, ad, c2, rfl, hs, hm, hi, hc, hb2, hadw⟩
    have HM := Lib.hid hm
    have HB2 := Lib.hid (Below.now HB1.out hb2)
    clear hs hm hi hb2 hadw HF
    by_cases h0 : q.length = 0
    · have F : Hid (RetP (prefP l) w (.returned (.bool true)) w2) := Lib.hid (RetP.yes ((prefP_first HLP.out HM.out).2 h0) HB2.out)
      rw [h0]
      clear h0
      go_wp2_with fail
      go_ret
      exact F.out
    · have F : Hid (RetP (prefP l) w (.returned (.bool false)) w2) := Lib.hid (RetP.no (fun h => h0 ((prefP_first HLP.out HM.out).1 h)) HB2.out)
      have n1 : ((q.length : Int) == 0) = false := by rw [beq_eq_false_iff_ne]; omega
      clear h0
      go_wp2_with fail
      go_ret
      exact F.out
set_option maxHeartbeats 1000000 in
theorem specMirrorList_any (l : List ByteArray) (a : Option Addr) (cap : Nat) (w : World) (hl : StrsIn w a l) (hok : LOk l) :
    Calls Try.prog 22 #[.slice a l.length cap] w (RetSl 9 1 (mirL l).length (strVals (mirL l)) w) := by
  have HL := Lib.hid hl
  have HK := Lib.hid hok
  have hl8 := hok.hi
  have HS : Hid (Bld 9 1 w (w.alloc (.cells #[] 9)) (.slice (some ⟨w.heap.size, 0, none⟩) 0 0) 0 (strVals (mirTo l 0))) := Lib.hid (Bld.empty 9 1 w)
  clear hl hok
  go_enter Try.func22, Try.ntmps22
  go_wp2_with fail
  go_loopw [3, 9] (fun v i wr => ∃ j : Nat, j ≤ l.length ∧ i = .int .i64 j ∧ Bld 9 1 w wr v j (strVals (mirTo l j))) (fun _ i _ => l.length - (intOf i).toNat)
  case atStart => exact ⟨0, Nat.zero_le _, rfl, HS.out⟩
  case round =>
    clear HS
    obtain ⟨j, hj, rfl, hbd⟩ := hrel
    obtain ⟨a3, c3, rfl⟩ := owns_form hbd.1
    have HB := Lib.hid hbd
    clear hbd
    by_cases hlt : j < l.length
    · obtain ⟨b, off, rfl, hb, hc⟩ := (HL.out.later HB.out.2).cell hlt
      have c1 := hc j hlt
      have hx6 := HK.out.sz hlt
      have F : Hid (mirTo l (j + 1) = mirTo l j ++ [revB (nthS l j)]) := Lib.hid (by
        unfold mirTo
        rw [List.take_succ_eq_append_getElem hlt, nthS_lt hlt, List.map_append]; rfl)
      clear hc
      generalize nthS l j = x at *
      go_wp2_with (first | (go_at_call 36; refine (specMirrorWord_any _ _ (by omega)).mono ?_; rintro e w' ⟨rfl, rfl⟩) | (at_builtin; refine wpList_app1 rfl _ _ rfl Try.underlying22 Try.infoStr rfl (by decide) rfl HB.out rfl rfl ?c1 ?c2 ?c3 ?c4))
      case c1 => simp [Value.oneCell']
      case c2 => unfold maxLen; omega
      case c3 => omega
      intro v2 w4 hb2
      have F2 : Hid (Bld 9 1 w w4 v2 (j + 1) (strVals (mirTo l (j + 1)))) := by
        rw [F.out]; unfold strVals at *; rw [List.map_append]; exact Lib.hid hb2
      clear hb2
      go_wp2_with fail
      go_roundw
      case rel => exact ⟨j + 1, by omega, by go_num, F2.out⟩
      case measure => simp [intOf]; omega
    · obtain rfl : j = l.length := by omega
      have F : Hid (RetSl 9 1 (mirL l).length (strVals (mirL l)) w (.returned (.slice a3 l.length c3)) wr) := Lib.hid (by
        have h := HB.out.ret
        rw [mirTo_all] at h
        rw [mirL_len]; exact h)
      go_wp2_with fail
      go_ret
      exact F.out
set_option maxHeartbeats 400000 in
theorem specIsSuffixCode_any (l : List ByteArray) (a : Option Addr) (cap : Nat) (w : World) (hl : StrsIn w a l) (hlp : listP l) (hcap : l.length ≤ cap) :
    Calls Try.prog 12 #[.slice a l.length cap] w (RetP (suffP l) w) := by
  have HL := Lib.hid hl
  have HLP := Lib.hid hlp
  have HK := Lib.hid (LOk.of hlp)
  have hl8 := HK.out.hi
  have HOK := Lib.hid (fun W h => specListOk_any l a cap W h (by omega) hcap (fun j hj => by have := HK.out.sz hj; unfold maxLen; omega))
  have HM := Lib.hid (fun W h => specMirrorList_any l a cap W h HK.out)
  have hlm : (mirL l).length = l.length := mirL_len l
  have HP := Lib.hid (fun W a c h hc => specIsPrefixCode_any (mirL l) a c W h (by omega) hc (fun j hj => by
    rw [mirL_len] at hj
    rw [show nthS (mirL l) j = revB (nthS l j) from nthS_map hj, revB_size]
    have := HK.out.sz hj; unfold maxLen; omega))
  have HLM := Lib.hid hlm
  clear hl hlp hlm
  go_enter Try.func12, Try.ntmps12
  go_wp2_with fail
  refine (HM.out _ HL.out).mono ?_
  rintro e w1 ⟨a1, c1, rfl, ho1, hb1⟩
  have HS1 := Lib.hid (owns_strs ho1)
  have HC1 := Lib.hid (owns_cap ho1).1
  have HB1 := Lib.hid hb1
  clear ho1 hb1 HM
  go_wp2_with fail
  refine (HP.out _ _ _ HS1.out HC1.out).mono ?_
  rintro e w2 ⟨bb, hbb, rfl, hb2⟩
  have HBB := Lib.hid hbb
  have HB2 := Lib.hid (Below.now HB1.out hb2)
  clear hbb hb2 HP
  cases bb
  · have F : Hid (RetP (suffP l) w (.returned (.bool false)) w2) := Lib.hid (RetP.no (fun h => by have := HBB.out.2 ((prefP_rev HLP.out).2 h); cases this) HB2.out)
    go_wp2_with fail
    go_ret
    exact F.out
  · have HY := Lib.hid ((prefP_rev HLP.out).1 (HBB.out.1 rfl))
    go_wp2_with fail
    refine (HOK.out _ (HL.out.later HB2.out)).mono ?_
    rintro e w3 ⟨b3, hb3, rfl, hb33⟩
    have F : Hid (RetP (suffP l) w (.returned (.bool b3)) w3) := Lib.hid (by
      cases b3
      · have := hb3.2 HLP.out; cases this
      · exact RetP.yes HY.out (Below.now HB2.out hb33))
    clear hb3 hb33 HOK
    go_wp2_with fail
    go_ret
    exact F.out
end Go.Proofs.Ytlldhmoiahcfpaa
