/-
  CountAvoiding.
-/
import Derived.Test.YtnnboeeogbgmdaaLetters
namespace Go.Proofs.Ytnnboeeogbgmdaa
open Go.RowKit
set_option linter.unusedVariables false
def up (k : Nat) : Nat → List ByteArray
  | 0 => lev k 0
  | j + 1 => up k j ++ lev k (j + 1)
theorem up_succ (k j : Nat) : up k (j + 1) = up k j ++ lev k (j + 1) := rfl
theorem up_len {k : Nat} (hk : k ≤ 4) : ∀ j, j ≤ 8 → (up k j).length ≤ (j + 1) * 65536
  | 0, _ => by show (lev k 0).length ≤ _; rw [lev_len]; simp
  | j + 1, h => by
    rw [up_succ, List.length_append, lev_len]
    have := up_len hk j (by omega)
    have := pow_le hk h
    omega
theorem up_size (k : Nat) : ∀ j, ∀ v ∈ up k j, v.size ≤ j
  | 0, v, hv => by have := lev_size k 0 v hv; omega
  | j + 1, v, hv => by
    rw [up_succ] at hv
    rcases List.mem_append.1 hv with hv | hv
    · have := up_size k j v hv; omega
    · have := lev_size k (j + 1) v hv; omega
theorem up_filter (q : ByteArray → Bool) (k n : Nat) : (up k n).filter (fun v => decide (v.size = n) && q v) = (lev k n).filter q := by
  have h0 : ∀ m : Nat, (lev k m).filter (fun v => decide (v.size = m) && q v) = (lev k m).filter q := fun m => by
    apply List.filter_congr
    intro v hv
    rw [lev_size k m v hv]; simp
  cases n with
  | zero => exact h0 0
  | succ j =>
    rw [up_succ, List.filter_append, h0 (j + 1)]
    have : (up k j).filter (fun v => decide (v.size = j + 1) && q v) = [] := by
      rw [List.filter_eq_nil_iff]
      intro v hv
      have := up_size k j v hv
      simp; omega
    rw [this]; rfl
set_option maxRecDepth 20000 in
set_option maxHeartbeats 2000000 in
theorem wordsUpTo_any (k n : Nat) (w : World) (hk : k ≤ 4) (hn : n ≤ 8) :
    Calls Try.prog 32 #[.int .i64 (k : Nat), .int .i64 (n : Nat)] w (RetSl 9 1 (up k n).length (strVals (up k n)) w) := by
  go_enter Try.func32, Try.ntmps32
  go_wp2_with fail
  have hB1 : Bld 9 1 w ((w.alloc (.cells #[.string ⟨#[]⟩] 9)).alloc (.cells #[.string ⟨#[]⟩] 9)) (.slice (some ⟨w.heap.size + 1, 0, none⟩) 1 1) (up k 0).length (strVals (up k 0)) := by
    have h1 : Below w.heap.size w (w.alloc (.cells #[.string ⟨#[]⟩] 9)) := (Below.refl _ _).alloc (Nat.le_refl _) _
    have h2 := World.ownsRow_lit (e := 9) (size := 1) (w.alloc (.cells #[.string ⟨#[]⟩] 9)) #[.string ⟨#[]⟩] 1 (Nat.le_refl _) (by unfold maxLen; omega) rfl
    rw [alloc_size] at h2
    exact ⟨owns_mono h2 (by omega), Below.now h1 ((Below.refl _ _).alloc (Nat.le_refl _) _)⟩
  have hL1 : StrsIn ((w.alloc (.cells #[.string ⟨#[]⟩] 9)).alloc (.cells #[.string ⟨#[]⟩] 9)) (some ⟨w.heap.size, 0, none⟩) (lev k 0) := by
    refine .inr ⟨_, _, rfl, fun i hi => ?_⟩
    obtain rfl : i = 0 := by simp [lev] at hi; omega
    have h1 := two_lo w (.cells #[.string ⟨#[]⟩] 9) (.cells #[.string ⟨#[]⟩] 9)
    simp [World.cell?, h1, lev]
  have HB1 := Lib.hid hB1
  have HL1 := Lib.hid hL1
  clear hB1 hL1
  go_loopw [5, 6, 10] (fun lv u i wr => ∃ (j : Nat) (a : Option Addr) (c : Nat), j ≤ n ∧ i = .int .i64 j ∧ lv = .slice a (lev k j).length c ∧ StrsIn wr a (lev k j) ∧ Bld 9 1 w wr u (up k j).length (strVals (up k j))) (fun _ _ i _ => n - (intOf i).toNat)
  case atStart => exact ⟨0, some ⟨w.heap.size, 0, none⟩, 1, Nat.zero_le _, rfl, rfl, HL1.out, HB1.out⟩
  case round =>
    clear HB1 HL1
    obtain ⟨j, a, c, hj, rfl, rfl, hs, hb⟩ := hrel
    have HB := Lib.hid hb
    have hul := up_len hk j (by omega)
    have hpl := pow_le hk (show j ≤ 8 by omega)
    have HC : Hid (∀ W, Below wr.heap.size wr W → Calls Try.prog 59 #[.int .i64 (k : Nat), .slice a (lev k j).length c] W (RetSl 9 1 (lev k (j + 1)).length (strVals (lev k (j + 1))) W)) := Lib.hid (fun W hW => longerWords_any k (lev k j) a c W (hs.later hW) hk (by rw [lev_len]; exact hpl) (fun v hv => by have := lev_size k j v hv; omega))
    clear hs hb
    by_cases hlt : j < n
    · have hpl2 := pow_le hk (show j + 1 ≤ 8 by omega)
      have HLL := Lib.hid (lev_len k (j + 1))
      have HU := Lib.hid (up_succ k j)
      obtain ⟨ua, uc, rfl⟩ := owns_form HB.out.1
      go_wp2_with fail
      refine (HC.out _ (Below.refl _ _)).mono ?_
      rintro e w3 ⟨a3, c3, rfl, ho3, hb3⟩
      have HO3 := Lib.hid ho3
      have HB3 := Lib.hid (HB.out.later hb3)
      have HS3 := Lib.hid (Src.of_owns ho3)
      have hfar : ∀ q, (Value.slice a3 (lev k (j + 1)).length c3).ownBlock = some q → (Value.slice ua (up k j).length uc).ownBlock ≠ some q := fun q hq e => by
        have h1 := (ho3.lt q hq).1
        have h2 := (HB.out.1.lt q e).2
        omega
      have HFR := Lib.hid hfar
      have N1 : Hid ((strVals (lev k (j + 1))).length = (lev k (j + 1)).length * 1) := Lib.hid (by simp [strVals])
      have N2 : Hid (∀ u ∈ strVals (lev k (j + 1)), u.oneCell' = true) := Lib.hid (fun u hu => by obtain ⟨x, _, rfl⟩ := List.mem_map.1 hu; rfl)
      have N3 : Hid ((up k j).length + (lev k (j + 1)).length ≤ maxLen) := Lib.hid (by rw [HLL.out]; unfold maxLen; omega)
      have N4 : Hid (((up k j).length + (lev k (j + 1)).length) * 16 ≤ 140737488355328) := Lib.hid (by rw [HLL.out]; omega)
      clear ho3 hb3 hfar HC hul hpl hpl2
      go_wp2_with (at_builtin; refine wpList_appM rfl (.tmp 15) (.tmp 16) rfl Try.underlying33 Try.infoStr rfl (by decide) rfl HB3.out rfl HS3.out N1.out N2.out N3.out N4.out ?c4)
      intro v4 w4 hb4 hg4 ho4
      have HB4 : Hid (Bld 9 1 w w4 v4 (up k (j + 1)).length (strVals (up k (j + 1)))) := Lib.hid (by
        rw [HU.out, List.length_append, strVals_app]; exact hb4)
      have HS4 : Hid (StrsIn w4 a3 (lev k (j + 1))) := Lib.hid (owns_strsIn (HO3.out.kept hg4 (by
        cases hq : (Value.slice a3 (lev k (j + 1)).length c3).ownBlock with
        | none => exact .inl rfl
        | some q => exact .inr fun e => HFR.out q hq e.symm)))
      clear hb4 hg4 ho4
      go_wp2_with fail
      go_roundw
      case rel => exact ⟨j + 1, a3, c3, by omega, by go_num, rfl, HS4.out, HB4.out⟩
      case measure => simp [intOf]; omega
    · obtain rfl : j = n := by omega
      have F := Lib.hid HB.out.ret
      obtain ⟨ua, uc, rfl⟩ := owns_form HB.out.1
      go_wp2_with fail
      go_ret
      exact F.out
end Go.Proofs.Ytnnboeeogbgmdaa
