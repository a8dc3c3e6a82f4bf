/-
  The reference's FitsPattern.
-/
import Derived.Test.YtldkghfnlkbmpaaFitsM
namespace Go.Proofs.Ytldkghfnlkbmpaa
open Go.RowKit
set_option linter.unusedVariables false
theorem cutT_zero {p s : ByteArray} (h : (fitL p s).length = 0) : (cutF true (fitL p s)).length = 0 := by rw [cutF_pos, h]; rfl
theorem cutT_one {p s : ByteArray} (h : 0 < (fitL p s).length) : (cutF true (fitL p s)).length = 1 := by rw [cutF_pos]; omega
theorem cutT_head (p s : ByteArray) (h : 0 < (fitL p s).length) : nthF (cutF true (fitL p s)) 0 = nthF (fitL p s) 0 := by
  cases hf : fitL p s with
  | nil => rw [hf] at h; simp at h
  | cons a l => rfl
theorem l28Fits_all (p s : ByteArray) (b off cap : Nat) (w : World) (hp8 : p.size ≤ 8) (hs16 : s.size ≤ 16) (hb : b < w.heap.size) :
    Calls Try.prog 52 #[.string p, .string s, .string (varsOf p), .slice (some ⟨b, off, none⟩) 0 cap, .bool true] w fun e w' => ∃ a c xs, e = .returned (.slice a (cutF true (fitL p s)).length c) ∧ w'.ownsRow w.heap.size 29 1 (.slice a (cutF true (fitL p s)).length c) (cutF true (fitL p s)).length xs ∧ FitsAt w' (fun k => w.heap.size ≤ k ∨ k = b) xs (cutF true (fitL p s)) ∧ Below w.heap.size w w' := by
  have hn : (varsOf p).size ≤ 8 := by have := varsTo_size p p.size; unfold varsOf; omega
  refine (fitsS_any (varsOf p) true hn p.size p s [] b off cap w rfl hp8 hs16 (allIn_vars p) (.inl rfl) (by simp; omega) (fun j hj => absurd hj (by simp)) hb).mono ?_
  rintro e w' ⟨xs, ⟨a, c, rfl, ho, hbl⟩, hf⟩
  exact ⟨a, c, xs, rfl, ho, hf, hbl⟩
set_option maxRecDepth 20000 in
set_option maxHeartbeats 2000000 in
theorem specFitsPattern_any (p s : ByteArray) (w : World) (hp : p.size ≤ maxLen) (hs : s.size ≤ maxLen) :
    Calls Try.prog 32 #[.string p, .string s] w (RetFP p s w) := by
  cases hok : fitOkB p s
  · have F := Lib.hid (RetFP.no (fpOk_not1 hok) (Below.refl w.heap.size w))
    go_enter Try.func32, Try.ntmps32
    go_wp2_with (go_at_call 51; refine (l28Ok_any _ _ _ hp hs).mono ?_; rintro e w' ⟨h9, rfl⟩; rw [hok] at h9; subst h9)
    exact bodyPost_ret (v := .tuple #[.slice none 0 0, .bool false]) (by simp [results, Try.results32, go_sem]) rfl F.out
  · obtain ⟨_, _, hp8, hs16⟩ := fitOk_out hok
    have HOK := Lib.hid hok
    have HW := Lib.hid (fun b cap W hb => l28Fits_all p s b 0 cap W hp8 hs16 hb)
    have HVV : Hid (∀ i, i < (fitL p s).length → (∀ v ∈ nthF (fitL p s) i, v.size ≤ 16) ∧ (nthF (fitL p s) i).length ≤ 8) := Lib.hid (fun i hi => fitL_vals hp8 hs16 hi)
    go_enter Try.func32, Try.ntmps32
    go_wp2_with (go_at_call 51; refine (l28Ok_any _ _ _ hp hs).mono ?_; rintro e w' ⟨h9, rfl⟩; rw [HOK.out] at h9; subst h9)
    clear hok
    refine (l28Variables_any p _ (by omega)).mono ?_
    rintro e w2 ⟨rfl, hb2⟩
    go_wp2_with fail
    refine (HW.out w2.heap.size 0 _ (by simp)).mono ?_
    rintro e w3 ⟨a3, c3, xs, rfl, ho3, hf3, hb3⟩
    have HB : Hid (Below w.heap.size w w3) := Lib.hid (Below.now hb2 (Below.now ((Below.refl _ _).alloc (Nat.le_refl _) _) hb3))
    clear hb2 hb3
    by_cases hpos : 0 < (fitL p s).length
    · have FOK := Lib.hid (fpOk_yes HOK.out hpos)
      have FV : Hid (fpV p s = nthF (fitL p s) 0) := Lib.hid (by unfold fpV; rw [FOK.out]; rfl)
      have hl1 := cutT_one hpos
      obtain ⟨b, off, c, hx0, hst, hbl, _⟩ := hf3.2 0 (by omega)
      rw [cutT_head p s hpos] at hx0 hst
      have hv8 := (HVV.out 0 hpos).2
      rw [hl1] at ho3
      rw [hl1]
      obtain ⟨g, hg⟩ : ∃ g, a3 = some ⟨g, 0, none⟩ := by
        rcases ho3.2 with ⟨hv, h0⟩ | ⟨g, cap', cur, hv, _⟩
        · omega
        · simp only [Value.slice.injEq] at hv
          exact ⟨g, hv.1⟩
      subst hg
      have g0 : w3.cell? ⟨g, 0, none⟩ = some (.slice (some ⟨b, off, none⟩) (nthF (fitL p s) 0).length c) := by rw [ho3.cellAt 0 (by omega)]; exact hx0
      have g1 : ∀ o, (w3.alloc o).cell? ⟨g, 0, none⟩ = some (.slice (some ⟨b, off, none⟩) (nthF (fitL p s) 0).length c) := fun o => by
        rw [World.cell?_alloc_lt w3 o _ (World.block_lt_of_cell? w3 _ g0)]; exact g0
      have HST := Lib.hid hst
      have M0 : Hid (Bld 9 1 w (w3.alloc (.cells #[] 9)) (.slice (some ⟨w3.heap.size, 0, none⟩) 0 0) 0 []) := Lib.hid ((Bld.empty 9 1 w3).since HB.out)
      have MS : Hid (Src (w3.alloc (.cells #[] 9)) (.slice (some ⟨b, off, none⟩) (nthF (fitL p s) 0).length c) (nthF (fitL p s) 0).length (strVals (nthF (fitL p s) 0))) := Lib.hid (Src.later (Src.of_cells hst) ((Below.refl _ _).alloc (Nat.le_refl _) _))
      have N1 : Hid ((strVals (nthF (fitL p s) 0)).length = (nthF (fitL p s) 0).length * 1) := Lib.hid (by simp [strVals])
      have N2 : Hid (∀ u ∈ strVals (nthF (fitL p s) 0), u.oneCell' = true) := Lib.hid (fun u hu => by obtain ⟨x, _, rfl⟩ := List.mem_map.1 hu; rfl)
      have N3 : Hid (0 + (nthF (fitL p s) 0).length ≤ maxLen) := Lib.hid (by unfold maxLen; omega)
      have N4 : Hid ((0 + (nthF (fitL p s) 0).length) * 16 ≤ 140737488355328) := Lib.hid (by omega)
      have hb0 := World.block_lt_of_cell? w3 _ g0
      clear ho3 hf3 hst hx0 hl1 hbl hv8
      go_wp2_with (at_builtin; refine wpList_appM rfl (.tmp 20) (.tmp 23) rfl Try.underlying29 Try.infoStr rfl (by decide) rfl M0.out rfl MS.out N1.out N2.out N3.out N4.out ?c4)
      intro v4 w4 hb4 hg4 ho4
      replace hb4 : Bld 9 1 w w4 v4 (nthF (fitL p s) 0).length (strVals (nthF (fitL p s) 0)) := by simpa using hb4
      obtain ⟨a4, c4, rfl⟩ := owns_form hb4.1
      have FR : Hid (RetFP p s w (.returned (.tuple #[.slice a4 (nthF (fitL p s) 0).length c4, .bool true])) w4) := Lib.hid (by
        unfold RetFP
        rw [FV.out, FOK.out]
        exact ⟨a4, c4, rfl, hb4.1, hb4.2⟩)
      clear hb4 hg4 ho4
      go_wp2_with fail
      exact bodyPost_ret (v := .tuple #[.slice a4 (nthF (fitL p s) 0).length c4, .bool true]) (by simp [results, Try.results32, go_sem]) rfl FR.out
    · have h0 : (fitL p s).length = 0 := by omega
      have F := Lib.hid (RetFP.no (fpOk_not2 h0) HB.out)
      rw [cutT_zero h0]
      clear hpos ho3 hf3
      go_wp2_with fail
      exact bodyPost_ret (v := .tuple #[.slice none 0 0, .bool false]) (by simp [results, Try.results32, go_sem]) rfl F.out
end Go.Proofs.Ytldkghfnlkbmpaa
