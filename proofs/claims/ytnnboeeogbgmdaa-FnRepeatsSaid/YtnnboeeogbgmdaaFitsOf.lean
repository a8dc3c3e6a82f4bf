/-
  fitsOf; how many fits there are.
-/
import Derived.Test.YtnnboeeogbgmdaaFitK
import Derived.Laws.EntriesVeiled
namespace Go.Proofs.Ytnnboeeogbgmdaa
open Go.RowKit
set_option linter.unusedVariables false
theorem five (w : World) (o1 o2 o3 o4 o5 : Obj) : (((((w.alloc o1).alloc o2).alloc o3).alloc o4).alloc o5).heap[w.heap.size]? = some o1 ∧ (((((w.alloc o1).alloc o2).alloc o3).alloc o4).alloc o5).heap[w.heap.size + 1]? = some o2 ∧ (((((w.alloc o1).alloc o2).alloc o3).alloc o4).alloc o5).heap[w.heap.size + 1 + 1]? = some o3 ∧
    (((((w.alloc o1).alloc o2).alloc o3).alloc o4).alloc o5).heap[w.heap.size + 1 + 1 + 1]? = some o4 ∧ (((((w.alloc o1).alloc o2).alloc o3).alloc o4).alloc o5).heap[w.heap.size + 1 + 1 + 1 + 1]? = some o5 ∧ (((((w.alloc o1).alloc o2).alloc o3).alloc o4).alloc o5).heap.size = w.heap.size + 5 := by
  have s1 := alloc_size w o1
  have s2 := alloc_size (w.alloc o1) o2
  have s3 := alloc_size ((w.alloc o1).alloc o2) o3
  have s4 := alloc_size (((w.alloc o1).alloc o2).alloc o3) o4
  have s5 := alloc_size ((((w.alloc o1).alloc o2).alloc o3).alloc o4) o5
  refine ⟨?_, ?_, ?_, ?_, ?_, by omega⟩
  · rw [alloc_old _ _ (by omega), alloc_old _ _ (by omega), alloc_old _ _ (by omega), alloc_old _ _ (by omega)]; exact alloc_new _ _
  · rw [alloc_old _ _ (by omega), alloc_old _ _ (by omega), alloc_old _ _ (by omega), ← s1]; exact alloc_new _ _
  · rw [alloc_old _ _ (by omega), alloc_old _ _ (by omega), ← s1, ← s2]; exact alloc_new _ _
  · rw [alloc_old _ _ (by omega), ← s1, ← s2, ← s3]; exact alloc_new _ _
  · rw [← s1, ← s2, ← s3, ← s4]; exact alloc_new _ _
/-- a slice of lists of values, all in memory of its own -/
def RetF (F : List (List ByteArray)) (w : World) (e : Ending) (w' : World) : Prop := ∃ a c xs, e = .returned (.slice a F.length c) ∧ w'.ownsRow w.heap.size 33 1 (.slice a F.length c) F.length xs ∧ FAt w.heap.size w' (.slice a F.length c) xs F ∧ Below w.heap.size w w'
/-- all fits -/
def fitL (p s : ByteArray) : List (List ByteArray) := fits (bl (varsOf p)) (bl p) (bl s) []
/-- a slice of n elements in memory of its own -/
def RetN (n : Nat) (w : World) (e : Ending) (w' : World) : Prop := ∃ a c, e = .returned (.slice a n c) ∧ Below w.heap.size w w'
def fitN (p s : ByteArray) : Nat := (fits (bl (varsOf p)) (bl p) (bl s) []).length
set_option maxRecDepth 20000 in
set_option maxHeartbeats 2000000 in
theorem fitsOf_all (p s : ByteArray) (w : World) (hp8 : p.size ≤ 8) (hs : s.size ≤ 16) : Calls Try.prog 46 #[.string p, .string s] w (RetF (fitL p s) w) := by
  have eg := enters_of Try.func68 (by kernel_rfl) rfl
  have hcnt : fitN p s ≤ 6975757441 := by
    unfold fitN
    have h1 := fits_count (bl (varsOf p)) (bl p) (bl s) [] (by rw [bl_len]; exact hs)
    have h2 : 17 ^ (bl p).length ≤ 17 ^ 8 := Nat.pow_le_pow_right (by omega) (by rw [bl_len]; exact hp8)
    omega
  have HK : Hid (∀ (H bo bp bw bn bf : Nat) (W : World), OutK H bo W (.slice none 0 0) [] → Bxs H bo bp bw bn bf p s W →
      Calls Try.prog 68 #[.int .i64 0, .int .i64 0, .slice none 0 0, .pointer (some ⟨bp, 0, none⟩), .pointer (some ⟨bw, 0, none⟩), .pointer (some ⟨bo, 0, none⟩), .pointer (some ⟨bn, 0, none⟩), .pointer (some ⟨bf, 0, none⟩)] W (FitPost H bo (.slice none 0 0) [] (fitL p s) W)) := Lib.hid (fun H bo bp bw bn bf W h1 h2 => by
    have := fitK_any p s H bo bp bw bn bf hp8 hs p.size 0 0 [] none 0 (.slice none 0 0) [] W (by omega) (by omega) rfl (fun j hj => absurd hj (by simp)) (fun j hj => absurd hj (by simp)) (.inl rfl) (fun x hx => by cases hx) h1 h2 (by rw [List.drop_zero, List.drop_zero]; unfold fitN at hcnt; simp only [List.length_nil]; omega)
    rw [List.drop_zero, List.drop_zero] at this
    exact this)
  have HCN := Lib.hid hcnt
  clear hcnt
  go_enter Try.func46, Try.ntmps46
  go_wp2_with (go_at_call 34; refine (variables_any p _ (by omega)).mono ?_; rintro e w' ⟨rfl, hw9⟩; subst hw9)
  have HF := Lib.hid (five w (.cells #[.string p] 9) (.cells #[.string s] 9) (.cells #[.slice none 0 0] 67) (.cells #[.string (varsOf p)] 9) (.cells #[.func (.func 68) #[] #[.pointer (some ⟨w.heap.size, 0, none⟩), .pointer (some ⟨w.heap.size + 1, 0, none⟩), .pointer (some ⟨w.heap.size + 1 + 1, 0, none⟩), .pointer (some ⟨w.heap.size + 1 + 1 + 1, 0, none⟩), .pointer (some ⟨w.heap.size + 1 + 1 + 1 + 1, 0, none⟩)]] 87))
  have hbel : Below w.heap.size w (((((w.alloc (.cells #[.string p] 9)).alloc (.cells #[.string s] 9)).alloc (.cells #[.slice none 0 0] 67)).alloc (.cells #[.string (varsOf p)] 9)).alloc (.cells #[.func (.func 68) #[] #[.pointer (some ⟨w.heap.size, 0, none⟩), .pointer (some ⟨w.heap.size + 1, 0, none⟩), .pointer (some ⟨w.heap.size + 1 + 1, 0, none⟩), .pointer (some ⟨w.heap.size + 1 + 1 + 1, 0, none⟩), .pointer (some ⟨w.heap.size + 1 + 1 + 1 + 1, 0, none⟩)]] 87)) := by
    repeat (first | exact Below.refl _ _ | refine Below.alloc ?_ (by simp; try omega) _)
  generalize (((((w.alloc (.cells #[.string p] 9)).alloc (.cells #[.string s] 9)).alloc (.cells #[.slice none 0 0] 67)).alloc (.cells #[.string (varsOf p)] 9)).alloc (.cells #[.func (.func 68) #[] #[.pointer (some ⟨w.heap.size, 0, none⟩), .pointer (some ⟨w.heap.size + 1, 0, none⟩), .pointer (some ⟨w.heap.size + 1 + 1, 0, none⟩), .pointer (some ⟨w.heap.size + 1 + 1 + 1, 0, none⟩), .pointer (some ⟨w.heap.size + 1 + 1 + 1 + 1, 0, none⟩)]] 87)) = W at *
  have hOK : OutK (w.heap.size + 5) (w.heap.size + 1 + 1) W (.slice none 0 0) [] := ⟨HF.out.2.2.1, by omega, by rw [HF.out.2.2.2.2.2]; exact Nat.le_refl _, [], World.ownsRow_nil _ _ _ _, FAt.nil _ _ _⟩
  have hBX : Bxs (w.heap.size + 5) (w.heap.size + 1 + 1) w.heap.size (w.heap.size + 1) (w.heap.size + 1 + 1 + 1) (w.heap.size + 1 + 1 + 1 + 1) p s W := by
    obtain ⟨h1, h2, h3, h4, h5, h6⟩ := HF.out
    exact ⟨by simp [World.cell?, h1], by simp [World.cell?, h2], by simp [World.cell?, h4], by simp [World.cell?, h5], by omega, by omega⟩
  refine (HK.out _ _ _ _ _ _ W hOK hBX).mono ?_
  rintro e w2 ⟨rfl, o', hr, hk⟩
  have hc := hk.cell.1
  rw [List.nil_append] at hk
  obtain ⟨xs, hrow, hfa⟩ := hk.row
  obtain ⟨a2, c2, rfl⟩ := owns_form hrow
  have HB2 : Hid (Below w.heap.size w w2) := Lib.hid ⟨hr.os.trans hbel.os, hr.tape.trans hbel.tape, hr.output.trans hbel.output, Nat.le_trans hbel.size hr.size, fun k hkk => by
    rw [hr.block k (Nat.lt_of_lt_of_le hkk hbel.size) (by omega) (by simp [Value.ownBlock]), hbel.block k hkk]⟩
  have HR : Hid (w2.ownsRow w.heap.size 33 1 (.slice a2 (fitL p s).length c2) (fitL p s).length xs) := Lib.hid (owns_mono hrow (by omega))
  have HA : Hid (FAt w.heap.size w2 (.slice a2 (fitL p s).length c2) xs (fitL p s)) := Lib.hid (hfa.mono (by omega))
  clear hr hk hrow hfa hOK hBX hbel HF HK
  go_wp2_with fail
  go_ret
  exact ⟨_, _, _, rfl, HR.out, HA.out, HB2.out⟩
theorem fitsOf_any (p s : ByteArray) (w : World) (hp8 : p.size ≤ 8) (hs : s.size ≤ 16) : Calls Try.prog 46 #[.string p, .string s] w (RetN (fitN p s) w) :=
  (fitsOf_all p s w hp8 hs).mono fun _ _ ⟨a, c, _, he, _, _, hb⟩ => ⟨a, c, he, hb⟩
end Go.Proofs.Ytnnboeeogbgmdaa
