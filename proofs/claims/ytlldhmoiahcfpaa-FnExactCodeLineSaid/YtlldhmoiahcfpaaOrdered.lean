/-
  The program's sorted sets of words (ordered).
-/
import Derived.Test.YtlldhmoiahcfpaaCmpW
import Derived.Test.YtlldhmoiahcfpaaSetFns
namespace Go.Proofs.Ytlldhmoiahcfpaa
open Go.RowKit Go.Sort Go.Lib
set_option linter.unusedVariables false
theorem owns_blockS {w : World} {base g cap n : Nat} {T : TypeId} {xs : List Value} (h : w.ownsRow base T 1 (.slice (some ⟨g, 0, none⟩) n cap) n xs) : ∃ cur, base ≤ g ∧ w.heap[g]? = some (.cells cur T (0, 0)) ∧ n ≤ cap ∧ cap ≤ maxLen ∧ cur.size = cap * 1 ∧ cur.toList.take n = xs := by
  rcases h.2 with ⟨hv, _⟩ | ⟨g', cap', cur, hv, hb, hg, hn, hc, hs, ht⟩
  · cases hv
  · simp only [Value.slice.injEq, Option.some.injEq, Addr.mk.injEq, and_true, true_and] at hv
    obtain ⟨rfl, rfl⟩ := hv
    exact ⟨cur, hb, hg, hn, hc, hs, by simpa using ht⟩
theorem owns_shrinkS {w : World} {base g cap n k : Nat} {T : TypeId} {xs : List Value} (h : w.ownsRow base T 1 (.slice (some ⟨g, 0, none⟩) n cap) n xs) (hk : k ≤ n) : w.ownsRow base T 1 (.slice (some ⟨g, 0, none⟩) k cap) k (xs.take k) := by
  have hl := h.1
  obtain ⟨cur, h1, h2, h3, h4, h5, h6⟩ := owns_blockS h
  refine ⟨by rw [List.length_take]; omega, .inr ⟨g, cap, cur, rfl, h1, h2, by omega, h4, h5, ?_⟩⟩
  rw [← h6, List.take_take]
  congr 1; omega
/-- compareWords over the bytes -/
def cfL (x y : List UInt8) : Int := cfW ⟨x.toArray⟩ ⟨y.toArray⟩
theorem ltOf_cfL (x y : List UInt8) : ltOf cfL x y = ltW x y := by
  have h1 : (ByteArray.mk x.toArray).size = x.length := by show x.toArray.size = _; simp
  have h2 : (ByteArray.mk y.toArray).size = y.length := by show y.toArray.size = _; simp
  unfold ltOf cfL cfW orF cmpS Lib.compareInt ltW
  rw [h1, h2, bytesLess_eq, Lib.toList_data, Lib.toList_data]
  by_cases a1 : x.length < y.length
  · simp [a1]
  · by_cases a2 : y.length < x.length
    · have a3 : ¬ x.length = y.length := by omega
      simp [a1, a2, a3]
    · have a3 : x.length = y.length := by omega
      by_cases a4 : x < y
      · simp [a3, a4]
      · by_cases a5 : x = y
        · subst a5
          simp [List.lt_irrefl]
        · simp [a3, a4, a5]
theorem ltOf_cfL' : ltOf cfL = ltW := by funext x y; exact ltOf_cfL x y
theorem cmpLaysW (blk off size : Nat) (w : World) : CmpLays1 Try.prog 50 #[] encStr cfL blk off size w := fun m os dk hs x y =>
  (compareWords_any ⟨x.toArray⟩ ⟨y.toArray⟩ _).mono fun e w' ⟨he, o, hw⟩ => ⟨he, 0, #[o], by rw [hw, alloc_eq_grow, World.drewN_zero]⟩
theorem strVals_enc (l : List ByteArray) : strVals l = (blsW l).map encStr := by
  unfold strVals blsW
  rw [List.map_map]; rfl
theorem enc_strVals (z : List (List UInt8)) : z.map encStr = strVals (z.map fun x => ⟨x.toArray⟩) := by
  unfold strVals
  rw [List.map_map]; rfl
theorem blsW_of (z : List (List UInt8)) : blsW (z.map fun x => ⟨x.toArray⟩) = z := by
  unfold blsW
  rw [List.map_map]
  exact List.map_id'' (fun x => by simp [blW]) z
theorem compact_le (z : List (List UInt8)) : (Lib.compact z).length ≤ z.length := by
  unfold Lib.compact Lib.compactUpTo
  rw [List.length_map]
  exact Nat.le_trans (List.length_filter_le _ _) (by simp)
theorem sortW_any (z : List (List UInt8)) (base g cap : Nat) (w : World) (h : w.ownsRow base 9 1 (.slice (some ⟨g, 0, none⟩) z.length cap) z.length (z.map encStr)) (hlen : z.length ≤ 2 ^ 40) :
    Calls Try.prog 49 #[.slice (some ⟨g, 0, none⟩) z.length cap, .func (.func 50) #[] #[]] w fun e w' => e = .returned (.tuple #[]) ∧ w'.ownsRow base 9 1 (.slice (some ⟨g, 0, none⟩) z.length cap) z.length ((z.mergeSort fun x y => !ltW y x).map encStr) ∧ w.grownBy w' (some g) := by
  obtain ⟨cur, h1, h2, h3, h4, h5, h6⟩ := owns_blockS h
  have hc := Try.slices_SortFunc_total encStr (fun x => rfl) cfL (by rw [ltOf_cfL']; exact ltW_swo) 50 #[] g 0 cap z.toArray w (enters_of Try.func50 (by kernel_rfl) rfl) (cmpLaysW _ _ _ _) (holds_of_block h2 h6) (Array.getElem?_eq_some_iff.1 h2).1 (by simp; omega) (by rw [ltOf_cfL']; exact fun x y => ltW_total)
  rw [ltOf_cfL', List.size_toArray] at hc
  refine hc.mono ?_
  rintro e w' ⟨rfl, n, os, rfl⟩
  exact ⟨rfl, ownsRow_sorted (by simp) h1 h2 h3 h4 h5, grownBy_sorted _⟩
theorem compactW_any (z : List (List UInt8)) (base g cap : Nat) (w : World) (h : w.ownsRow base 9 1 (.slice (some ⟨g, 0, none⟩) z.length cap) z.length (z.map encStr)) (hlen : z.length ≤ 2 ^ 40) :
    Calls Try.prog 51 #[.slice (some ⟨g, 0, none⟩) z.length cap] w fun e w' => e = .returned (.slice (some ⟨g, 0, none⟩) (Lib.compact z).length cap) ∧ w'.ownsRow base 9 1 (.slice (some ⟨g, 0, none⟩) (Lib.compact z).length cap) (Lib.compact z).length ((Lib.compact z).map encStr) ∧ w.grownBy w' (some g) := by
  obtain ⟨cur, h1, h2, h3, h4, h5, h6⟩ := owns_blockS h
  have hle := compact_le z
  refine (Try.slices_Compact_string g 0 cap z w (holds_of_block h2 h6) (by omega) h3).mono ?_
  rintro e w' ⟨rfl, q, rfl⟩
  have k1 := ownsRow_sorted (n := q) (os := #[]) (ss := z) (ts := Lib.compact z ++ List.replicate (z.length - (Lib.compact z).length) []) (by simp; omega) h1 h2 h3 h4 h5
  have k2 := grownBy_sorted (w := w) (g := g) (n := q) (os := #[]) (Lib.compact z ++ List.replicate (z.length - (Lib.compact z).length) []).toArray
  rw [grow_empty] at k1 k2
  refine ⟨rfl, ?_, k2⟩
  have k3 := owns_shrinkS k1 hle
  rw [List.map_append, List.take_left' (by simp)] at k3
  exact k3
set_option maxHeartbeats 800000 in
theorem ordered_any (l : List ByteArray) (a : Option Addr) (cap : Nat) (w : World) (hl : StrsIn w a l) (hlen : l.length ≤ 1000000) :
    Calls Try.prog 41 #[.slice a l.length cap] w (RetSet (fun u => u ∈ l) w) := by
  rcases Nat.eq_zero_or_pos l.length with h0 | h0
  · have hl0 : l = [] := List.eq_nil_of_length_eq_zero h0
    subst hl0
    have HC : Hid (∀ W, Calls Try.prog 48 #[.slice a 0 cap] W fun e W' => ∃ v', e = .returned v' ∧ W'.ownsRow W.heap.size 9 1 v' 0 [] ∧ Below W.heap.size W W') := Lib.hid (fun W => by
      cases a with
      | none => exact (Try.slices_Clone_string_nil 0 cap W).mono fun e W' ⟨h1, h2⟩ => ⟨_, h1, by rw [h2]; exact World.ownsRow_nil _ _ _ _, by rw [h2]; exact Below.refl _ _⟩
      | some ad => exact (Try.slices_Clone_string_zero ad cap W).mono fun e W' ⟨v', h1, h2, h3, h4⟩ => ⟨v', h1, h2, h4⟩)
    clear hl hlen h0
    show Calls Try.prog 41 #[.slice a 0 cap] w _
    go_enter Try.func41, Try.ntmps41
    go_wp2_with fail
    refine (HC.out _).mono ?_
    rintro e w1 ⟨v1, rfl, ho1, hb1⟩
    obtain ⟨a1, c1, rfl⟩ := owns_form ho1
    have F : Hid (RetSet (fun u => u ∈ ([] : List ByteArray)) w (.returned (.slice a1 0 c1)) w1) := Lib.hid ⟨[], SortedS.nil, fun u => Iff.rfl, a1, c1, rfl, ho1, hb1⟩
    clear ho1 hb1 HC
    go_wp2_with fail
    refine (Try.slices_SortFunc_none (α := Nat) a1 c1 _ _).mono ?_
    rintro e w2 ⟨rfl, rfl⟩
    go_wp2_with fail
    refine (Try.slices_Compact_string_empty a1 c1 _).mono ?_
    rintro e w3 ⟨rfl, rfl⟩
    go_wp2_with fail
    go_ret
    exact F.out
  · have HC : Hid (∀ W, Below w.heap.size w W → Calls Try.prog 48 #[.slice a l.length cap] W fun e W' => ∃ v', e = .returned v' ∧ W'.ownsRow W.heap.size 9 1 v' l.length (strVals l) ∧ v' ≠ .slice none 0 0 ∧ Below W.heap.size W W') := Lib.hid (fun W hW => by
      obtain ⟨b, off, rfl, _, hc⟩ := (hl.later hW).cell h0
      have := Try.slices_Clone_string b off l.length cap l W (Nat.le_refl _) (by omega) (fun j hj => by have := hc j hj; unfold nthS at this; exact this)
      rw [List.take_length] at this
      exact this)
    have hzl : (blsW l).length = l.length := blsW_len l
    have HZV := Lib.hid (strVals_enc l)
    have hml : ((blsW l).mergeSort fun x y => !ltW y x).length = l.length := by simp [blsW_len]
    have HML := Lib.hid hml
    have HOM : Hid (∀ u, u ∈ (ordW (blsW l)).map (fun x => (⟨x.toArray⟩ : ByteArray)) ↔ u ∈ l) := Lib.hid (fun u => by
      rw [← blsW_mem, blsW_of, ordW_mem, blsW_mem])
    have HOS : Hid (SortedS ((ordW (blsW l)).map (fun x => (⟨x.toArray⟩ : ByteArray)))) := Lib.hid (by unfold SortedS; rw [blsW_of]; exact ordW_sorted _)
    have HS2 := Lib.hid (fun base g c W h => sortW_any (blsW l) base g c W h (by rw [blsW_len]; omega))
    have HP2 := Lib.hid (fun base g c W h => compactW_any ((blsW l).mergeSort fun x y => !ltW y x) base g c W h (by rw [hml]; omega))
    rw [hzl] at HS2
    rw [hml] at HP2
    clear hl hzl hml
    have HF : Hid (∀ W (g c : Nat) , W.ownsRow w.heap.size 9 1 (.slice (some ⟨g, 0, none⟩) (ordW (blsW l)).length c) (ordW (blsW l)).length ((ordW (blsW l)).map encStr) → Below w.heap.size w W → RetSet (fun u => u ∈ l) w (.returned (.slice (some ⟨g, 0, none⟩) (ordW (blsW l)).length c)) W) := Lib.hid (fun W g c ho hb => by
      refine ⟨_, HOS.out, HOM.out, some ⟨g, 0, none⟩, c, ?_, ?_, hb⟩
      · rw [List.length_map]
      · rw [List.length_map, ← enc_strVals]; exact ho)
    have HU : Hid (Lib.compact ((blsW l).mergeSort fun x y => !ltW y x) = ordW (blsW l)) := Lib.hid rfl
    rw [HU.out] at HP2
    clear HU
    generalize ordW (blsW l) = oo at *
    generalize ((blsW l).mergeSort fun x y => !ltW y x) = mm at *
    generalize blsW l = zz at *
    go_enter Try.func41, Try.ntmps41
    go_wp2_with fail
    refine (HC.out _ (Below.refl _ _)).mono ?_
    rintro e w1 ⟨v1, rfl, ho1, hne, hb1⟩
    obtain ⟨g, cap1, rfl⟩ : ∃ g cap1, v1 = .slice (some ⟨g, 0, none⟩) l.length cap1 := owns_someS ho1 h0
    rw [HZV.out] at ho1
    have HO := Lib.hid ho1
    have HB := Lib.hid hb1
    clear ho1 hb1 hne HC
    go_wp2_with fail
    refine (HS2.out _ g cap1 _ HO.out).mono ?_
    rintro e w2 ⟨rfl, ho2, hg2⟩
    have HO2 := Lib.hid ho2
    have HB2 : Hid (Below w.heap.size w w2) := Lib.hid (HB.out.grown hg2 HB.out.size (fun k hk => (HO.out.lt k hk).1))
    clear ho2 hg2 HS2
    go_wp2_with fail
    refine (HP2.out _ g cap1 _ HO2.out).mono ?_
    rintro e w3 ⟨rfl, ho3, hg3⟩
    have HB3 : Hid (Below w.heap.size w w3) := Lib.hid (HB2.out.grown hg3 HB2.out.size (fun k hk => (HO2.out.lt k hk).1))
    have F := Lib.hid (HF.out _ _ _ ho3 HB3.out)
    clear ho3 hg3 HP2
    go_wp2_with fail
    go_ret
    exact F.out
end Go.Proofs.Ytlldhmoiahcfpaa
