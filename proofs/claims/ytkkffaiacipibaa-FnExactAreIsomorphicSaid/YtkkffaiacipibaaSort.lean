/-
  Sorting and collecting a list of integers of the call's own.
-/
import Derived.Test.YtkkffaiacipibaaBuild
import Derived.Test.YtkkffaiacipibaaTabPlain
import Derived.Test.YtkkffaiacipibaaSortPl
import Derived.Test.YtkkffaiacipibaaShelf
import Derived.Sort.OwnSortedInts
namespace Go.Proofs.Ytkkffaiacipibaa
open Go.RowKit Go.Sort
set_option linter.unusedVariables false
theorem owns_block_of {w : World} {base g cap n : Nat} {T : TypeId} {xs : List Value} (h : w.ownsRow base T 1 (.slice (some ⟨g, 0, none⟩) n cap) n xs) : ∃ cur, base ≤ g ∧ w.heap[g]? = some (.cells cur T (0, 0)) ∧ n ≤ cap ∧ cap ≤ maxLen ∧ cur.size = cap * 1 ∧ cur.toList.take n = xs := by
  rcases h.2 with ⟨hv, _⟩ | ⟨g', cap', cur, hv, hb, hg, hn, hc, hs, ht⟩
  · cases hv
  · simp only [Value.slice.injEq, Option.some.injEq, Addr.mk.injEq, and_true, true_and] at hv
    obtain ⟨rfl, rfl⟩ := hv
    exact ⟨cur, hb, hg, hn, hc, hs, by simpa using ht⟩
theorem owns_shrink {w : World} {base g cap n k : Nat} {T : TypeId} {xs : List Value} (h : w.ownsRow base T 1 (.slice (some ⟨g, 0, none⟩) n cap) n xs) (hk : k ≤ n) : w.ownsRow base T 1 (.slice (some ⟨g, 0, none⟩) k cap) k (xs.take k) := by
  have hl := h.1
  obtain ⟨cur, h1, h2, h3, h4, h5, h6⟩ := owns_block_of h
  refine ⟨by rw [List.length_take]; omega, .inr ⟨g, cap, cur, rfl, h1, h2, by omega, h4, h5, ?_⟩⟩
  rw [← h6, List.take_take]
  congr 1; omega
theorem grow_none (w : World) : grow w #[] = w := by simp [grow]
theorem sortOwn_any (l : List Int) (base g cap : Nat) (w : World) (h : w.ownsRow base 3 1 (.slice (some ⟨g, 0, none⟩) l.length cap) l.length (intVals l)) (hlen : l.length ≤ 2 ^ 47) :
    Calls Try.prog 86 #[.slice (some ⟨g, 0, none⟩) l.length cap] w fun e w' => e = .returned (.tuple #[]) ∧ w'.ownsRow base 3 1 (.slice (some ⟨g, 0, none⟩) l.length cap) l.length (intVals (sortL l)) ∧ w.grownBy w' (some g) := by
  obtain ⟨cur, h1, h2, h3, h4, h5, h6⟩ := owns_block_of h
  refine (Try.slices_Sort_int g 0 cap l w (holds_of_blockI h2 h6) (Array.getElem?_eq_some_iff.1 h2).1 (by omega)).mono ?_
  rintro e w' ⟨rfl, n, os, rfl⟩
  exact ⟨rfl, ownsRow_sortedI (by simp) h1 h2 h3 h4 h5, grownBy_sortedI _⟩
theorem compactOwn_any (l : List Int) (base g cap : Nat) (w : World) (h : w.ownsRow base 3 1 (.slice (some ⟨g, 0, none⟩) l.length cap) l.length (intVals l)) (hlen : l.length ≤ 2 ^ 47) :
    Calls Try.prog 105 #[.slice (some ⟨g, 0, none⟩) l.length cap] w fun e w' => e = .returned (.slice (some ⟨g, 0, none⟩) (Lib.compact l).length cap) ∧ w'.ownsRow base 3 1 (.slice (some ⟨g, 0, none⟩) (Lib.compact l).length cap) (Lib.compact l).length (intVals (Lib.compact l)) ∧ w.grownBy w' (some g) := by
  obtain ⟨cur, h1, h2, h3, h4, h5, h6⟩ := owns_block_of h
  have hle : (Lib.compact l).length ≤ l.length := by
    unfold Lib.compact Lib.compactUpTo
    rw [List.length_map]
    exact Nat.le_trans (List.length_filter_le _ _) (by simp)
  refine (Try.slices_Compact_int g 0 cap l w (holds_of_blockI h2 h6) (by omega) h3).mono ?_
  rintro e w' ⟨rfl, q, rfl⟩
  have k1 := ownsRow_sortedI (n := q) (os := #[]) (ss := l) (ts := Lib.compact l ++ List.replicate (l.length - (Lib.compact l).length) 0) (by simp; omega) h1 h2 h3 h4 h5
  have k2 := grownBy_sortedI (w := w) (g := g) (n := q) (os := #[]) (Lib.compact l ++ List.replicate (l.length - (Lib.compact l).length) 0).toArray
  rw [grow_none] at k1 k2
  refine ⟨rfl, ?_, k2⟩
  have k3 := owns_shrink k1 hle
  rw [List.map_append, List.take_left' (by simp)] at k3
  exact k3
set_option maxHeartbeats 800000 in
theorem collected_any (l : List Int) (a : Option Addr) (cap : Nat) (w : World) (hl : IntsIn w a l) (h0 : 0 < l.length) (hlen : l.length ≤ 1000000) :
    Calls Try.prog 87 #[.slice a l.length cap] w (RetSl 3 1 (collL l).length (intVals (collL l)) w) := by
  have HC : Hid (∀ W, Below w.heap.size w W → Calls Try.prog 97 #[.slice a l.length cap] W fun e W' => ∃ v', e = .returned v' ∧ W'.ownsRow W.heap.size 3 1 v' l.length (intVals l) ∧ v' ≠ .slice none 0 0 ∧ Below W.heap.size W W') := fun W hW => by
    obtain ⟨b, off, rfl, _, hc⟩ := (hl.later hW).cell h0
    have := Try.slices_Clone_int b off l.length cap l W (Nat.le_refl _) (by omega) (fun j hj => by have := hc j hj; unfold nthZ at this; exact this)
    rw [List.take_length] at this
    exact this
  clear hl
  go_enter Try.func87, Try.ntmps87
  go_wp2_with fail
  refine (HC.out _ (Below.refl _ _)).mono ?_
  rintro e w1 ⟨v1, rfl, ho1, hne, hb1⟩
  obtain ⟨g, cap1, rfl⟩ : ∃ g cap1, v1 = .slice (some ⟨g, 0, none⟩) l.length cap1 := by
    rcases ho1.2 with ⟨hv, _⟩ | ⟨g, cap', cur, hv, _⟩
    · exact absurd hv hne
    · exact ⟨g, cap', hv⟩
  have HO := Lib.hid ho1
  have HB := Lib.hid hb1
  clear ho1 hb1 hne HC
  go_wp2_with fail
  refine (sortOwn_any l _ g cap1 _ HO.out (by omega)).mono ?_
  rintro e w2 ⟨rfl, ho2, hg2⟩
  have HO2 : Hid (w2.ownsRow w.heap.size 3 1 (.slice (some ⟨g, 0, none⟩) (sortL l).length cap1) (sortL l).length (intVals (sortL l))) := by rw [sortL_len]; exact ho2
  have HB2 : Hid (Below w.heap.size w w2) := HB.out.grown hg2 HB.out.size (fun k hk => (HO.out.lt k hk).1)
  clear ho2 hg2
  go_wp2_with fail
  have hC := compactOwn_any (sortL l) _ g cap1 w2 HO2.out (by rw [sortL_len]; omega)
  rw [sortL_len] at hC
  refine hC.mono ?_
  rintro e w3 ⟨rfl, ho3, hg3⟩
  have HB3 : Hid (Below w.heap.size w w3) := HB2.out.grown hg3 HB2.out.size (fun k hk => (HO2.out.lt k hk).1)
  have HO3 := Lib.hid ho3
  clear ho3 hg3 hC
  go_wp2_with fail
  go_ret
  exact ⟨_, _, rfl, HO3.out, HB3.out⟩
end Go.Proofs.Ytkkffaiacipibaa
