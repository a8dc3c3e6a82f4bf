/-
  Readings of a word, of the program: readings, CountReadings.
-/
import Derived.Test.YtmgdglghjlggnaaGra04
import Derived.Test.YtmgdglghjlggnaaGra03
import Derived.Sort.OwnSorted
import Derived.Test.YtmgdglghjlggnaaGra05
import Derived.Test.YtmgdglghjlggnaaGra06
import Derived.Shelf.Abstract
namespace Go.Proofs.Ytmgdglghjlggnaa
open Go.RowKit Go.Sort
set_option linter.unusedVariables false
/-- cmp.Compare at strings -/
def cmpS (a b : List UInt8) : Int := if Op.bytesLess a b = true then -1 else if (a == b) = true then 0 else 1
/-- cmp.Or at two integers -/
def orF (x y : Int) : Int := if (x == 0) = true then y else x
/-- compareWords -/
def cfW (a b : ByteArray) : Int := orF (Lib.compareInt (a.size : Int) (b.size : Int)) (cmpS a.toList b.toList)
set_option maxHeartbeats 400000 in
theorem isNaNS_any (a : ByteArray) (w : World) : Calls Try.prog 84 #[.string a] w fun e w' => e = .returned (.bool false) ∧ w = w' := by
  go_enter Try.func84, Try.ntmps84
  go_wp2_with fail
  go_ret
  exact ⟨rfl, rfl⟩
set_option maxHeartbeats 400000 in
theorem compareS_any (a b : ByteArray) (w : World) : Calls Try.prog 63 #[.string a, .string b] w fun e w' => e = .returned (.int .i64 (cmpS a.toList b.toList)) ∧ w = w' := by
  cases h1 : Op.bytesLess a.toList b.toList
  · cases h2 : (a.toList == b.toList)
    · have F : Hid (cmpS a.toList b.toList = 1) := Lib.hid (by unfold cmpS; rw [h1, h2]; rfl)
      go_enter Try.func63, Try.ntmps63
      go_wp2_with (go_at_call 84; refine (isNaNS_any _ _).mono ?_; rintro e w' ⟨rfl, rfl⟩)
      go_ret
      exact ⟨ret_int F.out.symm, rfl⟩
    · have F : Hid (cmpS a.toList b.toList = 0) := Lib.hid (by unfold cmpS; rw [h1, h2]; rfl)
      go_enter Try.func63, Try.ntmps63
      go_wp2_with (go_at_call 84; refine (isNaNS_any _ _).mono ?_; rintro e w' ⟨rfl, rfl⟩)
      go_ret
      exact ⟨ret_int F.out.symm, rfl⟩
  · have F : Hid (cmpS a.toList b.toList = -1) := Lib.hid (by unfold cmpS; rw [h1]; rfl)
    go_enter Try.func63, Try.ntmps63
    go_wp2_with (go_at_call 84; refine (isNaNS_any _ _).mono ?_; rintro e w' ⟨rfl, rfl⟩)
    go_ret
    exact ⟨ret_int F.out.symm, rfl⟩
set_option maxHeartbeats 400000 in
theorem orInt_any (x y : Int) (b cap : Nat) (w : World) (h0 : w.cell? ⟨b, 0, none⟩ = some (.int .i64 x)) (h1 : w.cell? ⟨b, 1, none⟩ = some (.int .i64 y)) :
    Calls Try.prog 61 #[.slice (some ⟨b, 0, none⟩) 2 cap] w fun e w' => e = .returned (.int .i64 (orF x y)) ∧ w = w' := by
  go_enter Try.func61, Try.ntmps61
  go_wp2_with fail
  go_loop [8] (fun i => ∃ j : Nat, j ≤ 2 ∧ i = .int .i64 (j : Nat) ∧ Hid (0 < j → x = 0) ∧ Hid (1 < j → y = 0)) (fun i => 2 - (intOf i).toNat)
  case atStart => exact ⟨0, Nat.zero_le _, rfl, Lib.hid (by omega), Lib.hid (by omega)⟩
  case round =>
    obtain ⟨j, hj, rfl, hx, hy⟩ := hrel
    rcases (show j = 0 ∨ j = 1 ∨ j = 2 by omega) with h | h | h
    · subst h
      cases hq : (x == 0)
      · have hn : (x != 0) = true := by rw [bne, hq]; rfl
        have F : Hid (orF x y = x) := Lib.hid (by unfold orF; rw [hq]; rfl)
        go_wp2_with fail
        go_ret
        exact ⟨ret_int F.out.symm, rfl⟩
      · have hn : (x != 0) = false := by rw [bne, hq]; rfl
        have hx2 : Hid (x = 0) := Lib.hid (by simpa using hq)
        go_wp2_with fail
        go_round
        case rel => exact ⟨1, by omega, by go_num, Lib.hid (fun _ => hx2.out), Lib.hid (by omega)⟩
        case measure => simp [intOf]
    · subst h
      have hx2 : Hid (orF x y = y) := Lib.hid (by unfold orF; rw [hx.out (by omega)]; rfl)
      cases hq : (y == 0)
      · have hn : (y != 0) = true := by rw [bne, hq]; rfl
        go_wp2_with fail
        go_ret
        exact ⟨ret_int hx2.out.symm, rfl⟩
      · have hn : (y != 0) = false := by rw [bne, hq]; rfl
        have hy2 : Hid (y = 0) := Lib.hid (by simpa using hq)
        go_wp2_with fail
        go_round
        case rel => exact ⟨2, by omega, by go_num, Lib.hid (fun _ => hx.out (by omega)), Lib.hid (fun _ => hy2.out)⟩
        case measure => simp [intOf]
    · subst h
      have F : Hid ((orF x y) = 0) := Lib.hid (by unfold orF; rw [hx.out (by omega), hy.out (by omega)]; rfl)
      go_wp2_with fail
      go_ret
      exact ⟨ret_int F.out.symm, rfl⟩
set_option maxHeartbeats 400000 in
theorem compareWords_any (a b : ByteArray) (w : World) : Calls Try.prog 55 #[.string a, .string b] w fun e w' => e = .returned (.int .i64 (cfW a b)) ∧ ∃ o, w' = w.alloc o := by
  have H1 := Lib.hid (fun W => Try.cmp_Compare_int (a.size : Int) (b.size : Int) W)
  have H2 := Lib.hid (fun W => compareS_any a b W)
  have F : Hid (cfW a b = orF (Lib.compareInt (a.size : Int) (b.size : Int)) (cmpS a.toList b.toList)) := Lib.hid rfl
  generalize Lib.compareInt (a.size : Int) (b.size : Int) = x at *
  generalize cmpS a.toList b.toList = y at *
  have H3 : Hid (∀ W : World, Calls Try.prog 61 #[.slice (some ⟨W.heap.size, 0, none⟩) 2 2] (W.alloc (.cells #[.int .i64 x, .int .i64 y] 3)) fun e w' => e = .returned (.int .i64 (orF x y)) ∧ W.alloc (.cells #[.int .i64 x, .int .i64 y] 3) = w') := Lib.hid (fun W => orInt_any x y _ _ _ (by simp [World.cell?_alloc_new]) (by simp [World.cell?_alloc_new]))
  go_enter Try.func55, Try.ntmps55
  go_wp2_with (first | (go_at_call 62; refine (H1.out _).mono ?_; rintro e w' ⟨rfl, rfl⟩) | (go_at_call 63; refine (H2.out _).mono ?_; rintro e w' ⟨rfl, rfl⟩) | (go_at_call 61; refine (H3.out _).mono ?_; rintro e w' ⟨rfl, rfl⟩))
  go_ret
  exact ⟨ret_int F.out.symm, _, rfl⟩
end Go.Proofs.Ytmgdglghjlggnaa
namespace Go.Proofs.Ytmgdglghjlggnaa
open Go.RowKit Go.Sort Go.Lib
set_option linter.unusedVariables false
theorem owns_blockS {w : World} {base g cap n : Nat} {T : TypeId} {xs : List Value} (h : w.ownsRow base T 1 (.slice (some ⟨g, 0, none⟩) n cap) n xs) : ∃ cur, base ≤ g ∧ w.heap[g]? = some (.cells cur T (0, 0)) ∧ n ≤ cap ∧ cap ≤ maxLen ∧ cur.size = cap * 1 ∧ cur.toList.take n = xs := by
  rcases h.2 with ⟨hv, _⟩ | ⟨g', cap', cur, hv, hb, hg, hn, hc, hs, ht⟩
  · cases hv
  · simp only [Value.slice.injEq, Option.some.injEq, Addr.mk.injEq, and_true, true_and] at hv
    obtain ⟨rfl, rfl⟩ := hv
    exact ⟨cur, hb, hg, hn, hc, hs, by simpa using ht⟩
theorem owns_shrinkS {w : World} {base g cap n k : Nat} {T : TypeId} {xs : List Value} (h : w.ownsRow base T 1 (.slice (some ⟨g, 0, none⟩) n cap) n xs) (hk : k ≤ n) : w.ownsRow base T 1 (.slice (some ⟨g, 0, none⟩) k cap) k (xs.take k) := by
  have hl := h.1
  obtain ⟨cur, h1, h2, h3, h4, h5, h6⟩ := owns_blockS h
  refine ⟨by rw [List.length_take]; omega, .inr ⟨g, cap, cur, rfl, h1, h2, by omega, h4, h5, ?_⟩⟩
  rw [← h6, List.take_take]
  congr 1; omega
/-- compareWords over the bytes -/
def cfL (x y : List UInt8) : Int := cfW ⟨x.toArray⟩ ⟨y.toArray⟩
theorem ltOf_cfL (x y : List UInt8) : ltOf cfL x y = ltW x y := by
  have h1 : (ByteArray.mk x.toArray).size = x.length := by show x.toArray.size = _; simp
  have h2 : (ByteArray.mk y.toArray).size = y.length := by show y.toArray.size = _; simp
  unfold ltOf cfL cfW orF cmpS Lib.compareInt ltW
  rw [h1, h2, bytesLess_eq, Lib.toList_data, Lib.toList_data]
  by_cases a1 : x.length < y.length
  · simp [a1]
  · by_cases a2 : y.length < x.length
    · have a3 : ¬ x.length = y.length := by omega
      simp [a1, a2, a3]
    · have a3 : x.length = y.length := by omega
      by_cases a4 : x < y
      · simp [a3, a4]
      · by_cases a5 : x = y
        · subst a5
          simp [List.lt_irrefl]
        · simp [a3, a4, a5]
theorem ltOf_cfL' : ltOf cfL = ltW := by funext x y; exact ltOf_cfL x y
theorem cmpLaysW (blk off size : Nat) (w : World) : CmpLays1 Try.prog 55 #[] encStr cfL blk off size w := fun m os dk hs x y =>
  (compareWords_any ⟨x.toArray⟩ ⟨y.toArray⟩ _).mono fun e w' ⟨he, o, hw⟩ => ⟨he, 0, #[o], by rw [hw, alloc_eq_grow, World.drewN_zero]⟩
theorem strVals_enc (l : List ByteArray) : strVals l = (blsW l).map encStr := by
  unfold strVals blsW
  rw [List.map_map]; rfl
theorem enc_strVals (z : List (List UInt8)) : z.map encStr = strVals (z.map fun x => ⟨x.toArray⟩) := by
  unfold strVals
  rw [List.map_map]; rfl
theorem blsW_of (z : List (List UInt8)) : blsW (z.map fun x => ⟨x.toArray⟩) = z := by
  unfold blsW
  rw [List.map_map]
  exact List.map_id'' (fun x => by simp [blW]) z
theorem compact_le (z : List (List UInt8)) : (Lib.compact z).length ≤ z.length := by
  unfold Lib.compact Lib.compactUpTo
  rw [List.length_map]
  exact Nat.le_trans (List.length_filter_le _ _) (by simp)
theorem sortW_any (z : List (List UInt8)) (base g cap : Nat) (w : World) (h : w.ownsRow base 9 1 (.slice (some ⟨g, 0, none⟩) z.length cap) z.length (z.map encStr)) (hlen : z.length ≤ 2 ^ 40) :
    Calls Try.prog 54 #[.slice (some ⟨g, 0, none⟩) z.length cap, .func (.func 55) #[] #[]] w fun e w' => e = .returned (.tuple #[]) ∧ w'.ownsRow base 9 1 (.slice (some ⟨g, 0, none⟩) z.length cap) z.length ((z.mergeSort fun x y => !ltW y x).map encStr) ∧ w.grownBy w' (some g) := by
  obtain ⟨cur, h1, h2, h3, h4, h5, h6⟩ := owns_blockS h
  have hc := Try.slices_SortFunc_total encStr (fun x => rfl) cfL (by rw [ltOf_cfL']; exact ltW_swo) 55 #[] g 0 cap z.toArray w (enters_of Try.func55 (by kernel_rfl) rfl) (cmpLaysW _ _ _ _) (holds_of_block h2 h6) (Array.getElem?_eq_some_iff.1 h2).1 (by simp; omega) (by rw [ltOf_cfL']; exact fun x y => ltW_total)
  rw [ltOf_cfL', List.size_toArray] at hc
  refine hc.mono ?_
  rintro e w' ⟨rfl, n, os, rfl⟩
  exact ⟨rfl, ownsRow_sorted (by simp) h1 h2 h3 h4 h5, grownBy_sorted _⟩
theorem compactW_any (z : List (List UInt8)) (base g cap : Nat) (w : World) (h : w.ownsRow base 9 1 (.slice (some ⟨g, 0, none⟩) z.length cap) z.length (z.map encStr)) (hlen : z.length ≤ 2 ^ 40) :
    Calls Try.prog 56 #[.slice (some ⟨g, 0, none⟩) z.length cap] w fun e w' => e = .returned (.slice (some ⟨g, 0, none⟩) (Lib.compact z).length cap) ∧ w'.ownsRow base 9 1 (.slice (some ⟨g, 0, none⟩) (Lib.compact z).length cap) (Lib.compact z).length ((Lib.compact z).map encStr) ∧ w.grownBy w' (some g) := by
  obtain ⟨cur, h1, h2, h3, h4, h5, h6⟩ := owns_blockS h
  have hle := compact_le z
  refine (Try.slices_Compact_string g 0 cap z w (holds_of_block h2 h6) (by omega) h3).mono ?_
  rintro e w' ⟨rfl, q, rfl⟩
  have k1 := ownsRow_sorted (n := q) (os := #[]) (ss := z) (ts := Lib.compact z ++ List.replicate (z.length - (Lib.compact z).length) []) (by simp; omega) h1 h2 h3 h4 h5
  have k2 := grownBy_sorted (w := w) (g := g) (n := q) (os := #[]) (Lib.compact z ++ List.replicate (z.length - (Lib.compact z).length) []).toArray
  rw [grow_empty] at k1 k2
  refine ⟨rfl, ?_, k2⟩
  have k3 := owns_shrinkS k1 hle
  rw [List.map_append, List.take_left' (by simp)] at k3
  exact k3
set_option maxHeartbeats 800000 in
theorem ordered_any (l : List ByteArray) (a : Option Addr) (cap : Nat) (w : World) (hl : StrsIn w a l) (hlen : l.length ≤ 1000000) :
    Calls Try.prog 41 #[.slice a l.length cap] w (RetSet (fun u => u ∈ l) w) := by
  rcases Nat.eq_zero_or_pos l.length with h0 | h0
  · have hl0 : l = [] := List.eq_nil_of_length_eq_zero h0
    subst hl0
    have HC : Hid (∀ W, Calls Try.prog 53 #[.slice a 0 cap] W fun e W' => ∃ v', e = .returned v' ∧ W'.ownsRow W.heap.size 9 1 v' 0 [] ∧ Below W.heap.size W W') := Lib.hid (fun W => by
      cases a with
      | none => exact (Try.slices_Clone_string_nil 0 cap W).mono fun e W' ⟨h1, h2⟩ => ⟨_, h1, by rw [h2]; exact World.ownsRow_nil _ _ _ _, by rw [h2]; exact Below.refl _ _⟩
      | some ad => exact (Try.slices_Clone_string_zero ad cap W).mono fun e W' ⟨v', h1, h2, h3, h4⟩ => ⟨v', h1, h2, h4⟩)
    clear hl hlen h0
    show Calls Try.prog 41 #[.slice a 0 cap] w _
    go_enter Try.func41, Try.ntmps41
    go_wp2_with fail
    refine (HC.out _).mono ?_
    rintro e w1 ⟨v1, rfl, ho1, hb1⟩
    obtain ⟨a1, c1, rfl⟩ := owns_form ho1
    have F : Hid (RetSet (fun u => u ∈ ([] : List ByteArray)) w (.returned (.slice a1 0 c1)) w1) := Lib.hid ⟨[], SortedS.nil, fun u => Iff.rfl, a1, c1, rfl, ho1, hb1⟩
    clear ho1 hb1 HC
    go_wp2_with fail
    refine (Try.slices_SortFunc_none (α := Nat) a1 c1 _ _).mono ?_
    rintro e w2 ⟨rfl, rfl⟩
    go_wp2_with fail
    refine (Try.slices_Compact_string_empty a1 c1 _).mono ?_
    rintro e w3 ⟨rfl, rfl⟩
    go_wp2_with fail
    go_ret
    exact F.out
  · have HC : Hid (∀ W, Below w.heap.size w W → Calls Try.prog 53 #[.slice a l.length cap] W fun e W' => ∃ v', e = .returned v' ∧ W'.ownsRow W.heap.size 9 1 v' l.length (strVals l) ∧ v' ≠ .slice none 0 0 ∧ Below W.heap.size W W') := Lib.hid (fun W hW => by
      obtain ⟨b, off, rfl, _, hc⟩ := (hl.later hW).cell h0
      have := Try.slices_Clone_string b off l.length cap l W (Nat.le_refl _) (by omega) (fun j hj => by have := hc j hj; unfold nthS at this; exact this)
      rw [List.take_length] at this
      exact this)
    have hzl : (blsW l).length = l.length := blsW_len l
    have HZV := Lib.hid (strVals_enc l)
    have hml : ((blsW l).mergeSort fun x y => !ltW y x).length = l.length := by simp [blsW_len]
    have HML := Lib.hid hml
    have HOM : Hid (∀ u, u ∈ (ordW (blsW l)).map (fun x => (⟨x.toArray⟩ : ByteArray)) ↔ u ∈ l) := Lib.hid (fun u => by
      rw [← blsW_mem, blsW_of, ordW_mem, blsW_mem])
    have HOS : Hid (SortedS ((ordW (blsW l)).map (fun x => (⟨x.toArray⟩ : ByteArray)))) := Lib.hid (by unfold SortedS; rw [blsW_of]; exact ordW_sorted _)
    have HS2 := Lib.hid (fun base g c W h => sortW_any (blsW l) base g c W h (by rw [blsW_len]; omega))
    have HP2 := Lib.hid (fun base g c W h => compactW_any ((blsW l).mergeSort fun x y => !ltW y x) base g c W h (by rw [hml]; omega))
    rw [hzl] at HS2
    rw [hml] at HP2
    clear hl hzl hml
    have HF : Hid (∀ W (g c : Nat) , W.ownsRow w.heap.size 9 1 (.slice (some ⟨g, 0, none⟩) (ordW (blsW l)).length c) (ordW (blsW l)).length ((ordW (blsW l)).map encStr) → Below w.heap.size w W → RetSet (fun u => u ∈ l) w (.returned (.slice (some ⟨g, 0, none⟩) (ordW (blsW l)).length c)) W) := Lib.hid (fun W g c ho hb => by
      refine ⟨_, HOS.out, HOM.out, some ⟨g, 0, none⟩, c, ?_, ?_, hb⟩
      · rw [List.length_map]
      · rw [List.length_map, ← enc_strVals]; exact ho)
    have HU : Hid (Lib.compact ((blsW l).mergeSort fun x y => !ltW y x) = ordW (blsW l)) := Lib.hid rfl
    rw [HU.out] at HP2
    clear HU
    generalize ordW (blsW l) = oo at *
    generalize ((blsW l).mergeSort fun x y => !ltW y x) = mm at *
    generalize blsW l = zz at *
    go_enter Try.func41, Try.ntmps41
    go_wp2_with fail
    refine (HC.out _ (Below.refl _ _)).mono ?_
    rintro e w1 ⟨v1, rfl, ho1, hne, hb1⟩
    obtain ⟨g, cap1, rfl⟩ : ∃ g cap1, v1 = .slice (some ⟨g, 0, none⟩) l.length cap1 := owns_someS ho1 h0
    rw [HZV.out] at ho1
    have HO := Lib.hid ho1
    have HB := Lib.hid hb1
    clear ho1 hb1 hne HC
    go_wp2_with fail
    refine (HS2.out _ g cap1 _ HO.out).mono ?_
    rintro e w2 ⟨rfl, ho2, hg2⟩
    have HO2 := Lib.hid ho2
    have HB2 : Hid (Below w.heap.size w w2) := Lib.hid (HB.out.grown hg2 HB.out.size (fun k hk => (HO.out.lt k hk).1))
    clear ho2 hg2 HS2
    go_wp2_with fail
    refine (HP2.out _ g cap1 _ HO2.out).mono ?_
    rintro e w3 ⟨rfl, ho3, hg3⟩
    have HB3 : Hid (Below w.heap.size w w3) := Lib.hid (HB2.out.grown hg3 HB2.out.size (fun k hk => (HO2.out.lt k hk).1))
    have F := Lib.hid (HF.out _ _ _ ho3 HB3.out)
    clear ho3 hg3 HP2
    go_wp2_with fail
    go_ret
    exact F.out
end Go.Proofs.Ytmgdglghjlggnaa
namespace Go.Proofs.Ytmgdglghjlggnaa
open Go.RowKit
set_option linter.unusedVariables false
/-- no pair before (j, k) holds -/
def RelNo (l : List ByteArray) (Rb : ByteArray → ByteArray → Bool) (j k : Nat) : Prop := ∀ i' k', k' < l.length → (i' < j ∨ (i' = j ∧ k' < k)) → ¬ (nthS l i' ≠ nthS l k' ∧ Rb (nthS l i') (nthS l k') = true)
theorem RelNo.zero (l : List ByteArray) (Rb : ByteArray → ByteArray → Bool) : RelNo l Rb 0 0 := fun i' k' h1 h2 => by omega
theorem RelNo.next {l : List ByteArray} {Rb : ByteArray → ByteArray → Bool} {j k : Nat} (h : RelNo l Rb j k) (hn : ¬ (nthS l j ≠ nthS l k ∧ Rb (nthS l j) (nthS l k) = true)) : RelNo l Rb j (k + 1) := fun i' k' h1 h2 => by
  by_cases e : i' = j ∧ k' = k
  · rw [e.1, e.2]; exact hn
  · exact h i' k' h1 (by omega)
theorem RelNo.row {l : List ByteArray} {Rb : ByteArray → ByteArray → Bool} {j : Nat} (h : RelNo l Rb j l.length) : RelNo l Rb (j + 1) 0 := fun i' k' h1 h2 => h i' k' h1 (by omega)
def relP (l : List ByteArray) (Rb : ByteArray → ByteArray → Bool) : Prop := ∃ x ∈ l, ∃ y ∈ l, x ≠ y ∧ Rb x y = true
theorem RelNo.all {l : List ByteArray} {Rb : ByteArray → ByteArray → Bool} (h : RelNo l Rb l.length 0) : ¬ relP l Rb := by
  rintro ⟨x, hx, y, hy, h1⟩
  obtain ⟨i, hi, rfl⟩ := mem_nthS hx
  obtain ⟨k, hk, rfl⟩ := mem_nthS hy
  exact h i k hk (.inl hi) h1
set_option maxHeartbeats 1000000 in
theorem related_any (l : List ByteArray) (g : Nat) (Rb : ByteArray → ByteArray → Bool) (a : Option Addr) (cap : Nat) (w : World) (hl : StrsIn w a l) (hok : LOk l) (hf : ∀ x y W, x.size ≤ 6 → Calls Try.prog g #[.string x, .string y] W fun e W' => e = .returned (.bool (Rb x y)) ∧ W' = W) (eg : ∀ args w, (callFunc g args).run Try.prog w = .ok (.enter g args) w) :
    Calls Try.prog 25 #[.slice a l.length cap, .func (.func g) #[] #[]] w (RetP (relP l Rb) w) := by
  have HL := Lib.hid hl
  have HK := Lib.hid hok
  have HF := Lib.hid hf
  have hl8 := hok.hi
  clear hl hok hf
  go_enter Try.func25, Try.ntmps25
  go_wp2_with fail
  go_loop [11] (fun i => ∃ j : Nat, j ≤ l.length ∧ i = .int .i64 (j : Nat) ∧ Hid (RelNo l Rb j 0)) (fun i => l.length - (intOf i).toNat)
  case atStart => exact ⟨0, Nat.zero_le _, rfl, Lib.hid (RelNo.zero _ _)⟩
  case round =>
    obtain ⟨j, hj, rfl, hno⟩ := hrel
    by_cases hlt : j < l.length
    · obtain ⟨b, off, rfl, hb, hc⟩ := HL.out.cell hlt
      have c1 := hc j hlt
      have HC := Lib.hid hc
      have hx6 := HK.out.sz hlt
      clear hc
      go_wp2_with fail
      go_loop [17] (fun i => ∃ k : Nat, k ≤ l.length ∧ i = .int .i64 (k : Nat) ∧ Hid (RelNo l Rb j k)) (fun i => l.length - (intOf i).toNat)
      case atStart => exact ⟨0, Nat.zero_le _, rfl, hno⟩
      case round =>
        clear hno
        obtain ⟨k, hk, rfl, hno⟩ := hrel
        by_cases hlk : k < l.length
        · have c2 := HC.out k hlk
          have HNX : Hid (¬ (nthS l j ≠ nthS l k ∧ Rb (nthS l j) (nthS l k) = true) → RelNo l Rb j (k + 1)) := Lib.hid (fun h => hno.out.next h)
          have HYE : Hid (nthS l j ≠ nthS l k ∧ Rb (nthS l j) (nthS l k) = true → relP l Rb) := Lib.hid (fun h => ⟨_, nthS_mem hlt, _, nthS_mem hlk, h⟩)
          generalize nthS l j = x at *
          generalize nthS l k = y at *
          cases hq : (x.toList == y.toList)
          · have hn : (x.toList != y.toList) = true := by rw [bne, hq]; rfl
            have HNE : Hid (x ≠ y) := Lib.hid (fun h => by rw [bytes_eq.2 h] at hq; cases hq)
            have HFF := Lib.hid (fun W => HF.out x y W hx6)
            cases hr : Rb x y
            · have F := Lib.hid (HNX.out (fun h => by rw [h.2] at hr; cases hr))
              rw [hr] at HFF
              go_wp2_with fail
              refine (HFF.out _).mono ?_
              rintro e w' ⟨rfl, rfl⟩
              go_wp2_with fail
              go_round
              case rel => exact ⟨k + 1, by omega, by go_num, F⟩
              case measure => simp [intOf]; omega
            · have F := Lib.hid (HYE.out ⟨HNE.out, hr⟩)
              rw [hr] at HFF
              go_wp2_with fail
              refine (HFF.out _).mono ?_
              rintro e w' ⟨rfl, rfl⟩
              go_wp2_with fail
              go_ret
              exact RetP.yes F.out (Below.refl _ _)
          · have hn : (x.toList != y.toList) = false := by rw [bne, hq]; rfl
            have F := Lib.hid (HNX.out (fun h => h.1 (bytes_eq.1 hq)))
            go_wp2_with fail
            go_round
            case rel => exact ⟨k + 1, by omega, by go_num, F⟩
            case measure => simp [intOf]; omega
        · obtain rfl : k = l.length := by omega
          have F := Lib.hid hno.out.row
          go_wp2_with fail
          go_round
          case rel => exact ⟨j + 1, by omega, by go_num, F⟩
          case measure => simp [intOf]; omega
    · obtain rfl : j = l.length := by omega
      have F := Lib.hid hno.out.all
      go_wp2_with fail
      go_ret
      exact RetP.no F.out (Below.refl _ _)
theorem hasPre_iff (x y : ByteArray) : Lib.hasPrefix x.data.toList y.data.toList = true ↔ begP x y := by
  rw [begP_iff]; unfold Lib.hasPrefix; exact List.isPrefixOf_iff_prefix
theorem hasSuf_iff (x y : ByteArray) : Lib.hasSuffix x.data.toList y.data.toList = true ↔ endP x y := by
  rw [endP_iff]; unfold Lib.hasSuffix; exact List.isSuffixOf_iff_suffix
def preB (x y : ByteArray) : Bool := Lib.hasPrefix x.data.toList y.data.toList
def sufB (x y : ByteArray) : Bool := Lib.hasSuffix x.data.toList y.data.toList
theorem preB_rel {l : List ByteArray} (h : listP l) : prefP l ↔ ¬ relP l preB :=
  ⟨fun h1 ⟨x, hx, y, hy, hne, hb⟩ => h1.2 x hx y hy hne ((hasPre_iff x y).1 hb), fun h1 => ⟨h, fun x hx y hy hne hb => h1 ⟨x, hx, y, hy, hne, (hasPre_iff x y).2 hb⟩⟩⟩
theorem sufB_rel {l : List ByteArray} (h : listP l) : suffP l ↔ ¬ relP l sufB :=
  ⟨fun h1 ⟨x, hx, y, hy, hne, hb⟩ => h1.2 x hx y hy hne ((hasSuf_iff x y).1 hb), fun h1 => ⟨h, fun x hx y hy hne hb => h1 ⟨x, hx, y, hy, hne, (hasSuf_iff x y).2 hb⟩⟩⟩
set_option maxHeartbeats 400000 in
theorem implIsPrefixCode_any (l : List ByteArray) (a : Option Addr) (cap : Nat) (w : World) (hl : StrsIn w a l) (hlen : l.length ≤ 2 ^ 40) (hcap : l.length ≤ cap) (hsz : ∀ j, j < l.length → (nthS l j).size ≤ maxLen) :
    Calls Try.prog 8 #[.slice a l.length cap] w (RetP (prefP l) w) := by
  have HL := Lib.hid hl
  have HOK := Lib.hid (fun W h => implListOk_any l a cap W h hlen hcap hsz)
  clear hl hsz
  go_enter Try.func8, Try.ntmps8
  go_wp2_with fail
  refine (HOK.out _ HL.out).mono ?_
  rintro e w1 ⟨bb, hbb, rfl, hb1⟩
  have HBB := Lib.hid hbb
  have HB1 := Lib.hid hb1
  clear hbb hb1 HOK
  cases bb
  · have F : Hid (RetP (prefP l) w (.returned (.bool false)) w1) := Lib.hid (RetP.no (fun h => by have := HBB.out.2 h.1; cases this) HB1.out)
    go_wp2_with fail
    go_ret
    exact F.out
  · have HLP := Lib.hid (HBB.out.1 rfl)
    have HR := Lib.hid (fun W h => related_any l 26 preB a cap W h (LOk.of HLP.out) (fun x y W2 hx => Try.strings_HasPrefix x y W2) (enters_of Try.func26 (by kernel_rfl) rfl))
    go_wp2_with fail
    refine (HR.out _ (HL.out.later HB1.out)).mono ?_
    rintro e w2 ⟨b2, hb2, rfl, hb3⟩
    have F : Hid (RetP (prefP l) w (.returned (.bool !b2)) w2) := Lib.hid (by
      cases b2
      · exact RetP.yes ((preB_rel HLP.out).2 (fun h => by have := hb2.2 h; cases this)) (Below.now HB1.out hb3)
      · exact RetP.no (fun h => (preB_rel HLP.out).1 h (hb2.1 rfl)) (Below.now HB1.out hb3))
    clear hb2 hb3 HR
    go_wp2_with fail
    go_ret
    exact F.out
set_option maxHeartbeats 400000 in
theorem implIsSuffixCode_any (l : List ByteArray) (a : Option Addr) (cap : Nat) (w : World) (hl : StrsIn w a l) (hlen : l.length ≤ 2 ^ 40) (hcap : l.length ≤ cap) (hsz : ∀ j, j < l.length → (nthS l j).size ≤ maxLen) :
    Calls Try.prog 9 #[.slice a l.length cap] w (RetP (suffP l) w) := by
  have HL := Lib.hid hl
  have HOK := Lib.hid (fun W h => implListOk_any l a cap W h hlen hcap hsz)
  clear hl hsz
  go_enter Try.func9, Try.ntmps9
  go_wp2_with fail
  refine (HOK.out _ HL.out).mono ?_
  rintro e w1 ⟨bb, hbb, rfl, hb1⟩
  have HBB := Lib.hid hbb
  have HB1 := Lib.hid hb1
  clear hbb hb1 HOK
  cases bb
  · have F : Hid (RetP (suffP l) w (.returned (.bool false)) w1) := Lib.hid (RetP.no (fun h => by have := HBB.out.2 h.1; cases this) HB1.out)
    go_wp2_with fail
    go_ret
    exact F.out
  · have HLP := Lib.hid (HBB.out.1 rfl)
    have HR := Lib.hid (fun W h => related_any l 27 sufB a cap W h (LOk.of HLP.out) (fun x y W2 hx => Try.strings_HasSuffix x y W2 (by omega)) (enters_of Try.func27 (by kernel_rfl) rfl))
    go_wp2_with fail
    refine (HR.out _ (HL.out.later HB1.out)).mono ?_
    rintro e w2 ⟨b2, hb2, rfl, hb3⟩
    have F : Hid (RetP (suffP l) w (.returned (.bool !b2)) w2) := Lib.hid (by
      cases b2
      · exact RetP.yes ((sufB_rel HLP.out).2 (fun h => by have := hb2.2 h; cases this)) (Below.now HB1.out hb3)
      · exact RetP.no (fun h => (sufB_rel HLP.out).1 h (hb2.1 rfl)) (Below.now HB1.out hb3))
    clear hb2 hb3 HR
    go_wp2_with fail
    go_ret
    exact F.out
end Go.Proofs.Ytmgdglghjlggnaa
namespace Go.Proofs.Ytmgdglghjlggnaa
open Go.RowKit
set_option linter.unusedVariables false
/-- c readings -/
def RdN (l : List Bw) (w : Bw) (c : Nat) : Prop := ∃ X, RdL l w X ∧ X.length = c
/-- c readings that begin with one of the first i words -/
def RdNTo (l : List Bw) (w : Bw) (i c : Nat) : Prop := ∃ X, RdTo l w i X ∧ X.length = c
theorem RdN.uniq {l : List Bw} {w : Bw} {c d : Nat} (h : RdN l w c) (h' : RdN l w d) : c = d := by
  obtain ⟨X, hX, rfl⟩ := h
  obtain ⟨Y, hY, rfl⟩ := h'
  exact hX.len hY
theorem RdNTo.zero (l : List Bw) (w : Bw) : RdNTo l w 0 0 := ⟨[], RdTo.zero l w, rfl⟩
theorem RdNTo.skip {l : List Bw} {w : Bw} {i c : Nat} (h : RdNTo l w i c) (hn : ¬ l.getD i [] <+: w) : RdNTo l w (i + 1) c := by
  obtain ⟨X, hX, rfl⟩ := h
  exact ⟨X, hX.skip (fun r hr => hn ⟨r, hr.symm⟩), rfl⟩
theorem RdNTo.put {l : List Bw} {w : Bw} {i c d : Nat} (h : RdNTo l w i c) (hi : i < l.length) (hp : l.getD i [] <+: w) (hd : RdN l (w.drop (l.getD i []).length) d) : RdNTo l w (i + 1) (c + d) := by
  obtain ⟨X, hX, rfl⟩ := h
  obtain ⟨Y, hY, rfl⟩ := hd
  obtain ⟨r, rfl⟩ := hp
  rw [List.drop_left] at hY
  exact ⟨_, hX.put hi rfl hY, by simp⟩
theorem RdNTo.all {l : List Bw} {w : Bw} {c : Nat} (h : RdNTo l w l.length c) (hw : w ≠ []) : RdN l w c := by
  obtain ⟨X, hX, rfl⟩ := h
  exact ⟨X, hX.all hw, rfl⟩
theorem RdN.top {l : List Bw} (hne : ∀ v ∈ l, v ≠ []) (hl : l.length ≤ 8) {w : Bw} (hw : w.length ≤ 16) {c : Nat} (h : RdN l w c) : c ≤ 9 ^ 16 := by
  obtain ⟨X, hX, hXl⟩ := rd_ex hne w.length w (Nat.le_refl _)
  have e := h.uniq ⟨X, hX, rfl⟩
  rw [e]
  refine Nat.le_trans hXl (Nat.le_trans (Nat.pow_le_pow_left (by omega : l.length + 1 ≤ 9) _) (Nat.pow_le_pow_right (by decide) hw))
theorem RdNTo.top {l : List Bw} (hne : ∀ v ∈ l, v ≠ []) (hl : l.length ≤ 8) {w : Bw} (hw : w.length ≤ 16) {i c : Nat} (h : RdNTo l w i c) : c ≤ 9 ^ 16 := by
  obtain ⟨X, hX, rfl⟩ := h
  obtain ⟨Y, hY, hYl⟩ := rd_ex hne w.length w (Nat.le_refl _)
  have h1 := hY.most hX.1 (fun xs hx => ((hX.2 xs).1 hx).1)
  have h2 := RdN.top hne hl hw ⟨Y, hY, rfl⟩
  omega
def bw (s : ByteArray) : Bw := s.data.toList
theorem bw_len (s : ByteArray) : (bw s).length = s.size := rfl
theorem bw_drop (s : ByteArray) (q : Nat) : bw (s.extract q s.size) = (bw s).drop q := by
  unfold bw
  rw [ByteArray.data_extract, Array.toList_extract, List.extract_eq_take_drop, List.take_of_length_le (by rw [List.length_drop]; exact Nat.le_refl _)]
theorem bwL_get {l : List ByteArray} {i : Nat} (h : i < l.length) : (bwL l).getD i [] = bw (nthS l i) := by
  unfold bwL bw
  rw [List.getD_eq_getElem?_getD, List.getElem?_map, List.getElem?_eq_getElem h, nthS_lt h]
  rfl
/-- the table of readings: the places from q on are told -/
def RdRow (l : List ByteArray) (s : ByteArray) (cs : List Nat) (q : Nat) : Prop :=
  cs.length = s.size + 1 ∧ (∀ t, q ≤ t → t ≤ s.size → RdN (bwL l) ((bw s).drop t) (cs.getD t 0)) ∧ ∀ t, t < q → cs.getD t 0 = 0
/-- the place p is being told: i words are done -/
def RdIn (l : List ByteArray) (s : ByteArray) (cs : List Nat) (p i : Nat) : Prop :=
  cs.length = s.size + 1 ∧ (∀ t, p < t → t ≤ s.size → RdN (bwL l) ((bw s).drop t) (cs.getD t 0)) ∧ RdNTo (bwL l) ((bw s).drop p) i (cs.getD p 0) ∧ ∀ t, t < p → cs.getD t 0 = 0
theorem getD_setN {l : List Nat} {p x t : Nat} (hp : p < l.length) : (l.set p x).getD t 0 = if t = p then x else l.getD t 0 := by
  simp only [List.getD_eq_getElem?_getD, List.getElem?_set]
  by_cases e : t = p
  · subst e; simp [hp]
  · rw [if_neg (fun h => e h.symm), if_neg e]
theorem getD_rep (n t : Nat) : (List.replicate n 0).getD t 0 = 0 := by
  simp [List.getD_eq_getElem?_getD, List.getElem?_replicate]; split <;> rfl
theorem RdRow.start {l : List ByteArray} (hl : listP l) (s : ByteArray) : RdRow l s ((List.replicate (s.size + 1) 0).set s.size 1) s.size := by
  refine ⟨by simp, fun t h1 h2 => ?_, fun t ht => ?_⟩
  · obtain rfl : t = s.size := by omega
    rw [getD_setN (by simp), if_pos rfl, List.drop_of_length_le (by rw [bw_len]; exact Nat.le_refl _)]
    exact ⟨_, RdL.nil (bwL_ne hl), rfl⟩
  · rw [getD_setN (by simp), if_neg (by omega), getD_rep]
theorem RdRow.begin {l : List ByteArray} {s : ByteArray} {cs : List Nat} {p : Nat} (h : RdRow l s cs (p + 1)) : RdIn l s cs p 0 :=
  ⟨h.1, fun t h1 h2 => h.2.1 t h1 h2, by rw [h.2.2 p (by omega)]; exact RdNTo.zero _ _, fun t ht => h.2.2 t (by omega)⟩
theorem RdIn.done {l : List ByteArray} {s : ByteArray} {cs : List Nat} {p : Nat} (h : RdIn l s cs p l.length) (hp : p < s.size) : RdRow l s cs p := by
  refine ⟨h.1, fun t h1 h2 => ?_, h.2.2.2⟩
  by_cases e : t = p
  · subst e
    have h3 := h.2.2.1
    rw [show l.length = (bwL l).length by simp [bwL]] at h3
    exact h3.all (fun e => by
      have := congrArg List.length e
      rw [List.length_drop, bw_len] at this
      simp at this; omega)
  · exact h.2.1 t (by omega) h2
theorem RdIn.skip {l : List ByteArray} {s : ByteArray} {cs : List Nat} {p i : Nat} (h : RdIn l s cs p i) (hi : i < l.length) (hn : ¬ begP (s.extract p s.size) (nthS l i)) : RdIn l s cs p (i + 1) := by
  refine ⟨h.1, h.2.1, h.2.2.1.skip (fun hp => hn ?_), h.2.2.2⟩
  rw [bwL_get hi, ← bw_drop] at hp
  exact begP_iff.2 hp
theorem RdIn.put {l : List ByteArray} {s : ByteArray} {cs : List Nat} {p i : Nat} (h : RdIn l s cs p i) (hl : listP l) (hi : i < l.length) (hp : p < s.size) (hb : begP (s.extract p s.size) (nthS l i)) :
    p + (nthS l i).size ≤ s.size ∧ 1 ≤ (nthS l i).size ∧ RdIn l s (cs.set p (cs.getD p 0 + cs.getD (p + (nthS l i).size) 0)) p (i + 1) := by
  have hsz : (s.extract p s.size).size = s.size - p := by rw [ByteArray.size_extract]; omega
  have h1 := hb.1
  have h2 := (hl.2 i hi).2.1.1
  have hpr : (bwL l).getD i [] <+: (bw s).drop p := by
    rw [bwL_get hi, ← bw_drop]
    exact begP_iff.1 hb
  have hll : i < (bwL l).length := by simpa [bwL] using hi
  refine ⟨by omega, h2, by rw [List.length_set]; exact h.1, fun t h3 h4 => ?_, ?_, fun t ht => ?_⟩
  · rw [getD_setN (by rw [h.1]; omega), if_neg (by omega)]; exact h.2.1 t h3 h4
  · rw [getD_setN (by rw [h.1]; omega), if_pos rfl]
    refine h.2.2.1.put hll hpr ?_
    rw [bwL_get hi, List.drop_drop]
    have := h.2.1 (p + (nthS l i).size) (by omega) (by omega)
    exact this
  · rw [getD_setN (by rw [h.1]; omega), if_neg (by omega)]; exact h.2.2.2 t ht
theorem RdIn.top {l : List ByteArray} {s : ByteArray} {cs : List Nat} {p i : Nat} (h : RdIn l s cs p i) (hl : listP l) (hs : s.size ≤ 16) : cs.getD p 0 ≤ 9 ^ 16 :=
  h.2.2.1.top (bwL_ne hl) (by have := hl.1.2; simpa [bwL] using this) (by rw [List.length_drop, bw_len]; omega)
theorem RdRow.top {l : List ByteArray} {s : ByteArray} {cs : List Nat} {q : Nat} (h : RdRow l s cs q) (hl : listP l) (hs : s.size ≤ 16) {t : Nat} (h1 : q ≤ t) (h2 : t ≤ s.size) : cs.getD t 0 ≤ 9 ^ 16 :=
  (h.2.1 t h1 h2).top (bwL_ne hl) (by have := hl.1.2; simpa [bwL] using this) (by rw [List.length_drop, bw_len]; omega)
/-- the readings of all ends of a word -/
def RetRd (l : List ByteArray) (s : ByteArray) (w : World) (e : Ending) (w' : World) : Prop := ∃ g cs, RdRow l s cs 0 ∧ e = .returned (.slice (some ⟨g, 0, none⟩) (s.size + 1) (s.size + 1)) ∧ CtRow w' w.heap.size g (s.size + 1) cs ∧ Below w.heap.size w w'
set_option maxRecDepth 20000 in
set_option maxHeartbeats 2000000 in
theorem readings_any (l : List ByteArray) (a : Option Addr) (cap : Nat) (s : ByteArray) (w : World) (hL : StrsIn w a l) (hl : listP l) (hs : s.size ≤ 16) :
    Calls Try.prog 31 #[.slice a l.length cap, .string s] w (RetRd l s w) := by
  have hl8 := hl.1.2
  have HLP := Lib.hid hl
  have HL := Lib.hid hL
  have HS0 := Lib.hid (RdRow.start hl s)
  have HMK := Lib.hid (run_make_row' (P := Try.prog) 33 3 (.int .i64 0) 8 Try.underlying33 Try.infoInt rfl .i64 .i64 (s.size + 1) (by omega) (by omega))
  have HC1 := Lib.hid (CtRow.start w (m := s.size + 1) (by unfold maxLen; omega))
  have HB1 := Lib.hid (alloc_belowC w (.cells (madeCells #[.int .i64 0] (s.size + 1)) 3))
  clear hl hL
  obtain ⟨N, hN⟩ : ∃ N, s.size + 1 = N := ⟨_, rfl⟩
  have HNE := Lib.hid hN
  rw [hN] at HMK HC1 HB1 HS0
  have hN1 : ((s.size : Nat) : Int) + 1 = (N : Int) := by omega
  have hNw : IntKind.i64.wrap (N : Int) = (N : Int) := IntWalk.i64_in _ ⟨by omega, by omega⟩
  have hsN : (s.size : Int) < (N : Int) := by omega
  have hsN2 : s.size < N := by omega
  clear hN
  have hmk := HMK.out
  go_enter Try.func31, Try.ntmps31
  go_upto_region 2 with fail
  clear hmk HMK hN1 hNw
  obtain ⟨g, hg⟩ : ∃ g, w.heap.size = g := ⟨_, rfl⟩
  have HG := Lib.hid hg
  generalize w.alloc (.cells (madeCells #[.int .i64 0] N) 3) = w1 at *
  rw [hg] at HC1
  rw [hg]
  clear hg
  have c0 := HC1.out.cell (v := s.size) hsN2
  have f0 := HC1.out.frozen s.size
  have HC2 := Lib.hid (HC1.out.store s.size 1)
  have HB2 := Lib.hid (HB1.out.setCell (p := ⟨g, s.size, none⟩) (by rw [HG.out]; exact Nat.le_refl _) (.int .i64 (1 : Nat)))
  go_upto_region 3 with fail
  clear c0 f0
  generalize w1.setCell ⟨g, s.size, none⟩ (.int .i64 1) = w2 at *
  have hsub : ((s.size : Nat) : Int) - 1 = ((s.size : Nat) : Int) - 1 := rfl
  go_wp2_with fail
  go_loopw [6] (fun v wr => ∃ (q : Nat) (cs : List Nat), q ≤ s.size ∧ v = .int .i64 ((q : Int) - 1) ∧ Hid (RdRow l s cs q) ∧ Hid (CtRow wr g g N cs) ∧ Hid (Below w.heap.size w wr)) (fun v _ => (intOf v + 1).toNat)
  case atStart => exact ⟨s.size, _, Nat.le_refl _, rfl, HS0, HC2, HB2⟩
  case round =>
    clear HS0 HC2 HB2 HC1 HB1 hsub
    obtain ⟨q, cs, hq, rfl, HR, HC, HB⟩ := hrel
    cases q with
    | zero =>
      have hz : (((0 : Nat) : Int) - 1) = -1 := rfl
      rw [hz]
      have F : Hid (RetRd l s w (.returned (.slice (some ⟨g, 0, none⟩) N N)) wr) := Lib.hid ⟨g, cs, HR.out, by rw [HNE.out], by rw [HNE.out]; exact HC.out.mono (by rw [HG.out]; exact Nat.le_refl _), HB.out⟩
      go_wp2_with fail
      go_ret
      exact F.out
    | succ p =>
      have hpe : ((p + 1 : Nat) : Int) - 1 = (p : Int) := by omega
      rw [hpe]
      have hp0 : (0 : Int) ≤ (p : Int) := by omega
      have hps : p < s.size := by omega
      have HI0 := Lib.hid HR.out.begin
      generalize hW : wr = wr0 at *
      have HWE := Lib.hid hW
      clear hW
      go_wp2_with fail
      go_loopw [26] (fun v wr => ∃ (i : Nat) (cs : List Nat), i ≤ l.length ∧ v = .int .i64 (i : Nat) ∧ Hid (RdIn l s cs p i) ∧ Hid (CtRow wr g g N cs) ∧ Hid (Below w.heap.size w wr)) (fun v _ => l.length - (intOf v).toNat)
      case atStart => exact ⟨0, cs, Nat.zero_le _, rfl, HI0, HC, HB⟩
      case round =>
        clear HI0 HC HB HR
        obtain ⟨i, cs, hi, rfl, HI, HC, HB⟩ := hrel
        by_cases hlt : i < l.length
        · obtain ⟨b, off, rfl, _, hc⟩ := (HL.out.later HB.out).cell hlt
          have hci := hc i hlt
          have HHP := Lib.hid (fun W => Try.strings_HasPrefix (s.extract p s.size) (nthS l i) W)
          have HPI := Lib.hid (hasPre_iff (s.extract p s.size) (nthS l i))
          have HSK := Lib.hid (fun h => HI.out.skip hlt h)
          have HPU := Lib.hid (fun h => HI.out.put HLP.out hlt hps h)
          have htop := HI.out.top HLP.out hs
          have x3 : (p : Int) ≤ (s.size : Int) := by omega
          have x4 : p ≤ s.size := by omega
          clear hc
          generalize nthS l i = x at *
          cases hb : Lib.hasPrefix (s.extract p s.size).data.toList x.data.toList
          · have HS2 := Lib.hid (HSK.out (fun h => by have := HPI.out.2 h; rw [hb] at this; cases this))
            rw [hb] at HHP
            clear hb HPU HPI HSK
            go_wp2_with fail
            refine (HHP.out _).mono ?_
            rintro e w' ⟨rfl, hw'⟩
            subst hw'
            go_wp2_with fail
            go_roundw
            case rel => exact ⟨i + 1, cs, by omega, by go_num, HS2, HC, HB⟩
            case measure => simp [intOf]; omega
          · obtain ⟨hp2, hx1, hin⟩ := HPU.out (HPI.out.1 hb)
            have htop2 := hin.top HLP.out hs
            rw [getD_setN (by rw [HI.out.1]; omega), if_pos rfl] at htop2
            have HIN := Lib.hid hin
            rw [hb] at HHP
            clear hin hb HPU HPI HSK
            have cp := HC.out.cell (v := p) (by omega)
            have cx := HC.out.cell (v := p + x.size) (by omega)
            have fp := HC.out.frozen p
            obtain ⟨c, hcc⟩ : ∃ c, cs.getD p 0 = c := ⟨_, rfl⟩
            obtain ⟨d, hdd⟩ : ∃ d, cs.getD (p + x.size) 0 = d := ⟨_, rfl⟩
            obtain ⟨k, hk⟩ : ∃ k, c + d = k := ⟨_, rfl⟩
            obtain ⟨r, hr⟩ : ∃ r, p + x.size = r := ⟨_, rfl⟩
            rw [hcc, hdd, hk] at HIN htop2
            rw [hcc] at cp htop
            rw [hdd, hr] at cx
            have h916 : (9 : Nat) ^ 16 ≤ 2 ^ 60 := by decide
            have hsum : ((c : Nat) : Int) + ((d : Nat) : Int) = (k : Int) := by omega
            have hwr : IntKind.i64.wrap (k : Int) = (k : Int) := IntWalk.i64_in _ ⟨by omega, by omega⟩
            have hsum2 : ((p : Nat) : Int) + ((x.size : Nat) : Int) = (r : Int) := by omega
            have hwr2 : IntKind.i64.wrap (r : Int) = (r : Int) := IntWalk.i64_in _ ⟨by omega, by omega⟩
            have hrN : (r : Int) < (N : Int) := by omega
            have hrN2 : r < N := by omega
            have hpN : (p : Int) < (N : Int) := by omega
            have hpN2 : p < N := by omega
            have HC8 := Lib.hid (HC.out.store p k)
            have HB8 := Lib.hid (HB.out.setCell (p := ⟨g, p, none⟩) (by rw [HG.out]; exact Nat.le_refl _) (.int .i64 (k : Int)))
            clear hcc hdd hk hr htop htop2 h916
            go_wp2_with fail
            refine (HHP.out _).mono ?_
            rintro e w' ⟨rfl, hw'⟩
            subst hw'
            go_upto_region 10 with fail
            go_region
            go_wp2_with fail
            go_roundw
            case rel => exact ⟨i + 1, _, by omega, by go_num, HIN, HC8, Lib.hid (Below.drew HB8.out)⟩
            case measure => simp [intOf]; omega
        · obtain rfl : i = l.length := by omega
          have HD := Lib.hid (HI.out.done hps)
          go_wp2_with fail
          go_roundw
          case rel => exact ⟨p, cs, by omega, by go_num, HD, HC, HB⟩
          case measure => simp [intOf]
end Go.Proofs.Ytmgdglghjlggnaa
