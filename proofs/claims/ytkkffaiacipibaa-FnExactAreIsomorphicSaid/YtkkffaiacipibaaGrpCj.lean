/-
  Conjugates.
-/
import Derived.Test.YtkkffaiacipibaaSub
import Derived.Test.YtkkffaiacipibaaSort
import Derived.Test.YtkkffaiacipibaaGrpInv
namespace Go.Proofs.Ytkkffaiacipibaa
open Go.RowKit
set_option linter.unusedVariables false
set_option maxHeartbeats 1000000 in
theorem conjugate_any (m : Nat) (ln : List Nat) (a : Option Addr) (len cap x i : Nat) (w : World) (hl : NatsIn w a ln) (hG : Grp m ln) (hlen : len = m * m) (hcap : len ≤ cap ∧ cap ≤ maxLen) (hx : x < m) (hi : i < m) :
    Calls Try.prog 85 #[.agg #[.int .i64 m, .slice a len cap], .int .i64 x, .int .i64 i] w fun e w' => e = .returned (.int .i64 ((cj m ln x i : Nat) : Int)) ∧ Below w.heap.size w w' := by
  obtain ⟨k1, _, _, k4⟩ := hG.invN_spec hx
  have k2 := hG.tm_lt hx hi
  have HE : Hid (invF m ln x = ((invN m ln x : Nat) : Int)) := k4
  have HG := Lib.hid hG
  have HL := Lib.hid hlen
  have HC := Lib.hid hcap
  have HX : Hid (∀ y, NatsIn (wide (w.alloc (.cells #[.int .i64 m, .slice a len cap] 27)) y) a ln) := fun y => (hl.later ((Below.refl _ _).alloc (Nat.le_refl _) _)).later (below_wide _ _)
  have hy0 : ∀ y, (wide (w.alloc (.cells #[.int .i64 m, .slice a len cap] 27)) y).cell? ⟨w.heap.size, 0, none⟩ = some (.int .i64 m) := wide_cell (by simp)
  have hy1 : ∀ y, (wide (w.alloc (.cells #[.int .i64 m, .slice a len cap] 27)) y).cell? ⟨w.heap.size, 1, none⟩ = some (.slice a len cap) := wide_cell (by simp)
  clear hl hG hlen hcap k4
  go_enter Try.func85, Try.ntmps85
  go_wp2_with fail
  refine region_wide (by kernel_rfl) (by kernel_rfl) ?_
  repeat (quiet_step ((first
    | (go_at_call 72; refine (inverse_any m ln a _ _ x _ (HX.out _) HG.out HL.out HC.out.1 HC.out.2 hx).mono ?_; rintro e w2 ⟨h2, hb2⟩; rw [HE.out] at h2; subst h2; exact ⟨rfl, wide_next hb2⟩)
    | (go_at_call 60; refine (implTimes_any m ln a _ _ _ _ _ (HX.out _) HG.out.toTb HL.out (by assumption) (by assumption)).mono ?_; rintro e w2 ⟨rfl, hb2⟩; exact ⟨rfl, wide_next hb2⟩))))
  refine wpQuiet_nil ?_
  rintro w4 ⟨x4, rfl⟩
  clear hy0 hy1
  go_wp2_with fail
  go_ret
  exact ⟨rfl, Below.now ((Below.refl w.heap.size w).alloc (Nat.le_refl _) _) (below_wide _ _)⟩
set_option maxHeartbeats 1000000 in
theorem l10Turn_any (m : Nat) (ln : List Nat) (a : Option Addr) (len cap x i : Nat) (w : World) (hl : NatsIn w a ln) (hG : Grp m ln) (hlen : len = m * m) (hx : x < m) (hi : i < m) :
    Calls Try.prog 77 #[.agg #[.int .i64 m, .slice a len cap], .int .i64 x, .int .i64 i] w fun e w' => e = .returned (.int .i64 ((cj m ln x i : Nat) : Int)) ∧ Below w.heap.size w w' := by
  obtain ⟨k1, _, _, k4⟩ := hG.invN_spec hx
  have k2 := hG.tm_lt hx hi
  have HE : Hid (invF m ln x = ((invN m ln x : Nat) : Int)) := k4
  have HG := Lib.hid hG
  have HL := Lib.hid hlen
  have HX : Hid (∀ y, NatsIn (wide (w.alloc (.cells #[.int .i64 m, .slice a len cap] 27)) y) a ln) := fun y => (hl.later ((Below.refl _ _).alloc (Nat.le_refl _) _)).later (below_wide _ _)
  have hy0 : ∀ y, (wide (w.alloc (.cells #[.int .i64 m, .slice a len cap] 27)) y).cell? ⟨w.heap.size, 0, none⟩ = some (.int .i64 m) := wide_cell (by simp)
  have hy1 : ∀ y, (wide (w.alloc (.cells #[.int .i64 m, .slice a len cap] 27)) y).cell? ⟨w.heap.size, 1, none⟩ = some (.slice a len cap) := wide_cell (by simp)
  clear hl hG hlen k4
  go_enter Try.func77, Try.ntmps77
  go_wp2_with fail
  refine region_wide (by kernel_rfl) (by kernel_rfl) ?_
  repeat (quiet_step ((first
    | (go_at_call 62; refine (l08Inverse_any m ln a _ _ x _ (HX.out _) HG.out.toTb HL.out hx).mono ?_; rintro e w2 ⟨h2, hb2⟩; rw [HE.out] at h2; subst h2; exact ⟨rfl, wide_next hb2⟩)
    | (go_at_call 55; refine (specTimes_any m ln a _ _ _ _ _ (HX.out _) HG.out.toTb HL.out (by assumption) (by assumption)).mono ?_; rintro e w2 ⟨rfl, hb2⟩; exact ⟨rfl, wide_next hb2⟩))))
  refine wpQuiet_nil ?_
  rintro w4 ⟨x4, rfl⟩
  clear hy0 hy1
  go_wp2_with fail
  go_ret
  exact ⟨rfl, Below.now ((Below.refl w.heap.size w).alloc (Nat.le_refl _) _) (below_wide _ _)⟩
/-- the conjugates of an element by the first k -/
def cjs (m : Nat) (ln : List Nat) (i k : Nat) : List Int := (List.range k).map fun x => ((cj m ln x i : Nat) : Int)
theorem cjs_len (m : Nat) (ln : List Nat) (i k : Nat) : (cjs m ln i k).length = k := by simp [cjs]
theorem cjs_succ (m : Nat) (ln : List Nat) (i k : Nat) : cjs m ln i (k + 1) = cjs m ln i k ++ [((cj m ln k i : Nat) : Int)] := by simp [cjs, List.range_succ]
def isCj (m : Nat) (ln : List Nat) (i k j : Nat) : Bool := (cjs m ln i k).contains (j : Int)
theorem isCj_zero (m : Nat) (ln : List Nat) (i j : Nat) : isCj m ln i 0 j = false := by simp [isCj, cjs]
theorem isCj_succ (m : Nat) (ln : List Nat) (i k j : Nat) : isCj m ln i (k + 1) j = (if j = cj m ln k i then true else isCj m ln i k j) := by
  unfold isCj
  rw [cjs_succ]
  by_cases h : j = cj m ln k i
  · subst h; simp
  · have : ¬ (j : Int) = ((cj m ln k i : Nat) : Int) := by omega
    rw [if_neg h, Bool.eq_iff_iff]
    simp [this]
/-- the conjugates of an element, in ascending order -/
def conjL (m : Nat) (ln : List Nat) (i : Nat) : List Int := listTo (isCj m ln i m) m
theorem conj_coll {m : Nat} {ln : List Nat} (hG : Grp m ln) {i : Nat} (hi : i < m) : collL (cjs m ln i m) = conjL m ln i := by
  refine collL_eq (fun x hx => ?_) (fun j hj => by simp [isCj])
  unfold cjs at hx
  obtain ⟨y, hy, rfl⟩ := List.mem_map.1 hx
  exact ⟨_, rfl, hG.cj_lt (List.mem_range.1 hy) hi⟩
set_option maxHeartbeats 1000000 in
theorem conjugates_any (m : Nat) (ln : List Nat) (a : Option Addr) (len cap i : Nat) (w : World) (hl : NatsIn w a ln) (hG : Grp m ln) (hlen : len = m * m) (hcap : len ≤ cap ∧ cap ≤ maxLen) (hi : i < m) :
    Calls Try.prog 78 #[.agg #[.int .i64 m, .slice a len cap], .int .i64 i] w (RetSl 3 1 (conjL m ln i).length (intVals (conjL m ln i)) w) := by
  have hm := hG.hi
  have hm0 := hG.lo
  have HG := Lib.hid hG
  have HL := Lib.hid hlen
  have HC := Lib.hid hcap
  have HN := Lib.hid hl
  clear hl hG hlen hcap
  go_enter Try.func78, Try.ntmps78
  go_wp2_with fail
  obtain ⟨w1, hw1⟩ : ∃ w1, w1 = w.alloc (.cells #[.int .i64 (m : Nat), .slice a len cap] 27) := ⟨_, rfl⟩
  have hb1 : Below w.heap.size w w1 := by rw [hw1]; exact (Below.refl _ _).alloc (Nat.le_refl _) _
  have hx0 : ∀ W, Below w1.heap.size w1 W → W.cell? ⟨w.heap.size, 0, none⟩ = some (.int .i64 (m : Nat)) := fun W hW => by rw [hW.cell (by rw [hw1]; simp), hw1]; simp
  have hx1 : ∀ W, Below w1.heap.size w1 W → W.cell? ⟨w.heap.size, 1, none⟩ = some (.slice a len cap) := fun W hW => by rw [hW.cell (by rw [hw1]; simp), hw1]; simp
  have HN1 : Hid (∀ W, Below w1.heap.size w1 W → NatsIn W a ln) := fun W hW => (HN.out.later hb1).later hW
  rw [← hw1]
  have HB := Lib.hid hb1
  have hb0 := Below.refl w1.heap.size w1
  clear hw1 hb1 HN
  go_loopw [5, 9] (fun v i' wr => ∃ k : Nat, k ≤ m ∧ i' = .int .i64 k ∧ Bld 3 1 w1 wr v (cjs m ln i k).length (intVals (cjs m ln i k))) (fun _ i' _ => m - (intOf i').toNat)
  case atStart => exact ⟨0, Nat.zero_le _, rfl, Bld.nil _ _ hb0⟩
  case round =>
    clear hb0
    obtain ⟨k, hk, rfl, hb⟩ := hrel
    have hbw := hb.2
    have HO := Lib.hid hb
    have HK := Lib.hid (cjs_len m ln i k)
    clear hb
    by_cases hlt : k < m
    · go_wp2_with fail
      refine (conjugate_any m ln a _ _ k i _ (HN1.out _ hbw) HG.out HL.out HC.out hlt hi).mono ?_
      rintro e w2 ⟨rfl, hb2⟩
      have HO2 := Lib.hid (HO.out.later hb2)
      clear hb2 HO hbw
      go_wp2_with (at_builtin; refine wpList_app1 rfl _ _ rfl Try.underlying22 Try.infoInt rfl (by decide) rfl HO2.out rfl rfl ?c1 ?c2 ?c3 ?c4)
      case c1 => simp [Value.oneCell']
      case c2 => rw [HK.out]; unfold maxLen; omega
      case c3 => rw [HK.out]; omega
      intro v3 w3 hb3
      have F3 : Hid (Bld 3 1 w1 w3 v3 (cjs m ln i (k + 1)).length (intVals (cjs m ln i (k + 1)))) := by
        rw [cjs_succ, List.length_append]; unfold intVals at *; rw [List.map_append]; exact hb3
      clear hb3
      go_wp2_with fail
      go_roundw
      case rel => exact ⟨k + 1, by omega, by go_num, F3.out⟩
      case measure => simp [intOf]; omega
    · obtain rfl : k = m := by omega
      obtain ⟨oa, oc, rfl⟩ := owns_form HO.out.1
      have HI := Lib.hid (owns_ints (l := cjs k ln i k) HO.out.1)
      have F := Lib.hid (conj_coll HG.out hi)
      clear hbw
      go_wp2_with fail
      refine (collected_any (cjs k ln i k) _ _ _ HI.out (by rw [HK.out]; omega) (by rw [HK.out]; omega)).mono ?_
      rintro e w2 ⟨a2, c2, rfl, ho2, hb2⟩
      have F2 : Hid (RetSl 3 1 (conjL k ln i).length (intVals (conjL k ln i)) w (.returned (.slice a2 (collL (cjs k ln i k)).length c2)) w2) := by
        rw [F.out] at ho2 ⊢
        exact ⟨_, _, rfl, owns_mono ho2 (Nat.le_trans HB.out.size HO.out.2.size), Below.now HB.out (Below.now HO.out.2 hb2)⟩
      clear ho2 hb2
      go_wp2_with fail
      go_ret
      exact F2.out
end Go.Proofs.Ytkkffaiacipibaa
