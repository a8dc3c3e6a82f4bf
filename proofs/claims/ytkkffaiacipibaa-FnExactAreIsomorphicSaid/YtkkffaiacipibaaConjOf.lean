/-
  ConjugatesOf.
-/
import Derived.Test.YtkkffaiacipibaaGrpCj
import Derived.Test.YtkkffaiacipibaaSpecRows
namespace Go.Proofs.Ytkkffaiacipibaa
open Go.RowKit
set_option linter.unusedVariables false
/-- ConjugatesOf as a function of plain data -/
def conjF (n : Int) (l : List Int) (i : Int) : List Int := if invOk n l i = true then conjL n.toNat (l.map Int.toNat) i.toNat else []
theorem conjF_not {n : Int} {l : List Int} {i : Int} (h : invOk n l i = false) : conjF n l i = [] := by simp [conjF, h]
theorem conjF_yes {m k : Nat} {ln : List Nat} (h : invOk (m : Nat) (ln.map Int.ofNat) (k : Nat) = true) : conjF (m : Nat) (ln.map Int.ofNat) (k : Nat) = conjL m ln k := by
  unfold conjF; rw [if_pos h, map_toNat]; rfl
theorem conjF_len (n : Int) (l : List Int) (i : Int) : (conjF n l i).length ≤ 1000 := by
  cases h : invOk n l i
  · rw [conjF_not h]; simp
  · have hg : groupB n l = true := by simp only [invOk, Bool.and_eq_true] at h; exact h.1
    have hi : inB i 0 (n - 1) = true := by simp only [invOk, Bool.and_eq_true] at h; exact h.2
    obtain ⟨m, ln, rfl, rfl, hG⟩ := groupB_out hg
    obtain ⟨k, rfl, hk⟩ := inB_nat hi
    rw [conjF_yes h]
    have := listTo_len (isCj m ln k m) m
    have := hG.hi
    unfold conjL; omega
set_option maxHeartbeats 1000000 in
theorem implConjugatesOf_any (n : Int) (l : List Int) (a : Option Addr) (cap : Nat) (i : Int) (w : World) (hl : IntsIn w a l) (hlen : l.length ≤ 2 ^ 47) (hcap : l.length ≤ cap ∧ cap ≤ maxLen) :
    Calls Try.prog 41 #[.agg #[.int .i64 n, .slice a l.length cap], .int .i64 i] w (RetSl 3 1 (conjF n l i).length (intVals (conjF n l i)) w) := by
  have HI := Lib.hid hl
  have HC := Lib.hid hcap
  clear hl hcap
  cases hg : groupB n l
  · have F : Hid (∀ w', Below w.heap.size w w' → RetSl 3 1 (conjF n l i).length (intVals (conjF n l i)) w (.returned (.slice none 0 0)) w') := fun w' hb => by
      rw [conjF_not (invOk_not1 (i := i) hg)]; exact retSl_nil _ _ _ hb
    go_enter Try.func41, Try.ntmps41
    go_wp2_with fail
    refine (implIsGroup_any n l a cap _ (HI.out.later ((Below.refl _ _).alloc (Nat.le_refl _) _)) hlen).mono ?_
    rintro e w1 ⟨h2, hb1⟩
    rw [hg] at h2
    subst h2
    have hbel := Below.now ((Below.refl w.heap.size w).alloc (Nat.le_refl _) _) hb1
    clear hb1
    go_wp2_with fail
    go_ret
    exact F.out _ hbel
  obtain ⟨m, ln, rfl, hlm, hG⟩ := groupB_out hg
  have HG := Lib.hid hG
  have hm0 := hG.lo
  have hm1 := hG.hi
  have HLM := Lib.hid hlm
  have HLL : Hid (l.length = m * m) := by rw [hlm, List.length_map]; exact hG.len
  have HGB : Hid (groupB (m : Nat) l = true) := hg
  clear hG hlm
  cases hi : inB i 0 ((m : Nat) - 1)
  · have F : Hid (∀ w', Below w.heap.size w w' → RetSl 3 1 (conjF (m : Nat) l i).length (intVals (conjF (m : Nat) l i)) w (.returned (.slice none 0 0)) w') := fun w' hb => by
      rw [conjF_not (invOk_not2 (l := l) hi)]; exact retSl_nil _ _ _ hb
    go_enter Try.func41, Try.ntmps41
    go_wp2_with fail
    refine (implIsGroup_any _ l a cap _ (HI.out.later ((Below.refl _ _).alloc (Nat.le_refl _) _)) hlen).mono ?_
    rintro e w1 ⟨h2, hb1⟩
    rw [HGB.out] at h2
    subst h2
    have x0 := box_later hb1 (i := 0) (v := .int .i64 (m : Nat)) rfl _ (Below.refl _ _)
    have x1 := box_later hb1 (i := 1) (v := .slice a l.length cap) rfl _ (Below.refl _ _)
    have hbel := Below.now ((Below.refl w.heap.size w).alloc (Nat.le_refl _) _) hb1
    clear hb1
    go_wp2_with fail
    refine (has_any m _ _ _ hm0 hm1).mono ?_
    rintro e w2 ⟨h2, hb2⟩
    rw [hi] at h2
    subst h2
    replace hbel := Below.now hbel hb2
    clear hb2
    go_wp2_with fail
    go_ret
    exact F.out _ hbel
  · have F2 := Lib.hid (invOk_yes HGB.out hi)
    obtain ⟨k, rfl, hk⟩ := inB_nat hi
    have F : Hid (conjF (m : Nat) l (k : Nat) = conjL m ln k) := by have := F2.out; rw [HLM.out] at this ⊢; exact conjF_yes this
    go_enter Try.func41, Try.ntmps41
    go_wp2_with fail
    refine (implIsGroup_any _ l a cap _ (HI.out.later ((Below.refl _ _).alloc (Nat.le_refl _) _)) hlen).mono ?_
    rintro e w1 ⟨h2, hb1⟩
    rw [HGB.out] at h2
    subst h2
    have x0 := box_later hb1 (i := 0) (v := .int .i64 (m : Nat)) rfl _ (Below.refl _ _)
    have x1 := box_later hb1 (i := 1) (v := .slice a l.length cap) rfl _ (Below.refl _ _)
    have hbel := Below.now ((Below.refl w.heap.size w).alloc (Nat.le_refl _) _) hb1
    clear hb1
    go_wp2_with fail
    refine (has_any m _ _ _ hm0 hm1).mono ?_
    rintro e w2 ⟨h2, hb2⟩
    rw [hi] at h2
    subst h2
    replace x0 := (hb2.cell (World.block_lt_of_cell? _ _ x0)).trans x0
    replace x1 := (hb2.cell (World.block_lt_of_cell? _ _ x1)).trans x1
    replace hbel := Below.now hbel hb2
    clear hb2
    go_wp2_with fail
    refine (conjugates_any m ln a _ cap k _ (by unfold NatsIn; rw [← HLM.out]; exact HI.out.later hbel) HG.out HLL.out HC.out hk).mono ?_
    rintro e w5 ⟨a5, c5, rfl, ho5, hb5⟩
    have F5 : Hid (RetSl 3 1 (conjF (m : Nat) l (k : Nat)).length (intVals (conjF (m : Nat) l (k : Nat))) w (.returned (.slice a5 (conjL m ln k).length c5)) w5) := by
      rw [F.out]; exact ⟨_, _, rfl, owns_mono ho5 hbel.size, Below.now hbel hb5⟩
    clear hb5 ho5 x0 x1 hbel
    go_wp2_with fail
    go_ret
    exact F5.out
set_option maxRecDepth 100000 in
set_option maxHeartbeats 2000000 in
theorem specConjugatesOf_any (n : Int) (l : List Int) (a : Option Addr) (cap : Nat) (i : Int) (w : World) (hl : IntsIn w a l) (hlen : l.length ≤ 2 ^ 47) :
    Calls Try.prog 40 #[.agg #[.int .i64 n, .slice a l.length cap], .int .i64 i] w (RetSl 3 1 (conjF n l i).length (intVals (conjF n l i)) w) := by
  have HI := Lib.hid hl
  clear hl
  cases hg : groupB n l
  · have F : Hid (∀ w', Below w.heap.size w w' → RetSl 3 1 (conjF n l i).length (intVals (conjF n l i)) w (.returned (.slice none 0 0)) w') := fun w' hb => by
      rw [conjF_not (invOk_not1 (i := i) hg)]; exact retSl_nil _ _ _ hb
    go_enter Try.func40, Try.ntmps40
    go_wp2_with fail
    refine (specIsGroup_any n l a cap _ (HI.out.later ((Below.refl _ _).alloc (Nat.le_refl _) _)) hlen).mono ?_
    rintro e w1 ⟨h2, hb1⟩
    rw [hg] at h2
    subst h2
    have hbel := Below.now ((Below.refl w.heap.size w).alloc (Nat.le_refl _) _) hb1
    clear hb1
    go_wp2_with fail
    go_ret
    exact F.out _ hbel
  obtain ⟨m, ln, rfl, hlm, hG⟩ := groupB_out hg
  have HG := Lib.hid hG
  have hm0 := hG.lo
  have hm1 := hG.hi
  have HLM := Lib.hid hlm
  have HLL : Hid (l.length = m * m) := by rw [hlm, List.length_map]; exact hG.len
  have HGB : Hid (groupB (m : Nat) l = true) := hg
  clear hG hlm
  cases hi : inB i 0 ((m : Nat) - 1)
  · have F : Hid (∀ w', Below w.heap.size w w' → RetSl 3 1 (conjF (m : Nat) l i).length (intVals (conjF (m : Nat) l i)) w (.returned (.slice none 0 0)) w') := fun w' hb => by
      rw [conjF_not (invOk_not2 (l := l) hi)]; exact retSl_nil _ _ _ hb
    go_enter Try.func40, Try.ntmps40
    go_wp2_with fail
    refine (specIsGroup_any _ l a cap _ (HI.out.later ((Below.refl _ _).alloc (Nat.le_refl _) _)) hlen).mono ?_
    rintro e w1 ⟨h2, hb1⟩
    rw [HGB.out] at h2
    subst h2
    have x0 := box_later hb1 (i := 0) (v := .int .i64 (m : Nat)) rfl _ (Below.refl _ _)
    have x1 := box_later hb1 (i := 1) (v := .slice a l.length cap) rfl _ (Below.refl _ _)
    have hbel := Below.now ((Below.refl w.heap.size w).alloc (Nat.le_refl _) _) hb1
    clear hb1
    go_wp2_with fail
    refine (l01In_any _ _ _ _).mono ?_
    rintro e w2 ⟨h2, rfl⟩
    rw [hi] at h2
    subst h2
    go_wp2_with fail
    go_ret
    exact F.out _ hbel
  have F2 := Lib.hid (invOk_yes HGB.out hi)
  obtain ⟨k, rfl, hk⟩ := inB_nat hi
  have HF : Hid (conjF (m : Nat) l (k : Nat) = listTo (isCj m ln k m) m) := by have := F2.out; rw [HLM.out] at this ⊢; exact conjF_yes this
  go_enter Try.func40, Try.ntmps40
  go_wp2_with fail
  refine (specIsGroup_any _ l a cap _ (HI.out.later ((Below.refl _ _).alloc (Nat.le_refl _) _)) hlen).mono ?_
  rintro e w1 ⟨h2, hb1⟩
  rw [HGB.out] at h2
  subst h2
  have hx0 := box_later hb1 (i := 0) (v := .int .i64 (m : Nat)) rfl
  have hx1 := box_later hb1 (i := 1) (v := .slice a l.length cap) rfl
  have HN1 : Hid (∀ W, Below w1.heap.size w1 W → NatsIn W a ln) := fun W hW => by
    unfold NatsIn
    rw [← HLM.out]
    exact (HI.out.later (Below.now ((Below.refl _ _).alloc (Nat.le_refl _) _) hb1)).later hW
  have hbel := Lib.hid (Below.now ((Below.refl w.heap.size w).alloc (Nat.le_refl _) _) hb1)
  have hb0 := Below.refl w1.heap.size w1
  clear hb1 HI
  go_wp2_with fail
  refine (l01In_any _ _ _ _).mono ?_
  rintro e w2 ⟨h2, rfl⟩
  rw [hi] at h2
  subst h2
  have hmk := run_make_row' (P := Try.prog) 51 4 (.bool false) 1 Try.underlying51 Try.infoBool rfl .i64 .i64 m (by omega) (by omega)
  go_wp2_with fail
  clear hmk hi
  have hrow := BoolRow.start w1 4 (madeCells #[.bool false] m) m (made_bools m) (by unfold maxLen; omega)
  have hb2 : Below w1.heap.size w1 (w1.alloc (.cells (madeCells #[.bool false] m) 4)) := (Below.refl _ _).alloc (Nat.le_refl _) _
  generalize (w1.alloc (.cells (madeCells #[.bool false] m) 4)) = w2 at *
  obtain ⟨g, hg3⟩ : ∃ g, w1.heap.size = g := ⟨_, rfl⟩
  have hgB : w1.heap.size ≤ g := by omega
  have hg2 : BoolRow 4 w2 w1.heap.size g m fun _ => false := by rw [← hg3]; exact hrow
  have HG2 := Lib.hid (hg2.congr (f' := isCj m ln k 0) (fun j _ => (isCj_zero m ln k j).symm))
  rw [hg3]
  clear hrow hg3 hg2 hb0
  go_loopw [23] (fun i wr => ∃ c : Nat, c ≤ m ∧ i = .int .i64 c ∧ Below w1.heap.size w1 wr ∧ BoolRow 4 wr w1.heap.size g m (isCj m ln k c)) (fun i _ => m - (intOf i).toNat)
  case atStart => exact ⟨0, Nat.zero_le _, rfl, hb2, HG2.out⟩
  case round =>
    clear HG2 hb2
    obtain ⟨c, hcm, rfl, hbw, hrow⟩ := hrel
    by_cases hlt : c < m
    · have z0 := hx0 _ hbw
      have z1 := hx1 _ hbw
      have HR := Lib.hid hrow
      have hcj := HG.out.cj_lt hlt hk
      have HS := Lib.hid (isCj_succ m ln k c)
      clear hrow
      go_wp2_with fail
      refine (l10Turn_any m ln a _ _ c k _ (HN1.out _ hbw) HG.out HLL.out hlt hk).mono ?_
      rintro e w3 ⟨rfl, hb3⟩
      have hbw3 := Below.now hbw hb3
      have HR3 := Lib.hid (HR.out.later hb3)
      have hcell := HR3.out.cell hcj
      have hfr := HR3.out.frozen (cj m ln c k)
      have hb9 := hbw3.setCell hgB (p := ⟨g, cj m ln c k, none⟩) (.bool true)
      have HR9 := Lib.hid ((HR3.out.store (cj m ln c k) true).congr (f' := isCj m ln k (c + 1)) (fun j _ => (HS.out j).symm))
      clear hb3 hbw hbw3 z0 z1 HR HR3
      go_wp2_with fail
      go_roundw
      case rel => exact ⟨c + 1, by omega, by go_num, hb9, HR9.out⟩
      case measure => simp [intOf]; omega
    · obtain rfl : c = m := by omega
      have HR := Lib.hid hrow
      have HE := Lib.hid (Below.now hbel.out hbw)
      clear hrow
      go_wp2_with fail
      refine (l09List_any c g _ _ _ HR.out (by omega)).mono ?_
      rintro e w9 ⟨a9, c9, rfl, ho, hb9⟩
      have F : Hid (RetSl 3 1 (conjF (c : Nat) l (k : Nat)).length (intVals (conjF (c : Nat) l (k : Nat))) w (.returned (.slice a9 (listTo (isCj c ln k c) c).length c9)) w9) := by
        rw [HF.out]; exact ⟨_, _, rfl, owns_mono ho HE.out.size, Below.now HE.out hb9⟩
      clear ho hb9
      go_wp2_with fail
      go_ret
      exact F.out
end Go.Proofs.Ytkkffaiacipibaa
