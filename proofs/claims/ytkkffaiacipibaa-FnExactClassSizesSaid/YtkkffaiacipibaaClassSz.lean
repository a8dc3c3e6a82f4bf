/-
  ClassSizes.
-/
import Derived.Test.YtkkffaiacipibaaCommut
namespace Go.Proofs.Ytkkffaiacipibaa
open Go.RowKit
set_option linter.unusedVariables false
/-- the place where a number is put in -/
def insK (v : Int) (l : List Int) : Nat := (l.takeWhile fun x => decide (x ≤ v)).length
def insL (v : Int) (l : List Int) : List Int := l.take (insK v l) ++ [v] ++ l.drop (insK v l)
theorem take_insK (v : Int) (l : List Int) : l.take (insK v l) = l.takeWhile fun x => decide (x ≤ v) := by
  have h := List.takeWhile_append_dropWhile (p := fun x => decide (x ≤ v)) (l := l)
  unfold insK
  conv => lhs; arg 2; rw [← h]
  rw [List.take_left']; rfl
theorem drop_insK (v : Int) (l : List Int) : l.drop (insK v l) = l.dropWhile fun x => decide (x ≤ v) := by
  have h := List.takeWhile_append_dropWhile (p := fun x => decide (x ≤ v)) (l := l)
  unfold insK
  conv => lhs; arg 2; rw [← h]
  rw [List.drop_left']; rfl
theorem dropWhile_gt (v : Int) : ∀ l : List Int, l.Pairwise (· ≤ ·) → ∀ x ∈ l.dropWhile (fun x => decide (x ≤ v)), v < x
  | [], _, x, hx => by simp at hx
  | a :: l, h, x, hx => by
    rw [List.pairwise_cons] at h
    rw [List.dropWhile_cons] at hx
    by_cases ha : a ≤ v
    · rw [if_pos (by simpa using ha)] at hx
      exact dropWhile_gt v l h.2 x hx
    · rw [if_neg (by simpa using ha)] at hx
      rcases List.mem_cons.1 hx with rfl | hx
      · omega
      · have := h.1 x hx; omega
theorem takeWhile_le (v : Int) : ∀ l : List Int, ∀ x ∈ l.takeWhile (fun x => decide (x ≤ v)), x ≤ v
  | [], x, hx => by simp at hx
  | a :: l, x, hx => by
    rw [List.takeWhile_cons] at hx
    by_cases ha : a ≤ v
    · rw [if_pos (by simpa using ha)] at hx
      rcases List.mem_cons.1 hx with rfl | hx
      · exact ha
      · exact takeWhile_le v l x hx
    · rw [if_neg (by simpa using ha)] at hx; simp at hx
theorem insL_sorted {v : Int} {l : List Int} (h : l.Pairwise (· ≤ ·)) : (insL v l).Pairwise (· ≤ ·) := by
  unfold insL
  have h1 := take_insK v l
  have h2 := drop_insK v l
  rw [List.append_assoc, List.pairwise_append]
  refine ⟨h.sublist (List.take_sublist _ _), ?_, fun x hx y hy => ?_⟩
  · rw [List.singleton_append, List.pairwise_cons]
    refine ⟨fun y hy => ?_, h.sublist (List.drop_sublist _ _)⟩
    rw [h2] at hy
    have := dropWhile_gt v l h y hy
    omega
  · rw [h1] at hx
    have hx' := takeWhile_le v l x hx
    rcases List.mem_append.1 hy with hy | hy
    · rw [List.mem_singleton.1 hy]; exact hx'
    · rw [h2] at hy
      have := dropWhile_gt v l h y hy
      omega
theorem insL_sort (v : Int) (l : List Int) : insL v (sortL l) = sortL (l ++ [v]) := by
  refine List.Perm.eq_of_pairwise (le := (· ≤ ·)) (fun a b _ _ h1 h2 => Int.le_antisymm h1 h2) (insL_sorted (sortL_le l)) (sortL_le _) ?_
  have p1 : (insL v (sortL l)).Perm (v :: sortL l) := by
    unfold insL
    rw [List.append_assoc, List.singleton_append]
    refine List.perm_middle.trans ?_
    rw [List.take_append_drop]
  have p2 : (sortL l).Perm l := List.mergeSort_perm _ _
  have p3 : (sortL (l ++ [v])).Perm (l ++ [v]) := List.mergeSort_perm _ _
  refine p1.trans (((p2.cons v).trans ?_).trans p3.symm)
  exact (List.perm_append_singleton v l).symm
theorem insK_le (v : Int) (l : List Int) : insK v l ≤ l.length := by unfold insK; exact (List.takeWhile_sublist _).length_le
/-- the first k are at most v -/
def leTo (v : Int) (l : List Int) (k : Nat) : Prop := ∀ i, i < k → nthZ l i ≤ v
theorem insK_at {v : Int} : ∀ {l : List Int} {k : Nat}, k ≤ l.length → leTo v l k → (¬ k < l.length ∨ v < nthZ l k) → k = insK v l
  | [], k, hk, _, _ => by simp at hk; subst hk; rfl
  | a :: l, 0, _, _, h => by
    rcases h with h | h
    · simp at h
    · simp [nthZ] at h
      unfold insK
      rw [List.takeWhile_cons, if_neg (by simp; omega)]; rfl
  | a :: l, k + 1, hk, hl, h => by
    have ha : a ≤ v := by have := hl 0 (by omega); simpa [nthZ] using this
    have ih := insK_at (v := v) (l := l) (k := k) (by simpa using hk) (fun i hi => by have := hl (i + 1) (by omega); simpa [nthZ] using this) (by simpa [nthZ] using h)
    unfold insK at ih ⊢
    rw [List.takeWhile_cons, if_pos (by simpa using ha), List.length_cons, ← ih]
theorem listTo_first {f : Nat → Bool} {m : Nat} (hm : 1 ≤ m) (h : f 0 = true) : nthZ (listTo f m) 0 = 0 ∧ 0 < (listTo f m).length := by
  obtain ⟨k, rfl⟩ : ∃ k, m = k + 1 := ⟨m - 1, by omega⟩
  unfold listTo nthZ
  rw [List.range_succ_eq_map, List.filter_cons, if_pos h]
  simp
theorem Grp.cj_zero {m : Nat} {ln : List Nat} (h : Grp m ln) {i : Nat} (hi : i < m) : cj m ln 0 i = i := by
  obtain ⟨k1, k2, _, _⟩ := h.invN_spec h.lo
  rw [h.left _ k1] at k2
  unfold cj
  rw [k2, h.left _ hi, h.right _ hi]
theorem Grp.zero_cj {m : Nat} {ln : List Nat} (h : Grp m ln) {x : Nat} (hx : x < m) : cj m ln x 0 = 0 := by
  unfold cj
  rw [h.right _ hx]
  exact (h.invN_spec hx).2.1
theorem isCj_self {m : Nat} {ln : List Nat} (h : Grp m ln) {i : Nat} (hi : i < m) : isCj m ln i m i = true := by
  unfold isCj
  rw [List.contains_iff_mem]
  unfold cjs
  exact List.mem_map.2 ⟨0, List.mem_range.2 h.lo, by rw [h.cj_zero hi]⟩
theorem conjL_pos {m : Nat} {ln : List Nat} (h : Grp m ln) {i : Nat} (hi : i < m) : 0 < (conjL m ln i).length := by
  refine List.length_pos_of_mem (a := ((i : Nat) : Int)) ?_
  unfold conjL
  exact (listTo_mem _ _ _).2 ⟨i, rfl, hi, isCj_self h hi⟩
theorem conjL_le (m : Nat) (ln : List Nat) (i : Nat) : (conjL m ln i).length ≤ m := listTo_len _ _
/-- an element is the first of its class -/
def isFst (m : Nat) (ln : List Nat) (i : Nat) : Bool := nthZ (conjL m ln i) 0 == ((i : Nat) : Int)
/-- the sizes of the classes whose first elements are below i -/
def szL (m : Nat) (ln : List Nat) (i : Nat) : List Int := ((List.range i).filter (isFst m ln)).map fun i => (((conjL m ln i).length : Nat) : Int)
theorem szL_yes {m : Nat} {ln : List Nat} {i : Nat} (h : isFst m ln i = true) : szL m ln (i + 1) = szL m ln i ++ [(((conjL m ln i).length : Nat) : Int)] := by
  simp [szL, List.range_succ, h]
theorem szL_no {m : Nat} {ln : List Nat} {i : Nat} (h : isFst m ln i = false) : szL m ln (i + 1) = szL m ln i := by
  simp [szL, List.range_succ, h]
theorem sortL_nil : sortL [] = [] := by simp [sortL]
theorem szL_zero (m : Nat) (ln : List Nat) : szL m ln 0 = [] := rfl
theorem szL_len (m : Nat) (ln : List Nat) (i : Nat) : (szL m ln i).length ≤ i := by
  unfold szL
  rw [List.length_map]
  exact Nat.le_trans (List.length_filter_le _ _) (by simp)
theorem szL_pos {m : Nat} {ln : List Nat} (h : Grp m ln) : 0 < (szL m ln m).length := by
  have h0 : isFst m ln 0 = true := by
    unfold isFst conjL
    rw [(listTo_first h.lo (isCj_self h h.lo)).1]; rfl
  unfold szL
  rw [List.length_map]
  exact List.length_pos_of_mem (List.mem_filter.2 ⟨List.mem_range.2 h.lo, h0⟩)
/-- ClassSizes as a function of plain data -/
def clsF (n : Int) (l : List Int) : List Int := if groupB n l = true then sortL (szL n.toNat (l.map Int.toNat) n.toNat) else []
theorem clsF_not {n : Int} {l : List Int} (h : groupB n l = false) : clsF n l = [] := by simp [clsF, h]
theorem clsF_yes {m : Nat} {ln : List Nat} (h : groupB (m : Nat) (ln.map Int.ofNat) = true) : clsF (m : Nat) (ln.map Int.ofNat) = sortL (szL m ln m) := by
  unfold clsF; rw [if_pos h, map_toNat']; rfl
theorem clsF_len (n : Int) (l : List Int) : (clsF n l).length ≤ 1000 := by
  cases h : groupB n l
  · rw [clsF_not h]; simp
  · obtain ⟨m, ln, rfl, rfl, hG⟩ := groupB_out h
    rw [clsF_yes h, sortL_len]
    have := szL_len m ln m
    have := hG.hi
    omega
set_option maxRecDepth 100000 in
set_option maxHeartbeats 4000000 in
theorem implClassSizes_any (n : Int) (l : List Int) (a : Option Addr) (cap : Nat) (w : World) (hl : IntsIn w a l) (hlen : l.length ≤ 2 ^ 47) (hcap : l.length ≤ cap ∧ cap ≤ maxLen) :
    Calls Try.prog 48 #[.agg #[.int .i64 n, .slice a l.length cap]] w (RetSl 3 1 (clsF n l).length (intVals (clsF n l)) w) := by
  have HI := Lib.hid hl
  clear hl
  cases hg : groupB n l
  · have F : Hid (∀ w', Below w.heap.size w w' → RetSl 3 1 (clsF n l).length (intVals (clsF n l)) w (.returned (.slice none 0 0)) w') := fun w' hb => by
      rw [clsF_not hg]; exact retSl_nil _ _ _ hb
    go_enter Try.func48, Try.ntmps48
    go_wp2_with fail
    refine (implIsGroup_any n l a cap _ (HI.out.later ((Below.refl _ _).alloc (Nat.le_refl _) _)) hlen).mono ?_
    rintro e w1 ⟨h2, hb1⟩
    rw [hg] at h2
    subst h2
    have hbel := Below.now ((Below.refl w.heap.size w).alloc (Nat.le_refl _) _) hb1
    clear hb1
    go_wp2_with fail
    go_ret
    exact F.out _ hbel
  obtain ⟨m, ln, rfl, hlm, hG⟩ := groupB_out hg
  have FF : Hid (clsF (m : Nat) l = sortL (szL m ln m)) := by rw [hlm] at hg ⊢; exact clsF_yes hg
  have HG := Lib.hid hG
  have hm0 := hG.lo
  have hm1 := hG.hi
  have HLM := Lib.hid hlm
  have HLL : Hid (l.length = m * m) := Lib.hid (by rw [hlm, List.length_map]; exact hG.len)
  have HGB : Hid (groupB (m : Nat) l = true) := hg
  have HCF : Hid (∀ c : Nat, c < m → conjF (m : Nat) l (c : Nat) = conjL m ln c) := Lib.hid (fun c hc => by
    have h1 := invOk_yes hg (show inB ((c : Nat) : Int) 0 (((m : Nat) : Int) - 1) = true by simp [inB]; omega)
    rw [hlm] at h1 ⊢
    exact conjF_yes h1)
  clear hG hlm hg
  have HCP := Lib.hid hcap
  clear hcap
  go_enter Try.func48, Try.ntmps48
  go_wp2_with fail
  refine (implIsGroup_any _ l a cap _ (HI.out.later ((Below.refl _ _).alloc (Nat.le_refl _) _)) hlen).mono ?_
  rintro e w1 ⟨h2, hb1⟩
  rw [HGB.out] at h2
  subst h2
  have x0 := box_later hb1 (i := 0) (v := .int .i64 (m : Nat)) rfl
  have x1 := box_later hb1 (i := 1) (v := .slice a l.length cap) rfl
  have v0 := x0 _ (Below.refl _ _)
  have hbel := Lib.hid (Below.now ((Below.refl w.heap.size w).alloc (Nat.le_refl _) _) hb1)
  have HN1 : Hid (∀ W, Below w1.heap.size w1 W → NatsIn W a ln) := fun W hW => by unfold NatsIn; rw [← HLM.out]; exact HI.out.later (Below.now hbel.out hW)
  have hb0 := Below.refl w1.heap.size w1
  clear hb1
  go_wp2_with fail
  have HS := Lib.hid (Bld.nil 3 1 hb0)
  clear v0 hb0
  have X0 := Lib.hid x0
  have X1 := Lib.hid x1
  clear x0 x1
  go_loopw [3, 11] (fun v i wr => ∃ c : Nat, c ≤ m ∧ i = .int .i64 c ∧ Bld 3 1 w1 wr v (szL m ln c).length (intVals (szL m ln c))) (fun _ i _ => m - (intOf i).toNat)
  case atStart => exact ⟨0, Nat.zero_le _, rfl, HS.out⟩
  case round =>
    clear HS
    obtain ⟨c, hcm, rfl, hb⟩ := hrel
    have hsl := szL_len m ln c
    have HB := Lib.hid hb
    have r0 := X0.out _ hb.2
    have r1 := X1.out _ hb.2
    clear hb
    by_cases hlt : c < m
    · have HC := Lib.hid (conjugates_any m ln a l.length cap c wr (HN1.out _ HB.out.2) HG.out HLL.out HCP.out hlt)
      have hcp := conjL_pos HG.out hlt
      have hcl := conjL_le m ln c
      have HY := Lib.hid (@szL_yes m ln c)
      have HNo := Lib.hid (@szL_no m ln c)
      have HF : Hid (isFst m ln c = (nthZ (conjL m ln c) 0 == ((c : Nat) : Int))) := Lib.hid rfl
      generalize conjL m ln c = k at *
      go_wp2_with fail
      refine HC.out.mono ?_
      rintro e w2 ⟨a2, c2, rfl, ho2, hb2⟩
      obtain ⟨g2, c2', hv⟩ := owns_some ho2 hcp
      simp only [Value.slice.injEq] at hv
      obtain ⟨rfl, _, rfl⟩ := hv
      have hc0 : w2.cell? ⟨g2, 0, none⟩ = some (.int .i64 (nthZ k 0)) := by
        rw [World.ownsRow.cellAt ho2 0 (by omega), nthZ_lt hcp]
        simp [intVals, hcp]
      have HB2 := Lib.hid (HB.out.later hb2)
      clear ho2 hb2 HC HB r0 r1
      cases hf : (nthZ k 0 == ((c : Nat) : Int))
      · have F := Lib.hid (HNo.out (HF.out.trans hf))
        go_wp2_with fail
        go_roundw
        case rel => exact ⟨c + 1, by omega, by go_num, by rw [F.out]; exact HB2.out⟩
        case measure => simp [intOf]; omega
      · have F := Lib.hid (HY.out (HF.out.trans hf))
        go_wp2_with (at_builtin; refine wpList_app1 rfl _ _ rfl Try.underlying22 Try.infoInt rfl (by decide) rfl HB2.out rfl rfl ?c1 ?c2 ?c3 ?c4)
        case c1 => simp [Value.oneCell']
        case c2 => unfold maxLen; omega
        case c3 => omega
        intro v3 w3 hb3
        have F3 : Hid (Bld 3 1 w1 w3 v3 (szL m ln (c + 1)).length (intVals (szL m ln (c + 1)))) := by
          rw [F.out, List.length_append]; unfold intVals at *; rw [List.map_append]; exact hb3
        clear hb3
        go_wp2_with fail
        go_roundw
        case rel => exact ⟨c + 1, by omega, by go_num, F3.out⟩
        case measure => simp [intOf]; omega
    · obtain rfl : c = m := by omega
      have hps := szL_pos HG.out
      obtain ⟨g, oc, rfl⟩ := owns_some HB.out.1 hps
      have HS := Lib.hid (sortOwn_any (szL c ln c) _ g oc wr HB.out.1 (by omega))
      go_wp2_with fail
      refine HS.out.mono ?_
      rintro e w2 ⟨rfl, ho2, hg2⟩
      have F2 : Hid (RetSl 3 1 (clsF (c : Nat) l).length (intVals (clsF (c : Nat) l)) w (.returned (.slice (some ⟨g, 0, none⟩) (szL c ln c).length oc)) w2) := by
        rw [FF.out, sortL_len]
        have hb2 : Below w1.heap.size w1 w2 := below_of_grown HB.out.2 hg2 (fun k hk => by obtain rfl := Option.some.inj hk; exact (HB.out.1.lt g rfl).1)
        exact ⟨_, _, rfl, owns_mono ho2 hbel.out.size, Below.now hbel.out hb2⟩
      clear ho2 hg2 r0 r1 HS HB
      go_wp2_with fail
      go_ret
      exact F2.out
set_option maxRecDepth 100000 in
set_option maxHeartbeats 4000000 in
theorem specClassSizes_any (n : Int) (l : List Int) (a : Option Addr) (cap : Nat) (w : World) (hl : IntsIn w a l) (hlen : l.length ≤ 2 ^ 47) :
    Calls Try.prog 47 #[.agg #[.int .i64 n, .slice a l.length cap]] w (RetSl 3 1 (clsF n l).length (intVals (clsF n l)) w) := by
  have HI := Lib.hid hl
  clear hl
  cases hg : groupB n l
  · have F : Hid (∀ w', Below w.heap.size w w' → RetSl 3 1 (clsF n l).length (intVals (clsF n l)) w (.returned (.slice none 0 0)) w') := fun w' hb => by
      rw [clsF_not hg]; exact retSl_nil _ _ _ hb
    go_enter Try.func47, Try.ntmps47
    go_wp2_with fail
    refine (specIsGroup_any n l a cap _ (HI.out.later ((Below.refl _ _).alloc (Nat.le_refl _) _)) hlen).mono ?_
    rintro e w1 ⟨h2, hb1⟩
    rw [hg] at h2
    subst h2
    have hbel := Below.now ((Below.refl w.heap.size w).alloc (Nat.le_refl _) _) hb1
    clear hb1
    go_wp2_with fail
    go_ret
    exact F.out _ hbel
  obtain ⟨m, ln, rfl, hlm, hG⟩ := groupB_out hg
  have FF : Hid (clsF (m : Nat) l = sortL (szL m ln m)) := by rw [hlm] at hg ⊢; exact clsF_yes hg
  have HG := Lib.hid hG
  have hm0 := hG.lo
  have hm1 := hG.hi
  have HLM := Lib.hid hlm
  have HLL : Hid (l.length = m * m) := Lib.hid (by rw [hlm, List.length_map]; exact hG.len)
  have HGB : Hid (groupB (m : Nat) l = true) := hg
  have HCF : Hid (∀ c : Nat, c < m → conjF (m : Nat) l (c : Nat) = conjL m ln c) := Lib.hid (fun c hc => by
    have h1 := invOk_yes hg (show inB ((c : Nat) : Int) 0 (((m : Nat) : Int) - 1) = true by simp [inB]; omega)
    rw [hlm] at h1 ⊢
    exact conjF_yes h1)
  clear hG hlm hg
  go_enter Try.func47, Try.ntmps47
  go_wp2_with fail
  refine (specIsGroup_any _ l a cap _ (HI.out.later ((Below.refl _ _).alloc (Nat.le_refl _) _)) hlen).mono ?_
  rintro e w1 ⟨h2, hb1⟩
  rw [HGB.out] at h2
  subst h2
  have x0 := box_later hb1 (i := 0) (v := .int .i64 (m : Nat)) rfl
  have x1 := box_later hb1 (i := 1) (v := .slice a l.length cap) rfl
  have v0 := x0 _ (Below.refl _ _)
  have hbel := Lib.hid (Below.now ((Below.refl w.heap.size w).alloc (Nat.le_refl _) _) hb1)
  have HN1 : Hid (∀ W, Below w1.heap.size w1 W → NatsIn W a ln) := fun W hW => by unfold NatsIn; rw [← HLM.out]; exact HI.out.later (Below.now hbel.out hW)
  have hb0 := Below.refl w1.heap.size w1
  clear hb1
  go_wp2_with fail
  have HS : Hid (Bld 3 1 w1 (w1.alloc (.cells #[] 3)) (.slice (some ⟨w1.heap.size, 0, none⟩) 0 0) (sortL (szL m ln 0)).length (intVals (sortL (szL m ln 0)))) := Lib.hid (by rw [szL_zero, sortL_nil]; exact Bld.empty 3 1 w1)
  clear v0 hb0
  have X0 := Lib.hid x0
  have X1 := Lib.hid x1
  clear x0 x1
  go_loopw [3, 4] (fun v i wr => ∃ c g oc : Nat, c ≤ m ∧ i = .int .i64 c ∧ v = .slice (some ⟨g, 0, none⟩) (sortL (szL m ln c)).length oc ∧ Bld 3 1 w1 wr v (sortL (szL m ln c)).length (intVals (sortL (szL m ln c)))) (fun _ i _ => m - (intOf i).toNat)
  case atStart => exact ⟨0, w1.heap.size, 0, Nat.zero_le _, rfl, by rw [szL_zero, sortL_nil]; rfl, HS.out⟩
  case round =>
    clear HS
    obtain ⟨c, g, oc, hcm, rfl, rfl, hb⟩ := hrel
    have hsl : (sortL (szL m ln c)).length ≤ c := by rw [sortL_len]; exact szL_len m ln c
    have HB := Lib.hid hb
    have r0 := X0.out _ hb.2
    have r1 := X1.out _ hb.2
    clear hb
    by_cases hlt : c < m
    · have hC := specConjugatesOf_any (m : Nat) l a cap (c : Nat) wr (by unfold IntsIn; exact HI.out.later (Below.now hbel.out HB.out.2)) hlen
      rw [HCF.out c hlt] at hC
      have HC := Lib.hid hC
      have hcp := conjL_pos HG.out hlt
      have hcl := conjL_le m ln c
      have HY : Hid (isFst m ln c = true → sortL (szL m ln (c + 1)) = insL (((conjL m ln c).length : Nat) : Int) (sortL (szL m ln c))) := Lib.hid (fun h => by rw [szL_yes h, insL_sort])
      have HNo : Hid (isFst m ln c = false → sortL (szL m ln (c + 1)) = sortL (szL m ln c)) := Lib.hid (fun h => by rw [szL_no h])
      have HF : Hid (isFst m ln c = (nthZ (conjL m ln c) 0 == ((c : Nat) : Int))) := Lib.hid rfl
      clear hC
      generalize conjL m ln c = k at *
      generalize sortL (szL m ln c) = q at *
      go_wp2_with fail
      refine HC.out.mono ?_
      rintro e w2 ⟨a2, c2, rfl, ho2, hb2⟩
      obtain ⟨g2, c2', hv⟩ := owns_some ho2 hcp
      simp only [Value.slice.injEq] at hv
      obtain ⟨rfl, _, rfl⟩ := hv
      have hc0 : w2.cell? ⟨g2, 0, none⟩ = some (.int .i64 (nthZ k 0)) := by
        rw [World.ownsRow.cellAt ho2 0 (by omega), nthZ_lt hcp]
        simp [intVals, hcp]
      have HB2 := Lib.hid (HB.out.later hb2)
      have s0 := X0.out _ HB2.out.2
      have s1 := X1.out _ HB2.out.2
      clear ho2 hb2 HC HB r0 r1
      cases hf : (nthZ k 0 == ((c : Nat) : Int))
      · have F := Lib.hid (HNo.out (HF.out.trans hf))
        have hf2 : (nthZ k 0 != ((c : Nat) : Int)) = true := by unfold bne; rw [hf]; rfl
        clear hf
        go_wp2_with fail
        go_roundw
        case rel => exact ⟨c + 1, g, oc, by omega, by go_num, by rw [F.out], by rw [F.out]; exact HB2.out⟩
        case measure => simp [intOf]; omega
      · have F := Lib.hid (HY.out (HF.out.trans hf))
        have hf2 : (nthZ k 0 != ((c : Nat) : Int)) = false := by unfold bne; rw [hf]; rfl
        clear hf
        go_wp2_with fail
        go_loop [6] (fun i => ∃ j : Nat, j ≤ q.length ∧ i = .int .i64 j ∧ leTo ((k.length : Nat) : Int) q j) (fun i => q.length - (intOf i).toNat)
        case atStart => exact ⟨0, Nat.zero_le _, rfl, fun i hi => absurd hi (Nat.not_lt_zero _)⟩
        case round =>
          obtain ⟨j, hj, rfl, hle⟩ := hrel
          have HLE := Lib.hid hle
          clear hle
          by_cases hgo : j < q.length ∧ nthZ q j ≤ ((k.length : Nat) : Int)
          · obtain ⟨hlj, hv⟩ := hgo
            have hcj : w2.cell? ⟨g, j, none⟩ = some (.int .i64 (nthZ q j)) := by
              rw [World.ownsRow.cellAt HB2.out.1 j (by omega), nthZ_lt hlj]
              simp [intVals, hlj]
            have F2 : Hid (leTo ((k.length : Nat) : Int) q (j + 1)) := Lib.hid (fun i hi => by
              by_cases e : i = j
              · rw [e]; exact hv
              · exact HLE.out i (by omega))
            go_wp2_with fail
            go_round
            case rel => exact ⟨j + 1, by omega, by go_num, F2.out⟩
            case measure => simp [intOf]; omega
          · have hjk : j = insK ((k.length : Nat) : Int) q := insK_at hj HLE.out (by
              by_cases h : j < q.length
              · right
                by_cases h2 : nthZ q j ≤ ((k.length : Nat) : Int)
                · exact absurd ⟨h, h2⟩ hgo
                · omega
              · exact .inl h)
            have HJ := Lib.hid hjk
            have hcap := owns_cap HB2.out.1
            have hj1 : j ≤ oc := by omega
            have hj2 : (0 : Int) ≤ (j : Int) := by omega
            have hj3 : (j : Int) ≤ (oc : Int) := by omega
            have hj4 : (j : Int) ≤ (q.length : Int) := by omega
            have hcap2 := hcap.1
            have hin : CellsIn w2 (some ⟨g, 0, none⟩) (intVals q) := owns_cells HB2.out.1
            have hql : (intVals q).length = q.length := by simp [intVals]
            have hcs : ∀ W, Below w2.heap.size w2 W → ∀ i (h : i < q.length), W.cell? ⟨g, i, none⟩ = some (.int .i64 q[i]) := fun W hW i hi => by
              rw [hW.cell (World.block_lt_of_cell? w2 ⟨g, i, none⟩ (u := .int .i64 q[i]) (by rw [World.ownsRow.cellAt HB2.out.1 i (by omega)]; simp [intVals, hi])), World.ownsRow.cellAt HB2.out.1 i (by omega)]
              simp [intVals, hi]
            have S1 : Hid (∀ W, Below w2.heap.size w2 W → Src W (.slice (some ⟨g, 0, none⟩) j oc) j ((intVals q).take j)) := Lib.hid (fun W hW => .inr ⟨_, _, rfl, fun i u hu => by
              have hi : i < j := by
                have := (List.getElem?_eq_some_iff.1 hu).1
                rw [List.length_take] at this; omega
              rw [add_off, Nat.zero_add, hcs W hW i (by omega)]
              rw [List.getElem?_take_of_lt hi] at hu
              rw [← hu]; simp [intVals, show i < q.length by omega]⟩)
            have S2 : Hid (∀ W, Below w2.heap.size w2 W → Src W (.slice (some ⟨g, j, none⟩) (q.length - j) (oc - j)) (q.length - j) ((intVals q).drop j)) := Lib.hid (fun W hW => .inr ⟨_, _, rfl, fun i u hu => by
              have hi : i < q.length - j := by
                have := (List.getElem?_eq_some_iff.1 hu).1
                rw [List.length_drop, hql] at this; omega
              rw [add_off, hcs W hW (j + i) (by omega)]
              rw [List.getElem?_drop] at hu
              rw [← hu]; simp [intVals, show j + i < q.length by omega]⟩)
            have S3 : Hid (oc = j → ∀ W, Src W (.slice (some ⟨g, 0, none⟩) (q.length - j) (oc - j)) (q.length - j) ((intVals q).drop j)) := Lib.hid (fun h W => .inr ⟨_, _, rfl, fun i u hu => by
              have := (List.getElem?_eq_some_iff.1 hu).1
              rw [List.length_drop, hql] at this; omega⟩)
            have hA1 : ((intVals q).take j).length = j * 1 := by rw [List.length_take, hql]; omega
            have hA2 : ((intVals q).drop j).length = (q.length - j) * 1 := by rw [List.length_drop, hql]; omega
            have hone1 : ∀ u ∈ (intVals q).take j, u.oneCell' = true := fun u hu => by
              obtain ⟨x, _, rfl⟩ := List.mem_map.1 (List.mem_of_mem_take hu); rfl
            have hone2 : ∀ u ∈ (intVals q).drop j, u.oneCell' = true := fun u hu => by
              obtain ⟨x, _, rfl⟩ := List.mem_map.1 (List.mem_of_mem_drop hu); rfl
            have HA1 := Lib.hid hA1
            have HA2 := Lib.hid hA2
            have HO1 := Lib.hid hone1
            have HO2 := Lib.hid hone2
            have HE := Lib.hid (Bld.empty 3 1 w2)
            have HX : Hid ([] ++ (intVals q).take j ++ [Value.int .i64 ((k.length : Nat) : Int)] ++ (intVals q).drop j = intVals (insL ((k.length : Nat) : Int) q)) := Lib.hid (by
              unfold insL intVals
              rw [← hjk, List.map_append, List.map_append, List.map_take, List.map_drop, List.nil_append]; rfl)
            have HLn : Hid (0 + j + 1 + (q.length - j) = (insL ((k.length : Nat) : Int) q).length) := Lib.hid (by
              unfold insL
              rw [← hjk]; simp; omega)
            clear hjk hin hql hcs hA1 hA2 hone1 hone2 hcap HLE
            by_cases hlj : j < q.length
            · have hcj : w2.cell? ⟨g, j, none⟩ = some (.int .i64 (nthZ q j)) := by
                rw [World.ownsRow.cellAt HB2.out.1 j (by omega), nthZ_lt hlj]
                simp [intVals, hlj]
              have hv : ¬ nthZ q j ≤ ((k.length : Nat) : Int) := fun h => hgo ⟨hlj, h⟩
              have hoj : ¬ oc = j := by omega
              clear hgo
              go_wp2_with (at_builtin; refine wpList_appM rfl (.tmp 41) (.tmp 44) rfl Try.underlying22 Try.infoInt rfl (by decide) rfl HE.out rfl (S1.out _ HE.out.2) HA1.out HO1.out ?a21 ?a31 ?a41)
              case a21 => unfold maxLen; omega
              case a31 => omega
              intro v4 w4 hb4 hg4 ho4
              have H4 := Lib.hid hb4
              clear hb4 hg4 ho4
              go_wp2_with (at_builtin; refine wpList_app1 rfl _ _ rfl Try.underlying22 Try.infoInt rfl (by decide) rfl H4.out rfl rfl ?b11 ?b21 ?b31 ?b41)
              case b11 => simp [Value.oneCell']
              case b21 => unfold maxLen; omega
              case b31 => omega
              intro v5 w5 hb5
              have HZ := Lib.hid hb5
              clear hb5
              go_wp2_with (at_builtin; refine wpList_appM rfl (.tmp 51) (.tmp 54) rfl Try.underlying22 Try.infoInt rfl (by decide) rfl HZ.out rfl (S2.out _ HZ.out.2) HA2.out HO2.out ?d21 ?d31 ?d41)
              case d21 => unfold maxLen; omega
              case d31 => omega
              intro v6 w6 hb6 hg6 ho6
              have F6 : Hid (Bld 3 1 w1 w6 v6 (insL ((k.length : Nat) : Int) q).length (intVals (insL ((k.length : Nat) : Int) q))) := by
                have h7 : Bld 3 1 w2 w6 v6 (0 + j + 1 + (q.length - j)) ([] ++ (intVals q).take j ++ [Value.int .i64 ((k.length : Nat) : Int)] ++ (intVals q).drop j) := by simpa using hb6
                rw [HX.out, HLn.out] at h7
                exact Lib.hid (h7.since HB2.out.2)
              obtain ⟨g6, c6, rfl⟩ : ∃ g6 c6, v6 = .slice (some ⟨g6, 0, none⟩) (insL ((k.length : Nat) : Int) q).length c6 := owns_some F6.out.1 (by rw [← HLn.out]; omega)
              clear hb6 hg6 ho6
              go_wp2_with fail
              go_roundw
              case rel => exact ⟨c + 1, g6, c6, by omega, by go_num, by rw [F.out], by rw [F.out]; exact F6.out⟩
              case measure => simp [intOf]; omega
            · clear hgo
              have hjq : j = q.length := by omega
              have HXe : Hid ([] ++ (intVals q).take j ++ [Value.int .i64 ((k.length : Nat) : Int)] ++ [] = intVals (insL ((k.length : Nat) : Int) q)) := Lib.hid (by
                rw [← HX.out, List.drop_of_length_le (by rw [show (intVals q).length = q.length by simp [intVals]]; omega)])
              have HLne : Hid (0 + j + 1 + 0 = (insL ((k.length : Nat) : Int) q).length) := Lib.hid (by rw [← HLn.out]; omega)
              have HA2e : Hid (([] : List Value).length = 0 * 1) := Lib.hid rfl
              have HO2e : Hid (∀ u ∈ ([] : List Value), u.oneCell' = true) := Lib.hid (fun u hu => by simp at hu)
              have S4 : Hid (∀ (W : World) (ad : Addr) (c : Nat), Src W (.slice (some ad) 0 c) 0 []) := Lib.hid (fun W ad c => .inr ⟨_, _, rfl, fun i u hu => by simp at hu⟩)
              clear HX HLn HA2 HO2 S2 S3
              subst hjq
              by_cases hoj : oc = q.length
              · subst hoj
                go_wp2_with (at_builtin; refine wpList_appM rfl (.tmp 41) (.tmp 44) rfl Try.underlying22 Try.infoInt rfl (by decide) rfl HE.out rfl (S1.out _ HE.out.2) HA1.out HO1.out ?a22 ?a32 ?a42)
                case a22 => unfold maxLen; omega
                case a32 => omega
                intro v4 w4 hb4 hg4 ho4
                have H4 := Lib.hid hb4
                clear hb4 hg4 ho4
                go_wp2_with (at_builtin; refine wpList_app1 rfl _ _ rfl Try.underlying22 Try.infoInt rfl (by decide) rfl H4.out rfl rfl ?b12 ?b22 ?b32 ?b42)
                case b12 => simp [Value.oneCell']
                case b22 => unfold maxLen; omega
                case b32 => omega
                intro v5 w5 hb5
                have HZ := Lib.hid hb5
                clear hb5
                go_wp2_with (at_builtin; refine wpList_appM rfl (.tmp 51) (.tmp 54) rfl Try.underlying22 Try.infoInt rfl (by decide) rfl HZ.out rfl (S4.out _ _ _) HA2e.out HO2e.out ?d22 ?d32 ?d42)
                case d22 => unfold maxLen; omega
                case d32 => omega
                intro v6 w6 hb6 hg6 ho6
                have F6 : Hid (Bld 3 1 w1 w6 v6 (insL ((k.length : Nat) : Int) q).length (intVals (insL ((k.length : Nat) : Int) q))) := by
                  have h7 : Bld 3 1 w2 w6 v6 (0 + q.length + 1 + 0) ([] ++ (intVals q).take q.length ++ [Value.int .i64 ((k.length : Nat) : Int)] ++ []) := by simpa using hb6
                  rw [HXe.out, HLne.out] at h7
                  exact Lib.hid (h7.since HB2.out.2)
                obtain ⟨g6, c6, rfl⟩ : ∃ g6 c6, v6 = .slice (some ⟨g6, 0, none⟩) (insL ((k.length : Nat) : Int) q).length c6 := owns_some F6.out.1 (by rw [← HLne.out]; omega)
                clear hb6 hg6 ho6
                go_wp2_with fail
                go_roundw
                case rel => exact ⟨c + 1, g6, c6, by omega, by go_num, by rw [F.out], by rw [F.out]; exact F6.out⟩
                case measure => simp [intOf]; omega
              · go_wp2_with (at_builtin; refine wpList_appM rfl (.tmp 41) (.tmp 44) rfl Try.underlying22 Try.infoInt rfl (by decide) rfl HE.out rfl (S1.out _ HE.out.2) HA1.out HO1.out ?a23 ?a33 ?a43)
                case a23 => unfold maxLen; omega
                case a33 => omega
                intro v4 w4 hb4 hg4 ho4
                have H4 := Lib.hid hb4
                clear hb4 hg4 ho4
                go_wp2_with (at_builtin; refine wpList_app1 rfl _ _ rfl Try.underlying22 Try.infoInt rfl (by decide) rfl H4.out rfl rfl ?b13 ?b23 ?b33 ?b43)
                case b13 => simp [Value.oneCell']
                case b23 => unfold maxLen; omega
                case b33 => omega
                intro v5 w5 hb5
                have HZ := Lib.hid hb5
                clear hb5
                go_wp2_with (at_builtin; refine wpList_appM rfl (.tmp 51) (.tmp 54) rfl Try.underlying22 Try.infoInt rfl (by decide) rfl HZ.out rfl (S4.out _ _ _) HA2e.out HO2e.out ?d23 ?d33 ?d43)
                case d23 => unfold maxLen; omega
                case d33 => omega
                intro v6 w6 hb6 hg6 ho6
                have F6 : Hid (Bld 3 1 w1 w6 v6 (insL ((k.length : Nat) : Int) q).length (intVals (insL ((k.length : Nat) : Int) q))) := by
                  have h7 : Bld 3 1 w2 w6 v6 (0 + q.length + 1 + 0) ([] ++ (intVals q).take q.length ++ [Value.int .i64 ((k.length : Nat) : Int)] ++ []) := by simpa using hb6
                  rw [HXe.out, HLne.out] at h7
                  exact Lib.hid (h7.since HB2.out.2)
                obtain ⟨g6, c6, rfl⟩ : ∃ g6 c6, v6 = .slice (some ⟨g6, 0, none⟩) (insL ((k.length : Nat) : Int) q).length c6 := owns_some F6.out.1 (by rw [← HLne.out]; omega)
                clear hb6 hg6 ho6
                go_wp2_with fail
                go_roundw
                case rel => exact ⟨c + 1, g6, c6, by omega, by go_num, by rw [F.out], by rw [F.out]; exact F6.out⟩
                case measure => simp [intOf]; omega
    · obtain rfl : c = m := by omega
      have F2 : Hid (RetSl 3 1 (clsF (c : Nat) l).length (intVals (clsF (c : Nat) l)) w (.returned (.slice (some ⟨g, 0, none⟩) (sortL (szL c ln c)).length oc)) wr) := by
        rw [FF.out]
        exact ⟨_, _, rfl, owns_mono HB.out.1 hbel.out.size, Below.now hbel.out HB.out.2⟩
      go_wp2_with fail
      go_ret
      exact F2.out
end Go.Proofs.Ytkkffaiacipibaa
