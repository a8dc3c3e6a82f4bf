/-
  The reference's least subgroup.
-/
import Derived.Test.YtngbimgabcacpaaGreatGro27
import Derived.Test.YtngbimgabcacpaaGreatGro24
import Derived.Test.YtngbimgabcacpaaGreatGro26
import Derived.Test.YtngbimgabcacpaaGreatGro02
import Derived.Laws.Alloc2
namespace Go.Proofs.YtngbimgabcacpaaGreat
open Go.RowKit
set_option linter.unusedVariables false
set_option maxHeartbeats 1000000 in
theorem conjugate_any (m : Nat) (ln : List Nat) (a : Option Addr) (len cap x i : Nat) (w : World) (hl : NatsIn w a ln) (hG : Grp m ln) (hlen : len = m * m) (hcap : len ≤ cap ∧ cap ≤ maxLen) (hx : x < m) (hi : i < m) :
    Calls Tryz.prog 46 #[.agg #[.int .i64 m, .slice a len cap], .int .i64 x, .int .i64 i] w fun e w' => e = .returned (.int .i64 ((cj m ln x i : Nat) : Int)) ∧ Below w.heap.size w w' := by
  obtain ⟨k1, _, _, k4⟩ := hG.invN_spec hx
  have k2 := hG.tm_lt hx hi
  have HE : Hid (invF m ln x = ((invN m ln x : Nat) : Int)) := k4
  have HG := Lib.hid hG
  have HL := Lib.hid hlen
  have HC := Lib.hid hcap
  have HX : Hid (∀ y, NatsIn (wide (w.alloc (.cells #[.int .i64 m, .slice a len cap] 25)) y) a ln) := fun y => (hl.later ((Below.refl _ _).alloc (Nat.le_refl _) _)).later (below_wide _ _)
  have hy0 : ∀ y, (wide (w.alloc (.cells #[.int .i64 m, .slice a len cap] 25)) y).cell? ⟨w.heap.size, 0, none⟩ = some (.int .i64 m) := wide_cell (by simp)
  have hy1 : ∀ y, (wide (w.alloc (.cells #[.int .i64 m, .slice a len cap] 25)) y).cell? ⟨w.heap.size, 1, none⟩ = some (.slice a len cap) := wide_cell (by simp)
  clear hl hG hlen hcap k4
  go_enter Tryz.func46, Tryz.ntmps46
  go_wp2_with fail
  refine region_wide (by kernel_rfl) (by kernel_rfl) ?_
  repeat (quiet_step ((first
    | (go_at_call 43; refine (inverse_any m ln a _ _ x _ (HX.out _) HG.out HL.out HC.out.1 HC.out.2 hx).mono ?_; rintro e w2 ⟨h2, hb2⟩; rw [HE.out] at h2; subst h2; exact ⟨rfl, wide_next hb2⟩)
    | (go_at_call 42; refine (implTimes_any m ln a _ _ _ _ _ (HX.out _) HG.out.toTb HL.out (by assumption) (by assumption)).mono ?_; rintro e w2 ⟨rfl, hb2⟩; exact ⟨rfl, wide_next hb2⟩))))
  refine wpQuiet_nil ?_
  rintro w4 ⟨x4, rfl⟩
  clear hy0 hy1
  go_wp2_with fail
  go_ret
  exact ⟨rfl, Below.now ((Below.refl w.heap.size w).alloc (Nat.le_refl _) _) (below_wide _ _)⟩
/-- the conjugates of an element by the first k -/
def cjs (m : Nat) (ln : List Nat) (i k : Nat) : List Int := (List.range k).map fun x => ((cj m ln x i : Nat) : Int)
theorem cjs_len (m : Nat) (ln : List Nat) (i k : Nat) : (cjs m ln i k).length = k := by simp [cjs]
theorem cjs_succ (m : Nat) (ln : List Nat) (i k : Nat) : cjs m ln i (k + 1) = cjs m ln i k ++ [((cj m ln k i : Nat) : Int)] := by simp [cjs, List.range_succ]
def isCj (m : Nat) (ln : List Nat) (i k j : Nat) : Bool := (cjs m ln i k).contains (j : Int)
theorem isCj_zero (m : Nat) (ln : List Nat) (i j : Nat) : isCj m ln i 0 j = false := by simp [isCj, cjs]
theorem isCj_succ (m : Nat) (ln : List Nat) (i k j : Nat) : isCj m ln i (k + 1) j = (if j = cj m ln k i then true else isCj m ln i k j) := by
  unfold isCj
  rw [cjs_succ]
  by_cases h : j = cj m ln k i
  · subst h; simp
  · have : ¬ (j : Int) = ((cj m ln k i : Nat) : Int) := by omega
    rw [if_neg h, Bool.eq_iff_iff]
    simp [this]
/-- the conjugates of an element, in ascending order -/
def conjL (m : Nat) (ln : List Nat) (i : Nat) : List Int := listTo (isCj m ln i m) m
theorem conj_coll {m : Nat} {ln : List Nat} (hG : Grp m ln) {i : Nat} (hi : i < m) : collL (cjs m ln i m) = conjL m ln i := by
  refine collL_eq (fun x hx => ?_) (fun j hj => by simp [isCj])
  unfold cjs at hx
  obtain ⟨y, hy, rfl⟩ := List.mem_map.1 hx
  exact ⟨_, rfl, hG.cj_lt (List.mem_range.1 hy) hi⟩
set_option maxHeartbeats 1000000 in
theorem conjugates_any (m : Nat) (ln : List Nat) (a : Option Addr) (len cap i : Nat) (w : World) (hl : NatsIn w a ln) (hG : Grp m ln) (hlen : len = m * m) (hcap : len ≤ cap ∧ cap ≤ maxLen) (hi : i < m) :
    Calls Tryz.prog 63 #[.agg #[.int .i64 m, .slice a len cap], .int .i64 i] w (RetSl 3 1 (conjL m ln i).length (intVals (conjL m ln i)) w) := by
  have hm := hG.hi
  have hm0 := hG.lo
  have HG := Lib.hid hG
  have HL := Lib.hid hlen
  have HC := Lib.hid hcap
  have HN := Lib.hid hl
  clear hl hG hlen hcap
  go_enter Tryz.func63, Tryz.ntmps63
  go_wp2_with fail
  obtain ⟨w1, hw1⟩ : ∃ w1, w1 = w.alloc (.cells #[.int .i64 (m : Nat), .slice a len cap] 25) := ⟨_, rfl⟩
  have hb1 : Below w.heap.size w w1 := by rw [hw1]; exact (Below.refl _ _).alloc (Nat.le_refl _) _
  have hx0 : ∀ W, Below w1.heap.size w1 W → W.cell? ⟨w.heap.size, 0, none⟩ = some (.int .i64 (m : Nat)) := fun W hW => by rw [hW.cell (by rw [hw1]; simp), hw1]; simp
  have hx1 : ∀ W, Below w1.heap.size w1 W → W.cell? ⟨w.heap.size, 1, none⟩ = some (.slice a len cap) := fun W hW => by rw [hW.cell (by rw [hw1]; simp), hw1]; simp
  have HN1 : Hid (∀ W, Below w1.heap.size w1 W → NatsIn W a ln) := fun W hW => (HN.out.later hb1).later hW
  rw [← hw1]
  have HB := Lib.hid hb1
  have hb0 := Below.refl w1.heap.size w1
  clear hw1 hb1 HN
  go_loopw [5, 9] (fun v i' wr => ∃ k : Nat, k ≤ m ∧ i' = .int .i64 k ∧ Bld 3 1 w1 wr v (cjs m ln i k).length (intVals (cjs m ln i k))) (fun _ i' _ => m - (intOf i').toNat)
  case atStart => exact ⟨0, Nat.zero_le _, rfl, Bld.nil _ _ hb0⟩
  case round =>
    clear hb0
    obtain ⟨k, hk, rfl, hb⟩ := hrel
    have hbw := hb.2
    have HO := Lib.hid hb
    have HK := Lib.hid (cjs_len m ln i k)
    clear hb
    by_cases hlt : k < m
    · go_wp2_with fail
      refine (conjugate_any m ln a _ _ k i _ (HN1.out _ hbw) HG.out HL.out HC.out hlt hi).mono ?_
      rintro e w2 ⟨rfl, hb2⟩
      have HO2 := Lib.hid (HO.out.later hb2)
      clear hb2 HO hbw
      go_wp2_with (at_builtin; refine wpList_app1 rfl _ _ rfl Tryz.underlying23 Tryz.infoInt rfl (by decide) rfl HO2.out rfl rfl ?c1 ?c2 ?c3 ?c4)
      case c1 => simp [Value.oneCell']
      case c2 => rw [HK.out]; unfold maxLen; omega
      case c3 => rw [HK.out]; omega
      intro v3 w3 hb3
      have F3 : Hid (Bld 3 1 w1 w3 v3 (cjs m ln i (k + 1)).length (intVals (cjs m ln i (k + 1)))) := by
        rw [cjs_succ, List.length_append]; unfold intVals at *; rw [List.map_append]; exact hb3
      clear hb3
      go_wp2_with fail
      go_roundw
      case rel => exact ⟨k + 1, by omega, by go_num, F3.out⟩
      case measure => simp [intOf]; omega
    · obtain rfl : k = m := by omega
      obtain ⟨oa, oc, rfl⟩ := owns_form HO.out.1
      have HI := Lib.hid (owns_ints (l := cjs k ln i k) HO.out.1)
      have F := Lib.hid (conj_coll HG.out hi)
      clear hbw
      go_wp2_with fail
      refine (collected_any (cjs k ln i k) _ _ _ HI.out (by rw [HK.out]; omega) (by rw [HK.out]; omega)).mono ?_
      rintro e w2 ⟨a2, c2, rfl, ho2, hb2⟩
      have F2 : Hid (RetSl 3 1 (conjL k ln i).length (intVals (conjL k ln i)) w (.returned (.slice a2 (collL (cjs k ln i k)).length c2)) w2) := by
        rw [F.out] at ho2 ⊢
        exact ⟨_, _, rfl, owns_mono ho2 (Nat.le_trans HB.out.size HO.out.2.size), Below.now HB.out (Below.now HO.out.2 hb2)⟩
      clear ho2 hb2
      go_wp2_with fail
      go_ret
      exact F2.out
end Go.Proofs.YtngbimgabcacpaaGreat
namespace Go.Proofs.YtngbimgabcacpaaGreat
open Go.RowKit
set_option linter.unusedVariables false
/-- a row of which the places below c are done, and c holds v -/
def rowF (p : Nat → Bool) (c : Nat) (v : Bool) : Nat → Bool := fun j => if j < c then p j else if j = c then v else false
theorem rowF_store (p : Nat → Bool) (c : Nat) (v v' : Bool) (j : Nat) : (if j = c then v' else rowF p c v j) = rowF p c v' j := by
  unfold rowF
  by_cases h : j = c
  · subst h; simp
  · simp [h]
theorem rowF_next (p : Nat → Bool) (c : Nat) (v : Bool) (h : v = p c) (j : Nat) : rowF p c v j = rowF p (c + 1) false j := by
  unfold rowF
  subst h
  by_cases h : j = c
  · subst h; simp
  · by_cases h2 : j < c
    · rw [if_pos h2, if_pos (by omega)]
    · rw [if_neg h2, if_neg h, if_neg (by omega)]; simp
theorem rowF_zero (p : Nat → Bool) (j : Nat) : false = rowF p 0 false j := by simp [rowF]
theorem rowF_done (p : Nat → Bool) (m : Nat) (v : Bool) {j : Nat} (h : j < m) : rowF p m v j = p j := by simp [rowF, h]
theorem rowF_at (p : Nat → Bool) (c : Nat) (v : Bool) : rowF p c v c = v := by simp [rowF]
theorem regV {m : Nat} {ln : List Nat} {c x : Nat} : (!(true && regB m ln c x)) = (((tm m ln (tm m ln c x) c : Nat) : Int) == ((c : Nat) : Int)) := by
  simp only [regB, Bool.true_and, Bool.not_not]
  cases h : ((tm m ln (tm m ln c x) c : Nat) : Int) == ((c : Nat) : Int)
  · simp at h; simp; omega
  · simp at h; simp; omega
theorem cenV {m : Nat} {ln : List Nat} {c x : Nat} : (true && cenB m ln c x) = (((tm m ln c x : Nat) : Int) == ((tm m ln x c : Nat) : Int)) := by
  simp only [cenB, Bool.true_and]
  cases h : ((tm m ln c x : Nat) : Int) == ((tm m ln x c : Nat) : Int)
  · simp at h; simp; omega
  · simp at h; simp; omega
theorem BoolRow.drew {T : TypeId} {w : World} {base g m : Nat} {f : Nat → Bool} (h : BoolRow T w base g m f) : BoolRow T w.drew base g m f := h
theorem allN_all (p : Nat → Bool) (m : Nat) : allN p m = (List.range m).all p := rfl
/-- CenterOf as a function of plain data -/
def centerOfF (n : Int) (l : List Int) : List Int := if groupB n l then thoseL n l (isCen n.toNat (l.map Int.toNat)) else []
theorem centerOfF_not {n : Int} {l : List Int} (h : groupB n l = false) : centerOfF n l = [] := by unfold centerOfF; rw [h]; rfl
theorem centerOfF_yes {n : Int} {l : List Int} (h : groupB n l = true) : centerOfF n l = thoseL n l (isCen n.toNat (l.map Int.toNat)) := by unfold centerOfF; rw [h]; rfl
theorem centerOfF_len (n : Int) (l : List Int) : (centerOfF n l).length ≤ 1000 := by
  cases h : groupB n l
  · rw [centerOfF_not h]; simp
  · rw [centerOfF_yes h]; exact thoseL_len _ _ _
set_option maxHeartbeats 800000 in
theorem implCenterOf_any (n : Int) (l : List Int) (a : Option Addr) (cap : Nat) (w : World) (hl : IntsIn w a l) (hlen : l.length ≤ 2 ^ 47) :
    Calls Tryz.prog 27 #[.agg #[.int .i64 n, .slice a l.length cap]] w (RetSl 3 1 (centerOfF n l).length (intVals (centerOfF n l)) w) := by
  have HL := Lib.hid hl
  clear hl
  have HX : Hid (Below w.heap.size w (w.alloc (.cells #[.int .i64 n, .slice a l.length cap] 25))) := (Below.refl _ _).alloc (Nat.le_refl _) _
  cases hg : groupB n l
  · have F : Hid (∀ w', Below w.heap.size w w' → RetSl 3 1 (centerOfF n l).length (intVals (centerOfF n l)) w (.returned (.slice none 0 0)) w') := fun w' hb => by
      rw [centerOfF_not hg]; exact retSl_nil _ _ _ hb
    go_enter Tryz.func27, Tryz.ntmps27
    go_wp2_with fail
    refine (implIsGroup_any n l a cap _ (HL.out.later HX.out) hlen).mono ?_
    rintro e w2 ⟨rfl, hb2⟩
    have hbel := Below.now HX.out hb2
    clear hb2
    go_wp2_with fail
    go_ret
    exact F.out _ hbel
  · have HE := Lib.hid (centerOfF_yes hg)
    go_enter Tryz.func27, Tryz.ntmps27
    go_wp2_with fail
    refine (implIsGroup_any n l a cap _ (HL.out.later HX.out) hlen).mono ?_
    rintro e w2 ⟨rfl, hb2⟩
    have hx0 := box_later hb2 (i := 0) (v := .int .i64 n) rfl
    have hx1 := box_later hb2 (i := 1) (v := .slice a l.length cap) rfl
    have hbel := Lib.hid (Below.now HX.out hb2)
    have hb0 := Below.refl w2.heap.size w2
    clear hb2
    go_wp2_with fail
    refine (those_any n l a cap _ (HL.out.later hbel.out) hlen _ _ _ (isCen n.toNat (l.map Int.toNat)) (Nat.le_refl _) ?_ (enters_of Tryz.func61 (by kernel_rfl) rfl)).mono ?_
    · intro ht
      obtain ⟨m, ln, rfl, rfl, hT⟩ := tabOk_out ht
      rw [map_toNat]
      exact centerofOut_pred m ln a (ln.map Int.ofNat).length cap w.heap.size _ (by have := hx0 _ hb0; simpa using this) (by have := hx1 _ hb0; simpa using this) (HL.out.later hbel.out) hT.toTb (by rw [List.length_map]; exact hT.len)
    rintro e w3 ⟨a3, c3, rfl, ho, hb3⟩
    have F : Hid (RetSl 3 1 (centerOfF n l).length (intVals (centerOfF n l)) w (.returned (.slice a3 (thoseL n l (isCen n.toNat (l.map Int.toNat))).length c3)) w3) := by
      rw [HE.out]; exact ⟨_, _, rfl, owns_mono ho hbel.out.size, Below.now hbel.out hb3⟩
    clear ho hb3
    go_wp2_with fail
    go_ret
    exact F.out
end Go.Proofs.YtngbimgabcacpaaGreat
namespace Go.Proofs.YtngbimgabcacpaaGreat
open Go.RowKit
set_option linter.unusedVariables false
/-- ConjugatesOf as a function of plain data -/
def conjF (n : Int) (l : List Int) (i : Int) : List Int := if invOk n l i = true then conjL n.toNat (l.map Int.toNat) i.toNat else []
theorem conjF_not {n : Int} {l : List Int} {i : Int} (h : invOk n l i = false) : conjF n l i = [] := by simp [conjF, h]
theorem conjF_yes {m k : Nat} {ln : List Nat} (h : invOk (m : Nat) (ln.map Int.ofNat) (k : Nat) = true) : conjF (m : Nat) (ln.map Int.ofNat) (k : Nat) = conjL m ln k := by
  unfold conjF; rw [if_pos h, map_toNat]; rfl
theorem conjF_len (n : Int) (l : List Int) (i : Int) : (conjF n l i).length ≤ 1000 := by
  cases h : invOk n l i
  · rw [conjF_not h]; simp
  · have hg : groupB n l = true := by simp only [invOk, Bool.and_eq_true] at h; exact h.1
    have hi : inB i 0 (n - 1) = true := by simp only [invOk, Bool.and_eq_true] at h; exact h.2
    obtain ⟨m, ln, rfl, rfl, hG⟩ := groupB_out hg
    obtain ⟨k, rfl, hk⟩ := inB_nat hi
    rw [conjF_yes h]
    have := listTo_len (isCj m ln k m) m
    have := hG.hi
    unfold conjL; omega
set_option maxHeartbeats 1000000 in
theorem implConjugatesOf_any (n : Int) (l : List Int) (a : Option Addr) (cap : Nat) (i : Int) (w : World) (hl : IntsIn w a l) (hlen : l.length ≤ 2 ^ 47) (hcap : l.length ≤ cap ∧ cap ≤ maxLen) :
    Calls Tryz.prog 29 #[.agg #[.int .i64 n, .slice a l.length cap], .int .i64 i] w (RetSl 3 1 (conjF n l i).length (intVals (conjF n l i)) w) := by
  have HI := Lib.hid hl
  have HC := Lib.hid hcap
  clear hl hcap
  cases hg : groupB n l
  · have F : Hid (∀ w', Below w.heap.size w w' → RetSl 3 1 (conjF n l i).length (intVals (conjF n l i)) w (.returned (.slice none 0 0)) w') := fun w' hb => by
      rw [conjF_not (invOk_not1 (i := i) hg)]; exact retSl_nil _ _ _ hb
    go_enter Tryz.func29, Tryz.ntmps29
    go_wp2_with fail
    refine (implIsGroup_any n l a cap _ (HI.out.later ((Below.refl _ _).alloc (Nat.le_refl _) _)) hlen).mono ?_
    rintro e w1 ⟨h2, hb1⟩
    rw [hg] at h2
    subst h2
    have hbel := Below.now ((Below.refl w.heap.size w).alloc (Nat.le_refl _) _) hb1
    clear hb1
    go_wp2_with fail
    go_ret
    exact F.out _ hbel
  obtain ⟨m, ln, rfl, hlm, hG⟩ := groupB_out hg
  have HG := Lib.hid hG
  have hm0 := hG.lo
  have hm1 := hG.hi
  have HLM := Lib.hid hlm
  have HLL : Hid (l.length = m * m) := by rw [hlm, List.length_map]; exact hG.len
  have HGB : Hid (groupB (m : Nat) l = true) := hg
  clear hG hlm
  cases hi : inB i 0 ((m : Nat) - 1)
  · have F : Hid (∀ w', Below w.heap.size w w' → RetSl 3 1 (conjF (m : Nat) l i).length (intVals (conjF (m : Nat) l i)) w (.returned (.slice none 0 0)) w') := fun w' hb => by
      rw [conjF_not (invOk_not2 (l := l) hi)]; exact retSl_nil _ _ _ hb
    go_enter Tryz.func29, Tryz.ntmps29
    go_wp2_with fail
    refine (implIsGroup_any _ l a cap _ (HI.out.later ((Below.refl _ _).alloc (Nat.le_refl _) _)) hlen).mono ?_
    rintro e w1 ⟨h2, hb1⟩
    rw [HGB.out] at h2
    subst h2
    have x0 := box_later hb1 (i := 0) (v := .int .i64 (m : Nat)) rfl _ (Below.refl _ _)
    have x1 := box_later hb1 (i := 1) (v := .slice a l.length cap) rfl _ (Below.refl _ _)
    have hbel := Below.now ((Below.refl w.heap.size w).alloc (Nat.le_refl _) _) hb1
    clear hb1
    go_wp2_with fail
    refine (has_any m _ _ _ hm0 hm1).mono ?_
    rintro e w2 ⟨h2, hb2⟩
    rw [hi] at h2
    subst h2
    replace hbel := Below.now hbel hb2
    clear hb2
    go_wp2_with fail
    go_ret
    exact F.out _ hbel
  · have F2 := Lib.hid (invOk_yes HGB.out hi)
    obtain ⟨k, rfl, hk⟩ := inB_nat hi
    have F : Hid (conjF (m : Nat) l (k : Nat) = conjL m ln k) := by have := F2.out; rw [HLM.out] at this ⊢; exact conjF_yes this
    go_enter Tryz.func29, Tryz.ntmps29
    go_wp2_with fail
    refine (implIsGroup_any _ l a cap _ (HI.out.later ((Below.refl _ _).alloc (Nat.le_refl _) _)) hlen).mono ?_
    rintro e w1 ⟨h2, hb1⟩
    rw [HGB.out] at h2
    subst h2
    have x0 := box_later hb1 (i := 0) (v := .int .i64 (m : Nat)) rfl _ (Below.refl _ _)
    have x1 := box_later hb1 (i := 1) (v := .slice a l.length cap) rfl _ (Below.refl _ _)
    have hbel := Below.now ((Below.refl w.heap.size w).alloc (Nat.le_refl _) _) hb1
    clear hb1
    go_wp2_with fail
    refine (has_any m _ _ _ hm0 hm1).mono ?_
    rintro e w2 ⟨h2, hb2⟩
    rw [hi] at h2
    subst h2
    replace x0 := (hb2.cell (World.block_lt_of_cell? _ _ x0)).trans x0
    replace x1 := (hb2.cell (World.block_lt_of_cell? _ _ x1)).trans x1
    replace hbel := Below.now hbel hb2
    clear hb2
    go_wp2_with fail
    refine (conjugates_any m ln a _ cap k _ (by unfold NatsIn; rw [← HLM.out]; exact HI.out.later hbel) HG.out HLL.out HC.out hk).mono ?_
    rintro e w5 ⟨a5, c5, rfl, ho5, hb5⟩
    have F5 : Hid (RetSl 3 1 (conjF (m : Nat) l (k : Nat)).length (intVals (conjF (m : Nat) l (k : Nat))) w (.returned (.slice a5 (conjL m ln k).length c5)) w5) := by
      rw [F.out]; exact ⟨_, _, rfl, owns_mono ho5 hbel.size, Below.now hbel hb5⟩
    clear hb5 ho5 x0 x1 hbel
    go_wp2_with fail
    go_ret
    exact F5.out
end Go.Proofs.YtngbimgabcacpaaGreat
namespace Go.Proofs.YtngbimgabcacpaaGreat
open Go.RowKit
set_option linter.unusedVariables false
/-- the elements of the least subgroup, in ascending order -/
def inSub (m : Nat) (ln z : List Nat) (j : Nat) : Bool := (subQ m ln z).contains j
def subL (m : Nat) (ln z : List Nat) : List Int := listTo (inSub m ln z) m
theorem sub_coll {m : Nat} {ln z : List Nat} (hT : Tb m ln) (hz : ∀ x ∈ z, x < m) : collL ((subQ m ln z).map Int.ofNat) = subL m ln z := by
  refine collL_eq (fun x hx => ?_) (fun j hj => by rw [inSub, List.contains_iff_mem]; exact (mem_ofNat _ _).symm)
  obtain ⟨y, hy, rfl⟩ := List.mem_map.1 hx
  exact ⟨y, rfl, ((subQ_mem hT hz y).1 hy).lt hT hz⟩
set_option maxRecDepth 100000 in
set_option maxHeartbeats 2000000 in
theorem subgroup_any (m : Nat) (ln : List Nat) (a : Option Addr) (len cap : Nat) (z : List Nat) (az : Option Addr) (cz : Nat) (w : World) (hl : NatsIn w a ln) (hT : Tb m ln) (hlen : len = m * m) (hz : NatsIn w az z) (hzm : ∀ x ∈ z, x < m) (hzl : z.length ≤ 2 ^ 47) :
    Calls Tryz.prog 38 #[.agg #[.int .i64 m, .slice a len cap], .slice az z.length cz] w (RetSl 3 1 (subL m ln z).length (intVals (subL m ln z)) w) := by
  have hm := hT.hi
  have hm0 := hT.lo
  have HT := Lib.hid hT
  have HL := Lib.hid hlen
  have HN := Lib.hid hl
  have HZ := Lib.hid hz
  have HM := Lib.hid hzm
  clear hl hT hlen hz hzm
  go_enter Tryz.func38, Tryz.ntmps38
  go_wp2_with fail
  obtain ⟨w0, hw0⟩ : ∃ w0, w0 = w.alloc (.cells #[.int .i64 (m : Nat), .slice a len cap] 25) := ⟨_, rfl⟩
  have hb1 : Below w.heap.size w w0 := by rw [hw0]; exact (Below.refl _ _).alloc (Nat.le_refl _) _
  have hx0 : ∀ W, Below w0.heap.size w0 W → W.cell? ⟨w.heap.size, 0, none⟩ = some (.int .i64 (m : Nat)) := fun W hW => by rw [hW.cell (by rw [hw0]; simp), hw0]; simp
  have hx1 : ∀ W, Below w0.heap.size w0 W → W.cell? ⟨w.heap.size, 1, none⟩ = some (.slice a len cap) := fun W hW => by rw [hW.cell (by rw [hw0]; simp), hw0]; simp
  have HN1 : Hid (∀ W, Below w0.heap.size w0 W → NatsIn W a ln) := fun W hW => (HN.out.later hb1).later hW
  have HZ1 : Hid (∀ W, Below w0.heap.size w0 W → NatsIn W az z) := fun W hW => (HZ.out.later hb1).later hW
  have hsz0 : w0.heap.size = w.heap.size + 1 := by rw [hw0]; simp
  have HS : Hid (Bld 3 1 w0 (w0.alloc (.cells #[.int .i64 0] 3)) (.slice (some ⟨w.heap.size + 1, 0, none⟩) 1 1) 1 (ivs [0])) := by
    rw [← hsz0]
    exact ⟨World.ownsRow_lit w0 #[.int .i64 0] 1 (Nat.le_refl _) (by unfold maxLen; omega) rfl, (Below.refl _ _).alloc (Nat.le_refl _) _⟩
  have HB := Lib.hid hb1
  have HA := Lib.hid (SubAt.begin z HT.out)
  rw [← hw0]
  clear hw0 hb1 HN HZ hsz0
  go_loopw [5, 6] (fun v i' wr => ∃ (p : Nat) (q : List Nat), i' = .int .i64 p ∧ Bld 3 1 w0 wr v q.length (ivs q) ∧ SubAt m ln z p q) (fun _ i' _ => m + 1 - (intOf i').toNat)
  case atStart => exact ⟨0, [0], rfl, HS.out, HA.out⟩
  case round =>
    clear HS HA
    obtain ⟨p, q, rfl, hb, hat⟩ := hrel
    have hql := hat.toSubInv.len
    have hpl := hat.le
    have hpos := hat.pos
    have HO := Lib.hid hb
    have HQ := Lib.hid hat
    clear hb hat
    by_cases hlt : p < q.length
    · obtain ⟨g, c, rfl⟩ := owns_some HO.out.1 hpos
      go_wp2_with fail
      have hO0 : Bld 3 1 w0 wr (.slice (some ⟨g, 0, none⟩) q.length c) q.length (ivs q) := HO.out
      clear HO
      go_loopw [5, 19] (fun v i' wr => ∃ j : Nat, j ≤ z.length ∧ i' = .int .i64 j ∧ Bld 3 1 w0 wr v (subTo m ln z q p j).length (ivs (subTo m ln z q p j))) (fun _ i' _ => z.length - (intOf i').toNat)
      case atStart => exact ⟨0, Nat.zero_le _, rfl, by rw [subTo_zero]; exact hO0⟩
      case round =>
        clear hO0
        obtain ⟨j, hj, rfl, hb⟩ := hrel
        obtain ⟨hinv, hpre⟩ := subTo_all HT.out HM.out HQ.out.toSubInv hlt j hj
        have hq2 := hinv.len
        have hpq := Nat.lt_of_lt_of_le hlt hpre.length_le
        have hbw := hb.2
        have HO := Lib.hid hb
        have HI := Lib.hid hinv
        have HP := Lib.hid hpre
        clear hb hinv hpre
        by_cases hlj : j < z.length
        · have HX := Lib.hid (subTo_succ (m := m) (ln := ln) (q := q) (p := p) hlj)
          have hzj : z[j] < m := HM.out _ (List.getElem_mem hlj)
          obtain ⟨bz, oz, hbz, hcz⟩ := nats_cell (HZ1.out _ hbw) hlj
          subst hbz
          have hcz2 : ∀ x, (wide wr x).cell? ⟨bz, oz + j, none⟩ = some (.int .i64 ((z[j] : Nat) : Int)) := wide_cell (hcz _ (Below.refl _ _))
          have hcz3 := hcz _ (Below.refl _ _)
          generalize hq' : subTo m ln z q p j = q' at *
          generalize hy : z[j] = y at *
          have HY := Lib.hid hy
          have HQ' := Lib.hid hq'
          have hqp := HI.out.at hpq
          obtain ⟨e0, he0⟩ : ∃ e0, e0 = q'.getD p 0 := ⟨_, rfl⟩
          rw [← he0] at hqp
          have HE0 := Lib.hid he0
          obtain ⟨g2, c2, rfl⟩ := owns_some HO.out.1 (by omega)
          have hcp : ∀ x, (wide wr x).cell? ⟨g2, p, none⟩ = some (.int .i64 ((e0 : Nat) : Int)) := wide_cell (by rw [World.ownsRow.cellAt HO.out.1 p (by omega), ivs_get hpq, he0])
          have hw0 : ∀ x, (wide wr x).cell? ⟨w.heap.size, 0, none⟩ = some (.int .i64 (m : Nat)) := wide_cell (hx0 _ hbw)
          have hw1 : ∀ x, (wide wr x).cell? ⟨w.heap.size, 1, none⟩ = some (.slice a len cap) := wide_cell (hx1 _ hbw)
          have HNw : Hid (∀ x, NatsIn (wide wr x) a ln) := fun x => (HN1.out _ hbw).later (below_wide _ _)
          clear hcz hy hq' he0
          go_wp2_with fail
          refine region_wide (by kernel_rfl) (by kernel_rfl) ?_
          repeat (quiet_step ((go_at_call 42; refine (implTimes_any m ln a _ _ _ _ _ (HNw.out _) HT.out HL.out (by assumption) (by assumption)).mono ?_; rintro e w2 ⟨rfl, hb2⟩; exact ⟨rfl, wide_next hb2⟩)))
          refine wpQuiet_nil ?_
          rintro w4 ⟨x4, rfl⟩
          have HO4 := Lib.hid (HO.out.later (below_wide wr x4))
          have hc4 : Hid (∀ i, i < (q'.map Int.ofNat).length → (wide wr x4).cell? ⟨g2, 0 + i, none⟩ = some (.int .i64 ((q'.map Int.ofNat).getD i 0))) := fun i hi => by
            rw [List.length_map] at hi
            rw [Nat.zero_add, World.ownsRow.cellAt HO4.out.1 i (by omega), ivs_get hi]
            simp [List.getD_eq_getElem?_getD, hi]
          have hC := Tryz.slices_Contains_int g2 0 q'.length c2 (q'.map Int.ofNat) ((tm m ln e0 y : Nat) : Int) (wide wr x4) (by simp) (by omega) hc4.out
          rw [List.take_of_length_le (by simp), cont_ivs] at hC
          have HC := Lib.hid hC
          generalize wide wr x4 = w4 at *
          have HXX : Hid (subTo m ln z q p (j + 1) = subOne m ln p q' y) := Lib.hid HX.out
          have hti := HT.out.tm_lt hqp hzj
          clear hcz2 hcz3 hcp hw0 hw1 HNw hc4 hC HX HO HI HP
          cases hcc : q'.contains (tm m ln e0 y)
          · have HF : Hid (subOne m ln p q' y = q' ++ [tm m ln e0 y]) := by unfold subOne; rw [← HE0.out, hcc]; rfl
            go_wp2_with fail
            refine HC.out.mono ?_
            rintro e w5 ⟨h5, rfl⟩
            rw [hcc] at h5
            subst h5
            go_wp2_with (at_builtin; refine wpList_app1 rfl _ _ rfl Tryz.underlying23 Tryz.infoInt rfl (by decide) rfl HO4.out rfl rfl ?c1 ?c2 ?c3 ?c4)
            case c1 => simp [Value.oneCell']
            case c2 => unfold maxLen; omega
            case c3 => omega
            intro v6 w6 hb6
            have F6 : Hid (Bld 3 1 w0 w6 v6 (subTo m ln z q p (j + 1)).length (ivs (subTo m ln z q p (j + 1)))) := by
              rw [HXX.out, HF.out, ivs_app, List.length_append]; exact hb6
            clear hb6
            go_wp2_with fail
            go_roundw
            case rel => exact ⟨j + 1, by omega, by go_num, F6.out⟩
            case measure => simp [intOf]; omega
          · have HF : Hid (subOne m ln p q' y = q') := by unfold subOne; rw [← HE0.out, hcc]; rfl
            go_wp2_with fail
            refine HC.out.mono ?_
            rintro e w5 ⟨h5, rfl⟩
            rw [hcc] at h5
            subst h5
            go_wp2_with fail
            go_roundw
            case rel => exact ⟨j + 1, by omega, by go_num, by rw [HXX.out, HF.out]; exact HO4.out⟩
            case measure => simp [intOf]; omega
        · obtain rfl : j = z.length := by omega
          have HQ2 := Lib.hid (HQ.out.next HT.out HM.out hlt)
          go_wp2_with fail
          go_roundw
          case rel => exact ⟨p + 1, _, by go_num, HO.out, HQ2.out⟩
          case measure => simp [intOf]; omega
    · have F := Lib.hid (HQ.out.stop hlt)
      have F1 : Hid (collL (q.map Int.ofNat) = subL m ln z) := by rw [F.out]; exact sub_coll HT.out HM.out
      obtain ⟨g, c, rfl⟩ := owns_some HO.out.1 hpos
      have HI : Hid (IntsIn wr (some ⟨g, 0, none⟩) (q.map Int.ofNat)) := owns_ints (l := q.map Int.ofNat) HO.out.1
      have hC := collected_any (q.map Int.ofNat) (some ⟨g, 0, none⟩) c wr HI.out (by simpa using hpos) (by simp; omega)
      rw [List.length_map, F1.out] at hC
      have HC := Lib.hid hC
      clear hC
      go_wp2_with fail
      refine HC.out.mono ?_
      rintro e w2 ⟨a2, c2, rfl, ho2, hb2⟩
      have F2 : Hid (RetSl 3 1 (subL m ln z).length (intVals (subL m ln z)) w (.returned (.slice a2 (subL m ln z).length c2)) w2) :=
        ⟨_, _, rfl, owns_mono ho2 (Nat.le_trans HB.out.size HO.out.2.size), Below.now HB.out (Below.now HO.out.2 hb2)⟩
      clear ho2 hb2
      go_wp2_with fail
      go_ret
      exact F2.out
end Go.Proofs.YtngbimgabcacpaaGreat
namespace Go.Proofs.YtngbimgabcacpaaGreat
open Go.RowKit
set_option linter.unusedVariables false
/-- a table is a group and a list has only elements of it -/
def subOk (n : Int) (l z : List Int) : Bool := groupB n l && rngB n z
/-- SubgroupOf as a function of plain data -/
def subF (n : Int) (l z : List Int) : List Int := if subOk n l z = true then subL n.toNat (l.map Int.toNat) (z.map Int.toNat) else []
theorem subOk_not1 {n : Int} {l z : List Int} (h : groupB n l = false) : subOk n l z = false := by simp [subOk, h]
theorem subOk_not2 {n : Int} {l z : List Int} (h : rngB n z = false) : subOk n l z = false := by simp [subOk, h]
theorem subOk_yes {n : Int} {l z : List Int} (h1 : groupB n l = true) (h : rngB n z = true) : subOk n l z = true := by simp [subOk, h, h1]
theorem subOk_out {n : Int} {l z : List Int} (h : subOk n l z = true) : groupB n l = true ∧ rngB n z = true := by simpa [subOk] using h
theorem subF_not {n : Int} {l z : List Int} (h : subOk n l z = false) : subF n l z = [] := by simp [subF, h]
theorem subF_yes {m : Nat} {ln zn : List Nat} (h : subOk (m : Nat) (ln.map Int.ofNat) (zn.map Int.ofNat) = true) : subF (m : Nat) (ln.map Int.ofNat) (zn.map Int.ofNat) = subL m ln zn := by
  unfold subF; rw [if_pos h, map_toNat', map_toNat']; rfl
theorem rng_nats {m : Nat} {z : List Int} (h : rngB (m : Nat) z = true) : ∃ zn : List Nat, z = zn.map Int.ofNat ∧ ∀ x ∈ zn, x < m := by
  unfold rngB at h
  rw [List.all_eq_true] at h
  refine ⟨z.map Int.toNat, ?_, fun x hx => ?_⟩
  · rw [List.map_map]
    symm
    have : ∀ x ∈ z, (Int.ofNat ∘ Int.toNat) x = x := fun x hx => by
      have := inB_bounds (h x hx)
      simp; omega
    rw [List.map_congr_left this]; simp
  · obtain ⟨y, hy, rfl⟩ := List.mem_map.1 hx
    have := inB_bounds (h y hy)
    omega
theorem subF_len (n : Int) (l z : List Int) : (subF n l z).length ≤ 1000 := by
  cases h : subOk n l z
  · rw [subF_not h]; simp
  · obtain ⟨hg, hr⟩ := subOk_out h
    obtain ⟨m, ln, rfl, rfl, hG⟩ := groupB_out hg
    obtain ⟨zn, rfl, _⟩ := rng_nats hr
    rw [subF_yes h]
    have := listTo_len (inSub m ln zn) m
    have := hG.hi
    unfold subL; omega
set_option maxHeartbeats 1000000 in
theorem implSubgroupOf_any (n : Int) (l : List Int) (a : Option Addr) (cap : Nat) (z : List Int) (az : Option Addr) (cz : Nat) (w : World) (hl : IntsIn w a l) (hlen : l.length ≤ 2 ^ 47) (hz : IntsIn w az z) (hzl : z.length ≤ 2 ^ 47) :
    Calls Tryz.prog 9 #[.agg #[.int .i64 n, .slice a l.length cap], .slice az z.length cz] w (RetSl 3 1 (subF n l z).length (intVals (subF n l z)) w) := by
  have HI := Lib.hid hl
  have HZ := Lib.hid hz
  clear hl hz
  cases hg : groupB n l
  · have F : Hid (∀ w', Below w.heap.size w w' → RetSl 3 1 (subF n l z).length (intVals (subF n l z)) w (.returned (.slice none 0 0)) w') := fun w' hb => by
      rw [subF_not (subOk_not1 hg)]; exact retSl_nil _ _ _ hb
    go_enter Tryz.func9, Tryz.ntmps9
    go_wp2_with fail
    refine (implIsGroup_any n l a cap _ (HI.out.later ((Below.refl _ _).alloc (Nat.le_refl _) _)) hlen).mono ?_
    rintro e w1 ⟨h2, hb1⟩
    rw [hg] at h2
    subst h2
    have hbel := Below.now ((Below.refl w.heap.size w).alloc (Nat.le_refl _) _) hb1
    clear hb1
    go_wp2_with fail
    go_ret
    exact F.out _ hbel
  obtain ⟨m, ln, rfl, hlm, hG⟩ := groupB_out hg
  have HG := Lib.hid hG
  have hm0 := hG.lo
  have hm1 := hG.hi
  have HLM := Lib.hid hlm
  have HLL : Hid (l.length = m * m) := by rw [hlm, List.length_map]; exact hG.len
  have HGB : Hid (groupB (m : Nat) l = true) := hg
  clear hG hlm
  cases hr : rngB (m : Nat) z
  · have F : Hid (∀ w', Below w.heap.size w w' → RetSl 3 1 (subF (m : Nat) l z).length (intVals (subF (m : Nat) l z)) w (.returned (.slice none 0 0)) w') := fun w' hb => by
      rw [subF_not (subOk_not2 hr)]; exact retSl_nil _ _ _ hb
    have HR : Hid ((z.all fun x => inB x 0 ((m : Nat) - 1)) = false) := hr
    clear hr
    go_enter Tryz.func9, Tryz.ntmps9
    go_wp2_with fail
    refine (implIsGroup_any _ l a cap _ (HI.out.later ((Below.refl _ _).alloc (Nat.le_refl _) _)) hlen).mono ?_
    rintro e w1 ⟨h2, hb1⟩
    rw [HGB.out] at h2
    subst h2
    have x0 := box_later hb1 (i := 0) (v := .int .i64 (m : Nat)) rfl _ (Below.refl _ _)
    have x1 := box_later hb1 (i := 1) (v := .slice a l.length cap) rfl _ (Below.refl _ _)
    have hbel := Below.now ((Below.refl w.heap.size w).alloc (Nat.le_refl _) _) hb1
    clear hb1
    go_wp2_with fail
    refine (allWithin_any _ _ z _ _ _ (HZ.out.later hbel) hzl).mono ?_
    rintro e w2 ⟨h2, hb2⟩
    rw [HR.out] at h2
    subst h2
    replace hbel := Below.now hbel hb2
    clear hb2
    go_wp2_with fail
    go_ret
    exact F.out _ hbel
  · obtain ⟨zn, hzn, hzm⟩ := rng_nats hr
    have F : Hid (subF (m : Nat) l z = subL m ln zn) := by
      have := subOk_yes HGB.out hr
      rw [HLM.out, hzn] at this ⊢
      exact subF_yes this
    have HZN := Lib.hid hzn
    have HZM := Lib.hid hzm
    have HZL : Hid (z.length = zn.length) := Lib.hid (by rw [hzn, List.length_map])
    have HR : Hid ((z.all fun x => inB x 0 ((m : Nat) - 1)) = true) := hr
    clear hr hzn hzm
    go_enter Tryz.func9, Tryz.ntmps9
    go_wp2_with fail
    refine (implIsGroup_any _ l a cap _ (HI.out.later ((Below.refl _ _).alloc (Nat.le_refl _) _)) hlen).mono ?_
    rintro e w1 ⟨h2, hb1⟩
    rw [HGB.out] at h2
    subst h2
    have x0 := box_later hb1 (i := 0) (v := .int .i64 (m : Nat)) rfl _ (Below.refl _ _)
    have x1 := box_later hb1 (i := 1) (v := .slice a l.length cap) rfl _ (Below.refl _ _)
    have hbel := Below.now ((Below.refl w.heap.size w).alloc (Nat.le_refl _) _) hb1
    clear hb1
    go_wp2_with fail
    refine (allWithin_any _ _ z _ _ _ (HZ.out.later hbel) hzl).mono ?_
    rintro e w2 ⟨h2, hb2⟩
    rw [HR.out] at h2
    subst h2
    replace x0 := (hb2.cell (World.block_lt_of_cell? _ _ x0)).trans x0
    replace x1 := (hb2.cell (World.block_lt_of_cell? _ _ x1)).trans x1
    replace hbel := Below.now hbel hb2
    clear hb2
    go_wp2_with fail
    have hC := subgroup_any m ln a l.length cap zn az cz w2 (by unfold NatsIn; rw [← HLM.out]; exact HI.out.later hbel) HG.out.toTb HLL.out (by unfold NatsIn; rw [← HZN.out]; exact HZ.out.later hbel) HZM.out (by rw [← HZL.out]; exact hzl)
    rw [← HZL.out] at hC
    refine hC.mono ?_
    rintro e w5 ⟨a5, c5, rfl, ho5, hb5⟩
    have F5 : Hid (RetSl 3 1 (subF (m : Nat) l z).length (intVals (subF (m : Nat) l z)) w (.returned (.slice a5 (subL m ln zn).length c5)) w5) := by
      rw [F.out]; exact ⟨_, _, rfl, owns_mono ho5 hbel.size, Below.now hbel hb5⟩
    clear hb5 ho5 x0 x1 hbel hC
    go_wp2_with fail
    go_ret
    exact F5.out
end Go.Proofs.YtngbimgabcacpaaGreat
namespace Go.Proofs.YtngbimgabcacpaaGreat
open Go.RowKit
set_option linter.unusedVariables false
/-- the queue, and which elements are in it -/
def SubSt (w0 wr : World) (g m : Nat) (v : Value) (q : List Nat) : Prop :=
  Bld 3 1 w0 wr v q.length (ivs q) ∧ BoolRow 4 wr w0.heap.size g m (fun j => q.contains j) ∧ v.ownBlock ≠ some g
theorem SubSt.later {w0 wr wr' : World} {g m : Nat} {v : Value} {q : List Nat} (h : SubSt w0 wr g m v q) (hb : Below wr.heap.size wr wr') : SubSt w0 wr' g m v q := ⟨h.1.later hb, h.2.1.later hb, h.2.2⟩
theorem below_of_grown {w wr wr' : World} {own : Option Nat} (h : Below w.heap.size w wr) (hg : wr.grownBy wr' own) (ho : ∀ k, own = some k → w.heap.size ≤ k) : Below w.heap.size w wr' := h.grown hg h.size ho
theorem SubSt.put {w0 wr : World} {g m : Nat} {v : Value} {q : List Nat} {y : Nat} (h : SubSt w0 wr g m v q) :
    Bld 3 1 w0 ((wr.setCell ⟨g, y, none⟩ (.bool true)).alloc (.cells #[.int .i64 (y : Nat)] 3)) v q.length (ivs q) ∧
    Src ((wr.setCell ⟨g, y, none⟩ (.bool true)).alloc (.cells #[.int .i64 (y : Nat)] 3)) (.slice (some ⟨wr.heap.size, 0, none⟩) 1 1) 1 [.int .i64 (y : Nat)] ∧
    ∀ v' w', Bld 3 1 w0 w' v' (q.length + 1) (ivs q ++ [.int .i64 (y : Nat)]) → ((wr.setCell ⟨g, y, none⟩ (.bool true)).alloc (.cells #[.int .i64 (y : Nat)] 3)).grownBy w' v.ownBlock →
      (v'.ownBlock = v.ownBlock ∨ v'.ownBlock = some ((wr.setCell ⟨g, y, none⟩ (.bool true)).alloc (.cells #[.int .i64 (y : Nat)] 3)).heap.size) → SubSt w0 w' g m v' (q ++ [y]) := by
  obtain ⟨hb, hr, hne⟩ := h
  have hst := hr.store y true
  have hgr : wr.grownBy (wr.setCell ⟨g, y, none⟩ (.bool true)) (some g) := (World.ownsRow.stored hr y (.bool true)).2
  have hg0 := hr.range
  have hb1 : Bld 3 1 w0 (wr.setCell ⟨g, y, none⟩ (.bool true)) v q.length (ivs q) :=
    ⟨hb.1.kept hgr (.inr hne), below_of_grown hb.2 hgr (fun k hk => by obtain rfl := Option.some.inj hk; exact hg0.1)⟩
  have hsz : (wr.setCell ⟨g, y, none⟩ (.bool true)).heap.size = wr.heap.size := by simp
  have hal : Below (wr.setCell ⟨g, y, none⟩ (.bool true)).heap.size (wr.setCell ⟨g, y, none⟩ (.bool true)) ((wr.setCell ⟨g, y, none⟩ (.bool true)).alloc (.cells #[.int .i64 (y : Nat)] 3)) := (Below.refl _ _).alloc (Nat.le_refl _) _
  refine ⟨hb1.later hal, ?_, fun v' w' hb' hg' ho' => ⟨?_, ?_, ?_⟩⟩
  · have := Src.lit (w := wr.setCell ⟨g, y, none⟩ (.bool true)) (T := 3) (c := 1) (m := 1) [.int .i64 (y : Nat)]
    rw [hsz] at this
    exact this
  · rw [List.length_append, ivs_app]; exact hb'
  · have h1 := hst.later hal
    have h2 : BoolRow 4 w' w0.heap.size g m _ := World.ownsRow.kept h1 hg' (.inr fun e => hne e.symm)
    refine h2.congr fun j _ => ?_
    by_cases e : j = y
    · subst e; simp
    · rw [if_neg e, Bool.eq_iff_iff]; simp [e]
  · rcases ho' with e | e
    · rw [e]; exact hne
    · rw [e]
      intro h3
      have h4 := Option.some.inj h3
      simp at h4
      omega
theorem SubSt.start (w0 : World) (m : Nat) (hm : 1 ≤ m) (hm1 : m ≤ 40) :
    SubSt w0 (((w0.alloc (.cells (madeCells #[.bool false] m) 4)).setCell ⟨w0.heap.size, 0, none⟩ (.bool true)).alloc (.cells #[.int .i64 0] 3)) w0.heap.size m (.slice (some ⟨w0.heap.size + 1, 0, none⟩) 1 1) [0] := by
  have hrow := BoolRow.start w0 4 (madeCells #[.bool false] m) m (made_bools m) (by unfold maxLen; omega)
  have hst := hrow.store 0 true
  have hgr : (w0.alloc (.cells (madeCells #[.bool false] m) 4)).grownBy ((w0.alloc (.cells (madeCells #[.bool false] m) 4)).setCell ⟨w0.heap.size, 0, none⟩ (.bool true)) (some w0.heap.size) := (World.ownsRow.stored hrow 0 (.bool true)).2
  have hbl : Below w0.heap.size w0 ((w0.alloc (.cells (madeCells #[.bool false] m) 4)).setCell ⟨w0.heap.size, 0, none⟩ (.bool true)) :=
    below_of_grown ((Below.refl _ _).alloc (Nat.le_refl _) _) hgr (fun k hk => by obtain rfl := Option.some.inj hk; exact Nat.le_refl _)
  have hsz : ((w0.alloc (.cells (madeCells #[.bool false] m) 4)).setCell ⟨w0.heap.size, 0, none⟩ (.bool true)).heap.size = w0.heap.size + 1 := by simp
  generalize ((w0.alloc (.cells (madeCells #[.bool false] m) 4)).setCell ⟨w0.heap.size, 0, none⟩ (.bool true)) = w1 at *
  have hal : Below w1.heap.size w1 (w1.alloc (.cells #[.int .i64 0] 3)) := (Below.refl _ _).alloc (Nat.le_refl _) _
  refine ⟨⟨?_, Below.now hbl hal⟩, (hst.later hal).congr fun j _ => ?_, ?_⟩
  · rw [← hsz]
    exact owns_mono (World.ownsRow_lit w1 #[.int .i64 0] 1 (Nat.le_refl _) (by unfold maxLen; omega) rfl) (by omega)
  · by_cases e : j = 0
    · subst e; simp
    · rw [if_neg e]; simp [e]
  · simp [Value.ownBlock]
end Go.Proofs.YtngbimgabcacpaaGreat
