/-
  IdempotentsOf, of the program and of the reference.
-/
import Derived.Test.YtggfhephdcnpcaaGreatGrp34
import Derived.Test.YtggfhephdcnpcaaGreatGrp38
import Derived.Deep.RegionHeld3
namespace Go.Proofs.YtggfhephdcnpcaaGreat
open Go.RowKit
set_option linter.unusedVariables false
/-- the inverse of an element, or -1 -/
def invB (m : Nat) (ln : List Nat) (i k : Nat) : Bool := decide (tm m ln i k = 0) && decide (tm m ln k i = 0)
def invF (m : Nat) (ln : List Nat) (i : Nat) : Int := match (List.range m).find? (invB m ln i) with | some k => (k : Nat) | none => -1
theorem invB_un (m : Nat) (ln : List Nat) (i k : Nat) : invB m ln i k = !unB m ln i k := by simp [invB, unB]
theorem find_at {m : Nat} {p : Nat → Bool} {k : Nat} (hn : ∀ z, z < k → p z = false) (hk : k < m) (hp : p k = true) : (List.range m).find? p = some k := by
  rw [List.find?_eq_some_iff_getElem]
  refine ⟨hp, k, by simpa using hk, by simp, fun j hj => ?_⟩
  simp [hn j hj]
theorem invF_at {m : Nat} {ln : List Nat} {i k : Nat} (hn : ∀ z, z < k → invB m ln i z = false) (hk : k < m) (hp : invB m ln i k = true) : invF m ln i = (k : Nat) := by
  unfold invF; rw [find_at hn hk hp]
theorem invF_none {m : Nat} {ln : List Nat} {i k : Nat} (hn : ∀ z, z < k → invB m ln i z = false) (hk : ¬ k < m) : invF m ln i = -1 := by
  unfold invF
  have : (List.range m).find? (invB m ln i) = none := by
    rw [List.find?_eq_none]
    intro z hz
    have := hn z (by have := List.mem_range.1 hz; omega)
    simp [this]
  rw [this]
theorem invF_unit (m : Nat) (ln : List Nat) (i : Nat) : decide (0 ≤ invF m ln i) = isUnit m ln i := by
  unfold invF isUnit
  cases h : (List.range m).find? (invB m ln i)
  · rw [List.find?_eq_none] at h
    have : (List.range m).all (unB m ln i) = true := all_range.2 fun k hk => by
      have := h k (List.mem_range.2 hk)
      rw [invB_un] at this
      simpa using this
    rw [this]; rfl
  · rename_i k
    have h1 := List.find?_some h
    have h2 := List.mem_of_find?_eq_some h
    have : (List.range m).all (unB m ln i) = false := all_range_false (List.mem_range.1 h2) (by rw [invB_un] at h1; simpa using h1)
    rw [this]; simp
theorem invF_lt {m : Nat} {ln : List Nat} {i : Nat} : invF m ln i = -1 ∨ ∃ k : Nat, invF m ln i = (k : Nat) ∧ k < m ∧ invB m ln i k = true := by
  unfold invF
  cases h : (List.range m).find? (invB m ln i)
  · left; rfl
  · rename_i k
    right
    exact ⟨k, rfl, List.mem_range.1 (List.mem_of_find?_eq_some h), List.find?_some h⟩
theorem invB_of1 {m : Nat} {ln : List Nat} {i k : Nat} (h : (((tm m ln i k : Nat) : Int) == 0) = false) : invB m ln i k = false := by
  simp at h; simp [invB, h]
theorem invB_of2 {m : Nat} {ln : List Nat} {i k : Nat} (h : (((tm m ln i k : Nat) : Int) == 0) = true) {b : Bool} (h2 : (((tm m ln k i : Nat) : Int) == 0) = b) : invB m ln i k = b := by
  cases b <;> simp at h h2 <;> simp [invB, h, h2]
set_option maxHeartbeats 800000 in
theorem l08Inverse_any (m : Nat) (ln : List Nat) (a : Option Addr) (len cap i : Nat) (w : World) (hl : NatsIn w a ln) (hT : Tb m ln) (hlen : len = m * m) (hi : i < m) :
    Calls Tryz.prog 111 #[.agg #[.int .i64 m, .slice a len cap], .int .i64 i] w fun e w' => e = .returned (.int .i64 (invF m ln i)) ∧ Below w.heap.size w w' := by
  have HT := Lib.hid hT
  have HL := Lib.hid hlen
  have HN := Lib.hid hl
  have hm := hT.hi
  clear hl hT hlen
  go_enter Tryz.func111, Tryz.ntmps111
  go_wp2_with fail
  obtain ⟨w1, hw1⟩ : ∃ w1, w1 = w.alloc (.cells #[.int .i64 (m : Nat), .slice a len cap] 25) := ⟨_, rfl⟩
  have hb1 : Below w.heap.size w w1 := by rw [hw1]; exact (Below.refl _ _).alloc (Nat.le_refl _) _
  have hx0 : ∀ W, Below w1.heap.size w1 W → W.cell? ⟨w.heap.size, 0, none⟩ = some (.int .i64 (m : Nat)) := fun W hW => by rw [hW.cell (by rw [hw1]; simp), hw1]; simp
  have hx1 : ∀ W, Below w1.heap.size w1 W → W.cell? ⟨w.heap.size, 1, none⟩ = some (.slice a len cap) := fun W hW => by rw [hW.cell (by rw [hw1]; simp), hw1]; simp
  have HN1 : Hid (∀ W, Below w1.heap.size w1 W → NatsIn W a ln) := fun W hW => (HN.out.later hb1).later hW
  rw [← hw1]
  have HB := Lib.hid hb1
  have hb0 := Below.refl w1.heap.size w1
  clear hw1 hb1 HN
  go_loopw [5] (fun i' wr => ∃ k : Nat, k ≤ m ∧ i' = .int .i64 k ∧ Below w1.heap.size w1 wr ∧ ∀ z, z < k → invB m ln i z = false) (fun i' _ => m - (intOf i').toNat)
  case atStart => exact ⟨0, Nat.zero_le _, rfl, Below.refl _ _, fun _ h => absurd h (Nat.not_lt_zero _)⟩
  case round =>
    clear hb0
    obtain ⟨k, hk, rfl, hbw, hn⟩ := hrel
    have HR := Lib.hid hn
    clear hn
    by_cases hlt : k < m
    · go_wp2_with fail
      refine (specTimes_any m ln a _ _ i k _ (HN1.out _ hbw) HT.out HL.out hi hlt).mono ?_
      rintro e w2 ⟨rfl, hb2⟩
      replace hbw := Below.now hbw hb2
      clear hb2
      cases e1 : (((tm m ln i k : Nat) : Int) == 0)
      · have F := Lib.hid (noneZ_succ HR.out (invB_of1 e1))
        go_wp2_with fail
        go_roundw
        case rel => exact ⟨k + 1, by omega, by go_num, hbw, F.out⟩
        case measure => simp [intOf]; omega
      · go_wp2_with fail
        refine (specTimes_any m ln a _ _ k i _ (HN1.out _ hbw) HT.out HL.out hlt hi).mono ?_
        rintro e w3 ⟨rfl, hb2⟩
        replace hbw := Below.now hbw hb2
        clear hb2
        cases e2 : (((tm m ln k i : Nat) : Int) == 0)
        · have F := Lib.hid (noneZ_succ HR.out (invB_of2 e1 e2))
          go_wp2_with fail
          go_roundw
          case rel => exact ⟨k + 1, by omega, by go_num, hbw, F.out⟩
          case measure => simp [intOf]; omega
        · have F := Lib.hid (invF_at HR.out hlt (invB_of2 e1 e2))
          go_wp2_with fail
          go_ret
          exact ⟨ret_int F.out.symm, Below.now HB.out hbw⟩
    · have F := Lib.hid (invF_none HR.out hlt)
      go_wp2_with fail
      go_ret
      exact ⟨ret_int F.out.symm, Below.now HB.out hbw⟩
theorem thoseL_not {n : Int} {l : List Int} {p : Nat → Bool} (h : tabB n l = false) : thoseL n l p = [] := by unfold thoseL; rw [h]; rfl
theorem thoseL_yes {m : Nat} {l : List Int} {p : Nat → Bool} (h : tabB (m : Nat) l = true) : thoseL (m : Nat) l p = listTo p m := by unfold thoseL; rw [h]; rfl
theorem thoseL_len (n : Int) (l : List Int) (p : Nat → Bool) : (thoseL n l p).length ≤ 1000 := by
  cases h : tabB n l
  · rw [thoseL_not h]; simp
  · obtain ⟨m, ln, rfl, rfl, hT⟩ := tabOk_out h
    rw [thoseL_yes h]
    have := listTo_len p m
    have := hT.hi
    omega
theorem unitsOfF_len (n : Int) (l : List Int) : (unitsOfF n l).length ≤ 1000 := thoseL_len _ _ _
theorem regularOfF_len (n : Int) (l : List Int) : (regularOfF n l).length ≤ 1000 := thoseL_len _ _ _
set_option maxRecDepth 100000 in
set_option maxHeartbeats 1000000 in
theorem specUnitsOf_any (n : Int) (l : List Int) (a : Option Addr) (cap : Nat) (w : World) (hl : IntsIn w a l) (hlen : l.length ≤ 2 ^ 47) :
    Calls Tryz.prog 91 #[.agg #[.int .i64 n, .slice a l.length cap]] w (RetSl 3 1 (unitsOfF n l).length (intVals (unitsOfF n l)) w) := by
  have HI := Lib.hid hl
  clear hl
  cases ht : tabB n l
  · have F : Hid (∀ w', Below w.heap.size w w' → RetSl 3 1 (unitsOfF n l).length (intVals (unitsOfF n l)) w (.returned (.slice none 0 0)) w') := fun w' hb => by
      rw [show unitsOfF n l = [] from thoseL_not ht]; exact retSl_nil _ _ _ hb
    go_enter Tryz.func91, Tryz.ntmps91
    go_wp2_with fail
    refine (specTableOk_any n l a cap _ (HI.out.later ((Below.refl _ _).alloc (Nat.le_refl _) _)) hlen).mono ?_
    rintro e w2 ⟨rfl, hb2⟩
    have hbel := Below.now ((Below.refl w.heap.size w).alloc (Nat.le_refl _) _) hb2
    clear hb2
    go_wp2_with fail
    go_ret
    exact F.out _ hbel
  obtain ⟨m, ln, rfl, hlm, hT⟩ := tabOk_out ht
  have HT := Lib.hid hT.toTb
  have hm0 := hT.lo
  have hm1 := hT.hi
  have HLM := Lib.hid hlm
  have HTB := Lib.hid ht
  have HLL : Hid (l.length = m * m) := by rw [hlm, List.length_map]; exact hT.len
  clear hT hlm
  go_enter Tryz.func91, Tryz.ntmps91
  go_wp2_with fail
  refine (specTableOk_any _ l a cap _ (HI.out.later ((Below.refl _ _).alloc (Nat.le_refl _) _)) hlen).mono ?_
  rintro e w1 ⟨rfl, hb1⟩
  have hx0 := box_later hb1 (i := 0) (v := .int .i64 (m : Nat)) rfl
  have hx1 := box_later hb1 (i := 1) (v := .slice a l.length cap) rfl
  have HN1 : Hid (∀ W, Below w1.heap.size w1 W → NatsIn W a ln) := fun W hW => by
    unfold NatsIn
    rw [← HLM.out]
    exact (HI.out.later (Below.now ((Below.refl _ _).alloc (Nat.le_refl _) _) hb1)).later hW
  have hbel := Lib.hid (Below.now ((Below.refl w.heap.size w).alloc (Nat.le_refl _) _) hb1)
  have hb0 := Below.refl w1.heap.size w1
  clear hb1 HI
  go_wp2_with fail
  have HF : Hid (unitsOfF (m : Nat) l = listTo (isUnit m ln) m) := by unfold unitsOfF; rw [thoseL_yes HTB.out, HLM.out, map_toNat]; rfl
  have HS := Lib.hid (Bld.empty 3 1 w1)
  obtain ⟨w2, hw2⟩ : ∃ w2, w2 = w1.alloc (.cells #[] 3) := ⟨_, rfl⟩
  rw [← hw2] at HS
  rw [← hw2]
  clear hw2 hb0
  go_loopw [3, 4] (fun v i wr => ∃ c : Nat, c ≤ m ∧ i = .int .i64 c ∧ Bld 3 1 w1 wr v (listTo (isUnit m ln) c).length (intVals (listTo (isUnit m ln) c))) (fun _ i _ => m - (intOf i).toNat)
  case atStart => exact ⟨0, Nat.zero_le _, rfl, HS.out⟩
  case round =>
    clear HS
    obtain ⟨c, hcm, rfl, hbd⟩ := hrel
    have HB := Lib.hid hbd
    have hbw := hbd.2
    have hln := listTo_len (isUnit m ln) c
    clear hbd
    by_cases hlt : c < m
    · go_wp2_with fail
      refine (l08Inverse_any m ln a _ _ c _ (HN1.out _ hbw) HT.out HLL.out hlt).mono ?_
      rintro e w3 ⟨rfl, hb3⟩
      replace hbw := Below.now hbw hb3
      replace HB := Lib.hid (HB.out.later hb3)
      have hu := invF_unit m ln c
      clear hb3
      cases hq : isUnit m ln c
      · rw [hq] at hu
        have F := Lib.hid (listTo_no hq)
        go_wp2_with fail
        go_roundw
        case rel => exact ⟨c + 1, by omega, by go_num, by rw [F.out]; exact HB.out⟩
        case measure => simp [intOf]; omega
      · rw [hq] at hu
        have F := Lib.hid (listTo_yes hq)
        go_wp2_with (at_builtin; refine wpList_app1 rfl _ _ rfl Tryz.underlying23 Tryz.infoInt rfl (by decide) rfl HB.out rfl rfl ?c1 ?c2 ?c3 ?c4)
        case c1 => simp [Value.oneCell']
        case c2 => unfold maxLen; omega
        case c3 => omega
        intro v2 w4 hb2
        have F2 : Hid (Bld 3 1 w1 w4 v2 (listTo (isUnit m ln) (c + 1)).length (intVals (listTo (isUnit m ln) (c + 1)))) := by
          rw [F.out, List.length_append]; unfold intVals at *; rw [List.map_append]; exact hb2
        clear hb2
        go_wp2_with fail
        go_roundw
        case rel => exact ⟨c + 1, by omega, by go_num, F2.out⟩
        case measure => simp [intOf]; omega
    · obtain rfl : c = m := by omega
      have F : Hid (RetSl 3 1 (unitsOfF (c : Nat) l).length (intVals (unitsOfF (c : Nat) l)) w (.returned u3) wr) := by
        rw [HF.out]; exact (HB.out.since hbel.out).ret
      go_wp2_with fail
      go_ret
      exact F.out
/-- IsGroup as a function of plain data -/
def groupB (n : Int) (l : List Int) : Bool := tabB n l && decide ((((unitsOfF n l).length : Nat) : Int) = n)
theorem groupB_not {n : Int} {l : List Int} (h : tabB n l = false) : groupB n l = false := by simp [groupB, h]
theorem groupB_yes {n : Int} {l : List Int} (h : tabB n l = true) : groupB n l = ((((unitsOfF n l).length : Nat) : Int) == n) := by
  simp only [groupB, h, Bool.true_and]; rfl
set_option maxHeartbeats 1000000 in
theorem specIsGroup_any (n : Int) (l : List Int) (a : Option Addr) (cap : Nat) (w : World) (hl : IntsIn w a l) (hlen : l.length ≤ 2 ^ 47) :
    Calls Tryz.prog 62 #[.agg #[.int .i64 n, .slice a l.length cap]] w fun e w' => e = .returned (.bool (groupB n l)) ∧ Below w.heap.size w w' := by
  have HI := Lib.hid hl
  clear hl
  have HE : Hid (groupB n l = (tabB n l && ((((unitsOfF n l).length : Nat) : Int) == n))) := rfl
  go_enter Tryz.func62, Tryz.ntmps62
  go_wp2_with fail
  obtain ⟨w0, hw0⟩ : ∃ w0, w0 = w.alloc (.cells #[.int .i64 n, .slice a l.length cap] 25) := ⟨_, rfl⟩
  have HX : Hid (Below w.heap.size w w0) := by rw [hw0]; exact (Below.refl _ _).alloc (Nat.le_refl _) _
  have hx0 : ∀ W, Below w0.heap.size w0 W → W.cell? ⟨w.heap.size, 0, none⟩ = some (.int .i64 n) := fun W hW => by rw [hW.cell (by rw [hw0]; simp), hw0]; simp
  have hx1 : ∀ W, Below w0.heap.size w0 W → W.cell? ⟨w.heap.size, 1, none⟩ = some (.slice a l.length cap) := fun W hW => by rw [hW.cell (by rw [hw0]; simp), hw0]; simp
  rw [← hw0]
  clear hw0
  have z0 := hx0 _ (Below.refl _ _)
  have z1 := hx1 _ (Below.refl _ _)
  cases ht : tabB n l
  · have q0 : ∀ x, (wide w0 x).cell? ⟨w.heap.size, 0, none⟩ = some (.int .i64 n) := wide_cell z0
    have q1 : ∀ x, (wide w0 x).cell? ⟨w.heap.size, 1, none⟩ = some (.slice a l.length cap) := wide_cell z1
    clear hx0 hx1 z0 z1
    refine region_wide (by kernel_rfl) (by kernel_rfl) ?_
    repeat (quiet_step ((refine (specTableOk_any n l a cap _ ((HI.out.later HX.out).later (below_wide _ _)) hlen).mono ?_; rintro e w2 ⟨h2, hb2⟩; rw [ht] at h2; subst h2; exact ⟨rfl, wide_next hb2⟩)))
    refine wpQuiet_nil ?_
    rintro w4 ⟨x4, rfl⟩
    have hend := Below.now HX.out (below_wide w0 x4)
    clear q0 q1
    go_wp2_with fail
    go_ret
    exact ⟨ret_bool (by rw [HE.out, ht]; rfl), hend⟩
  · go_region_held3 (fun w' => w'.cell? ⟨w.heap.size, 0, none⟩ = some (.int .i64 n) ∧ w'.cell? ⟨w.heap.size, 1, none⟩ = some (.slice a l.length cap)) (go_keep) (first | (go_at_call 90; refine (specTableOk_any n l a cap _ (HI.out.later (by repeat (first | exact HX.out | refine Below.drew ?_))) hlen).mono ?_; rintro e w2 ⟨h2, hb2⟩; rw [ht] at h2; subst h2; have k2 : Below w0.heap.size w0 w2 := Below.now (by repeat (first | exact Below.refl _ _ | refine Below.drew ?_)) hb2; have y0 := hx0 _ k2; have y1 := hx1 _ k2; clear hb2) | (go_at_call 91; refine (specUnitsOf_any n l a cap _ (HI.out.later (Below.now HX.out k2)) hlen).mono ?_; rintro e w3 ⟨a3, c3, rfl, ho, hb3⟩; have k3 : Below w0.heap.size w0 w3 := Below.now k2 hb3; have u0 := hx0 _ k3; have u1 := hx1 _ k3; clear hb3 ho))
    all_goals
      have hend := Below.now HX.out k3
      clear hx0 hx1 z0 z1
      go_wp2_with fail
      go_ret
      exact ⟨ret_bool (by rw [HE.out, ht]; rfl), hend⟩
set_option maxHeartbeats 1000000 in
theorem implIsGroup_any (n : Int) (l : List Int) (a : Option Addr) (cap : Nat) (w : World) (hl : IntsIn w a l) (hlen : l.length ≤ 2 ^ 47) :
    Calls Tryz.prog 23 #[.agg #[.int .i64 n, .slice a l.length cap]] w fun e w' => e = .returned (.bool (groupB n l)) ∧ Below w.heap.size w w' := by
  have HI := Lib.hid hl
  clear hl
  have HE : Hid (groupB n l = (tabB n l && ((((unitsOfF n l).length : Nat) : Int) == n))) := rfl
  go_enter Tryz.func23, Tryz.ntmps23
  go_wp2_with fail
  obtain ⟨w0, hw0⟩ : ∃ w0, w0 = w.alloc (.cells #[.int .i64 n, .slice a l.length cap] 25) := ⟨_, rfl⟩
  have HX : Hid (Below w.heap.size w w0) := by rw [hw0]; exact (Below.refl _ _).alloc (Nat.le_refl _) _
  have hx0 : ∀ W, Below w0.heap.size w0 W → W.cell? ⟨w.heap.size, 0, none⟩ = some (.int .i64 n) := fun W hW => by rw [hW.cell (by rw [hw0]; simp), hw0]; simp
  have hx1 : ∀ W, Below w0.heap.size w0 W → W.cell? ⟨w.heap.size, 1, none⟩ = some (.slice a l.length cap) := fun W hW => by rw [hW.cell (by rw [hw0]; simp), hw0]; simp
  rw [← hw0]
  clear hw0
  have z0 := hx0 _ (Below.refl _ _)
  have z1 := hx1 _ (Below.refl _ _)
  cases ht : tabB n l
  · have q0 : ∀ x, (wide w0 x).cell? ⟨w.heap.size, 0, none⟩ = some (.int .i64 n) := wide_cell z0
    have q1 : ∀ x, (wide w0 x).cell? ⟨w.heap.size, 1, none⟩ = some (.slice a l.length cap) := wide_cell z1
    clear hx0 hx1 z0 z1
    refine region_wide (by kernel_rfl) (by kernel_rfl) ?_
    repeat (quiet_step ((refine (implTableOk_any n l a cap _ ((HI.out.later HX.out).later (below_wide _ _)) hlen).mono ?_; rintro e w2 ⟨h2, hb2⟩; rw [ht] at h2; subst h2; exact ⟨rfl, wide_next hb2⟩)))
    refine wpQuiet_nil ?_
    rintro w4 ⟨x4, rfl⟩
    have hend := Below.now HX.out (below_wide w0 x4)
    clear q0 q1
    go_wp2_with fail
    go_ret
    exact ⟨ret_bool (by rw [HE.out, ht]; rfl), hend⟩
  · go_region_held3 (fun w' => w'.cell? ⟨w.heap.size, 0, none⟩ = some (.int .i64 n) ∧ w'.cell? ⟨w.heap.size, 1, none⟩ = some (.slice a l.length cap)) (go_keep) (first | (go_at_call 39; refine (implTableOk_any n l a cap _ (HI.out.later (by repeat (first | exact HX.out | refine Below.drew ?_))) hlen).mono ?_; rintro e w2 ⟨h2, hb2⟩; rw [ht] at h2; subst h2; have k2 : Below w0.heap.size w0 w2 := Below.now (by repeat (first | exact Below.refl _ _ | refine Below.drew ?_)) hb2; have y0 := hx0 _ k2; have y1 := hx1 _ k2; clear hb2) | (go_at_call 22; refine (implUnitsOf_any n l a cap _ (HI.out.later (Below.now HX.out k2)) hlen).mono ?_; rintro e w3 ⟨a3, c3, rfl, ho, hb3⟩; have k3 : Below w0.heap.size w0 w3 := Below.now k2 hb3; have u0 := hx0 _ k3; have u1 := hx1 _ k3; clear hb3 ho))
    all_goals
      have hend := Below.now HX.out k3
      clear hx0 hx1 z0 z1
      go_wp2_with fail
      go_ret
      exact ⟨ret_bool (by rw [HE.out, ht]; rfl), hend⟩
end Go.Proofs.YtggfhephdcnpcaaGreat
namespace Go.Proofs.YtggfhephdcnpcaaGreat
open Go.RowKit
set_option linter.unusedVariables false
def idemB (m : Nat) (ln : List Nat) (i : Nat) : Bool := decide (tm m ln i i = i)
def idemF (n : Int) (l : List Int) : List Int := thoseL n l (idemB n.toNat (l.map Int.toNat))
theorem idemB_of {m : Nat} {ln : List Nat} {i : Nat} {b : Bool} (h : (((tm m ln i i : Nat) : Int) == ((i : Nat) : Int)) = b) : idemB m ln i = b := by
  cases b <;> simp at h <;> simp [idemB] <;> omega
set_option maxHeartbeats 800000 in
theorem idem_pred (m : Nat) (ln : List Nat) (a : Option Addr) (len cap bt : Nat) (w : World) (hx0 : w.cell? ⟨bt, 0, none⟩ = some (.int .i64 m)) (hx1 : w.cell? ⟨bt, 1, none⟩ = some (.slice a len cap))
    (hn : NatsIn w a ln) (hT : Tb m ln) (hlen : len = m * m) :
    PredEl w.heap.size 57 #[.pointer (some ⟨bt, 0, none⟩)] (idemB m ln) m w := by
  intro z hz W hW
  have k0 : W.cell? ⟨bt, 0, none⟩ = some (.int .i64 m) := by rw [hW.cell (World.block_lt_of_cell? w _ hx0)]; exact hx0
  have k1 : W.cell? ⟨bt, 1, none⟩ = some (.slice a len cap) := by rw [hW.cell (World.block_lt_of_cell? w _ hx1)]; exact hx1
  have HN := Lib.hid (hn.later hW)
  have HT := Lib.hid hT
  have HL := Lib.hid hlen
  clear hx0 hx1 hn hT hlen hW
  go_enter Tryz.func57, Tryz.ntmps57
  go_wp2_with fail
  refine (implTimes_any m ln a _ _ z z _ HN.out HT.out HL.out hz hz).mono ?_
  rintro e w2 ⟨rfl, hb2⟩
  cases e1 : (((tm m ln z z : Nat) : Int) == ((z : Nat) : Int))
  · have F := Lib.hid (idemB_of e1)
    go_wp2_with fail
    go_ret
    exact ⟨ret_bool F.out.symm, hb2⟩
  · have F := Lib.hid (idemB_of e1)
    go_wp2_with fail
    go_ret
    exact ⟨ret_bool F.out.symm, hb2⟩
set_option maxHeartbeats 800000 in
theorem implIdempotentsOf_any (n : Int) (l : List Int) (a : Option Addr) (cap : Nat) (w : World) (hl : IntsIn w a l) (hlen : l.length ≤ 2 ^ 47) :
    Calls Tryz.prog 18 #[.agg #[.int .i64 n, .slice a l.length cap]] w (RetSl 3 1 (idemF n l).length (intVals (idemF n l)) w) := by
  have HL := Lib.hid hl
  clear hl
  go_enter Tryz.func18, Tryz.ntmps18
  go_wp2_with fail
  have hbel : Below w.heap.size w (w.alloc (.cells #[.int .i64 n, .slice a l.length cap] 25)) := (Below.refl _ _).alloc (Nat.le_refl _) _
  refine (those_any n l a cap _ (HL.out.later hbel) hlen _ _ _ (idemB n.toNat (l.map Int.toNat)) (Nat.le_refl _) ?_ (enters_of Tryz.func57 (by kernel_rfl) rfl)).mono ?_
  · intro ht
    obtain ⟨m, ln, rfl, rfl, hT⟩ := tabOk_out ht
    rw [map_toNat]
    exact idem_pred m ln a (ln.map Int.ofNat).length cap w.heap.size _ (by simp) (by simp) (HL.out.later hbel) hT.toTb (by rw [List.length_map]; exact hT.len)
  rintro e w2 ⟨a2, c2, rfl, ho, hb2⟩
  have F : Hid (RetSl 3 1 (idemF n l).length (intVals (idemF n l)) w (.returned (.slice a2 (idemF n l).length c2)) w2) := ⟨_, _, rfl, owns_mono ho (by simp), Below.now hbel hb2⟩
  have HE : Hid (thoseL n l (idemB n.toNat (l.map Int.toNat)) = idemF n l) := rfl
  rw [HE.out]
  clear ho hb2 hbel HE
  go_wp2_with fail
  go_ret
  exact F.out
end Go.Proofs.YtggfhephdcnpcaaGreat
