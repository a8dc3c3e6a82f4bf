/-
  MonoidLine of the reference.
-/
import Derived.Test.YtggfhephdcnpcaaGreatDoorGrp36
import Derived.Test.YtggfhephdcnpcaaGreatDoorGrp39
import Derived.Deep.RegionHeld3
import Derived.Test.YtggfhephdcnpcaaGreatDoorGrp34
import Derived.Test.YtggfhephdcnpcaaGreatDoorGrp15
namespace Go.Proofs.YtggfhephdcnpcaaGreatDoor
open Go.RowKit
set_option linter.unusedVariables false
/-- the inverse of an element, or -1 -/
def invB (m : Nat) (ln : List Nat) (i k : Nat) : Bool := decide (tm m ln i k = 0) && decide (tm m ln k i = 0)
def invF (m : Nat) (ln : List Nat) (i : Nat) : Int := match (List.range m).find? (invB m ln i) with | some k => (k : Nat) | none => -1
theorem invB_un (m : Nat) (ln : List Nat) (i k : Nat) : invB m ln i k = !unB m ln i k := by simp [invB, unB]
theorem find_at {m : Nat} {p : Nat → Bool} {k : Nat} (hn : ∀ z, z < k → p z = false) (hk : k < m) (hp : p k = true) : (List.range m).find? p = some k := by
  rw [List.find?_eq_some_iff_getElem]
  refine ⟨hp, k, by simpa using hk, by simp, fun j hj => ?_⟩
  simp [hn j hj]
theorem invF_at {m : Nat} {ln : List Nat} {i k : Nat} (hn : ∀ z, z < k → invB m ln i z = false) (hk : k < m) (hp : invB m ln i k = true) : invF m ln i = (k : Nat) := by
  unfold invF; rw [find_at hn hk hp]
theorem invF_none {m : Nat} {ln : List Nat} {i k : Nat} (hn : ∀ z, z < k → invB m ln i z = false) (hk : ¬ k < m) : invF m ln i = -1 := by
  unfold invF
  have : (List.range m).find? (invB m ln i) = none := by
    rw [List.find?_eq_none]
    intro z hz
    have := hn z (by have := List.mem_range.1 hz; omega)
    simp [this]
  rw [this]
theorem invF_unit (m : Nat) (ln : List Nat) (i : Nat) : decide (0 ≤ invF m ln i) = isUnit m ln i := by
  unfold invF isUnit
  cases h : (List.range m).find? (invB m ln i)
  · rw [List.find?_eq_none] at h
    have : (List.range m).all (unB m ln i) = true := all_range.2 fun k hk => by
      have := h k (List.mem_range.2 hk)
      rw [invB_un] at this
      simpa using this
    rw [this]; rfl
  · rename_i k
    have h1 := List.find?_some h
    have h2 := List.mem_of_find?_eq_some h
    have : (List.range m).all (unB m ln i) = false := all_range_false (List.mem_range.1 h2) (by rw [invB_un] at h1; simpa using h1)
    rw [this]; simp
theorem invF_lt {m : Nat} {ln : List Nat} {i : Nat} : invF m ln i = -1 ∨ ∃ k : Nat, invF m ln i = (k : Nat) ∧ k < m ∧ invB m ln i k = true := by
  unfold invF
  cases h : (List.range m).find? (invB m ln i)
  · left; rfl
  · rename_i k
    right
    exact ⟨k, rfl, List.mem_range.1 (List.mem_of_find?_eq_some h), List.find?_some h⟩
theorem invB_of1 {m : Nat} {ln : List Nat} {i k : Nat} (h : (((tm m ln i k : Nat) : Int) == 0) = false) : invB m ln i k = false := by
  simp at h; simp [invB, h]
theorem invB_of2 {m : Nat} {ln : List Nat} {i k : Nat} (h : (((tm m ln i k : Nat) : Int) == 0) = true) {b : Bool} (h2 : (((tm m ln k i : Nat) : Int) == 0) = b) : invB m ln i k = b := by
  cases b <;> simp at h h2 <;> simp [invB, h, h2]
set_option maxHeartbeats 800000 in
theorem l08Inverse_any (m : Nat) (ln : List Nat) (a : Option Addr) (len cap i : Nat) (w : World) (hl : NatsIn w a ln) (hT : Tb m ln) (hlen : len = m * m) (hi : i < m) :
    Calls Tryz.prog 102 #[.agg #[.int .i64 m, .slice a len cap], .int .i64 i] w fun e w' => e = .returned (.int .i64 (invF m ln i)) ∧ Below w.heap.size w w' := by
  have HT := Lib.hid hT
  have HL := Lib.hid hlen
  have HN := Lib.hid hl
  have hm := hT.hi
  clear hl hT hlen
  go_enter Tryz.func102, Tryz.ntmps102
  go_wp2_with fail
  obtain ⟨w1, hw1⟩ : ∃ w1, w1 = w.alloc (.cells #[.int .i64 (m : Nat), .slice a len cap] 38) := ⟨_, rfl⟩
  have hb1 : Below w.heap.size w w1 := by rw [hw1]; exact (Below.refl _ _).alloc (Nat.le_refl _) _
  have hx0 : ∀ W, Below w1.heap.size w1 W → W.cell? ⟨w.heap.size, 0, none⟩ = some (.int .i64 (m : Nat)) := fun W hW => by rw [hW.cell (by rw [hw1]; simp), hw1]; simp
  have hx1 : ∀ W, Below w1.heap.size w1 W → W.cell? ⟨w.heap.size, 1, none⟩ = some (.slice a len cap) := fun W hW => by rw [hW.cell (by rw [hw1]; simp), hw1]; simp
  have HN1 : Hid (∀ W, Below w1.heap.size w1 W → NatsIn W a ln) := fun W hW => (HN.out.later hb1).later hW
  rw [← hw1]
  have HB := Lib.hid hb1
  have hb0 := Below.refl w1.heap.size w1
  clear hw1 hb1 HN
  go_loopw [5] (fun i' wr => ∃ k : Nat, k ≤ m ∧ i' = .int .i64 k ∧ Below w1.heap.size w1 wr ∧ ∀ z, z < k → invB m ln i z = false) (fun i' _ => m - (intOf i').toNat)
  case atStart => exact ⟨0, Nat.zero_le _, rfl, Below.refl _ _, fun _ h => absurd h (Nat.not_lt_zero _)⟩
  case round =>
    clear hb0
    obtain ⟨k, hk, rfl, hbw, hn⟩ := hrel
    have HR := Lib.hid hn
    clear hn
    by_cases hlt : k < m
    · go_wp2_with fail
      refine (specTimes_any m ln a _ _ i k _ (HN1.out _ hbw) HT.out HL.out hi hlt).mono ?_
      rintro e w2 ⟨rfl, hb2⟩
      replace hbw := Below.now hbw hb2
      clear hb2
      cases e1 : (((tm m ln i k : Nat) : Int) == 0)
      · have F := Lib.hid (noneZ_succ HR.out (invB_of1 e1))
        go_wp2_with fail
        go_roundw
        case rel => exact ⟨k + 1, by omega, by go_num, hbw, F.out⟩
        case measure => simp [intOf]; omega
      · go_wp2_with fail
        refine (specTimes_any m ln a _ _ k i _ (HN1.out _ hbw) HT.out HL.out hlt hi).mono ?_
        rintro e w3 ⟨rfl, hb2⟩
        replace hbw := Below.now hbw hb2
        clear hb2
        cases e2 : (((tm m ln k i : Nat) : Int) == 0)
        · have F := Lib.hid (noneZ_succ HR.out (invB_of2 e1 e2))
          go_wp2_with fail
          go_roundw
          case rel => exact ⟨k + 1, by omega, by go_num, hbw, F.out⟩
          case measure => simp [intOf]; omega
        · have F := Lib.hid (invF_at HR.out hlt (invB_of2 e1 e2))
          go_wp2_with fail
          go_ret
          exact ⟨ret_int F.out.symm, Below.now HB.out hbw⟩
    · have F := Lib.hid (invF_none HR.out hlt)
      go_wp2_with fail
      go_ret
      exact ⟨ret_int F.out.symm, Below.now HB.out hbw⟩
theorem thoseL_not {n : Int} {l : List Int} {p : Nat → Bool} (h : tabB n l = false) : thoseL n l p = [] := by unfold thoseL; rw [h]; rfl
theorem thoseL_yes {m : Nat} {l : List Int} {p : Nat → Bool} (h : tabB (m : Nat) l = true) : thoseL (m : Nat) l p = listTo p m := by unfold thoseL; rw [h]; rfl
theorem thoseL_len (n : Int) (l : List Int) (p : Nat → Bool) : (thoseL n l p).length ≤ 1000 := by
  cases h : tabB n l
  · rw [thoseL_not h]; simp
  · obtain ⟨m, ln, rfl, rfl, hT⟩ := tabOk_out h
    rw [thoseL_yes h]
    have := listTo_len p m
    have := hT.hi
    omega
theorem unitsOfF_len (n : Int) (l : List Int) : (unitsOfF n l).length ≤ 1000 := thoseL_len _ _ _
theorem regularOfF_len (n : Int) (l : List Int) : (regularOfF n l).length ≤ 1000 := thoseL_len _ _ _
set_option maxRecDepth 100000 in
set_option maxHeartbeats 1000000 in
theorem specUnitsOf_any (n : Int) (l : List Int) (a : Option Addr) (cap : Nat) (w : World) (hl : IntsIn w a l) (hlen : l.length ≤ 2 ^ 47) :
    Calls Tryz.prog 53 #[.agg #[.int .i64 n, .slice a l.length cap]] w (RetSl 3 1 (unitsOfF n l).length (intVals (unitsOfF n l)) w) := by
  have HI := Lib.hid hl
  clear hl
  cases ht : tabB n l
  · have F : Hid (∀ w', Below w.heap.size w w' → RetSl 3 1 (unitsOfF n l).length (intVals (unitsOfF n l)) w (.returned (.slice none 0 0)) w') := fun w' hb => by
      rw [show unitsOfF n l = [] from thoseL_not ht]; exact retSl_nil _ _ _ hb
    go_enter Tryz.func53, Tryz.ntmps53
    go_wp2_with fail
    refine (specTableOk_any n l a cap _ (HI.out.later ((Below.refl _ _).alloc (Nat.le_refl _) _)) hlen).mono ?_
    rintro e w2 ⟨rfl, hb2⟩
    have hbel := Below.now ((Below.refl w.heap.size w).alloc (Nat.le_refl _) _) hb2
    clear hb2
    go_wp2_with fail
    go_ret
    exact F.out _ hbel
  obtain ⟨m, ln, rfl, hlm, hT⟩ := tabOk_out ht
  have HT := Lib.hid hT.toTb
  have hm0 := hT.lo
  have hm1 := hT.hi
  have HLM := Lib.hid hlm
  have HTB := Lib.hid ht
  have HLL : Hid (l.length = m * m) := by rw [hlm, List.length_map]; exact hT.len
  clear hT hlm
  go_enter Tryz.func53, Tryz.ntmps53
  go_wp2_with fail
  refine (specTableOk_any _ l a cap _ (HI.out.later ((Below.refl _ _).alloc (Nat.le_refl _) _)) hlen).mono ?_
  rintro e w1 ⟨rfl, hb1⟩
  have hx0 := box_later hb1 (i := 0) (v := .int .i64 (m : Nat)) rfl
  have hx1 := box_later hb1 (i := 1) (v := .slice a l.length cap) rfl
  have HN1 : Hid (∀ W, Below w1.heap.size w1 W → NatsIn W a ln) := fun W hW => by
    unfold NatsIn
    rw [← HLM.out]
    exact (HI.out.later (Below.now ((Below.refl _ _).alloc (Nat.le_refl _) _) hb1)).later hW
  have hbel := Lib.hid (Below.now ((Below.refl w.heap.size w).alloc (Nat.le_refl _) _) hb1)
  have hb0 := Below.refl w1.heap.size w1
  clear hb1 HI
  go_wp2_with fail
  have HF : Hid (unitsOfF (m : Nat) l = listTo (isUnit m ln) m) := by unfold unitsOfF; rw [thoseL_yes HTB.out, HLM.out, map_toNat]; rfl
  have HS := Lib.hid (Bld.empty 3 1 w1)
  obtain ⟨w2, hw2⟩ : ∃ w2, w2 = w1.alloc (.cells #[] 3) := ⟨_, rfl⟩
  rw [← hw2] at HS
  rw [← hw2]
  clear hw2 hb0
  go_loopw [3, 4] (fun v i wr => ∃ c : Nat, c ≤ m ∧ i = .int .i64 c ∧ Bld 3 1 w1 wr v (listTo (isUnit m ln) c).length (intVals (listTo (isUnit m ln) c))) (fun _ i _ => m - (intOf i).toNat)
  case atStart => exact ⟨0, Nat.zero_le _, rfl, HS.out⟩
  case round =>
    clear HS
    obtain ⟨c, hcm, rfl, hbd⟩ := hrel
    have HB := Lib.hid hbd
    have hbw := hbd.2
    have hln := listTo_len (isUnit m ln) c
    clear hbd
    by_cases hlt : c < m
    · go_wp2_with fail
      refine (l08Inverse_any m ln a _ _ c _ (HN1.out _ hbw) HT.out HLL.out hlt).mono ?_
      rintro e w3 ⟨rfl, hb3⟩
      replace hbw := Below.now hbw hb3
      replace HB := Lib.hid (HB.out.later hb3)
      have hu := invF_unit m ln c
      clear hb3
      cases hq : isUnit m ln c
      · rw [hq] at hu
        have F := Lib.hid (listTo_no hq)
        go_wp2_with fail
        go_roundw
        case rel => exact ⟨c + 1, by omega, by go_num, by rw [F.out]; exact HB.out⟩
        case measure => simp [intOf]; omega
      · rw [hq] at hu
        have F := Lib.hid (listTo_yes hq)
        go_wp2_with (at_builtin; refine wpList_app1 rfl _ _ rfl Tryz.underlying33 Tryz.infoInt rfl (by decide) rfl HB.out rfl rfl ?c1 ?c2 ?c3 ?c4)
        case c1 => simp [Value.oneCell']
        case c2 => unfold maxLen; omega
        case c3 => omega
        intro v2 w4 hb2
        have F2 : Hid (Bld 3 1 w1 w4 v2 (listTo (isUnit m ln) (c + 1)).length (intVals (listTo (isUnit m ln) (c + 1)))) := by
          rw [F.out, List.length_append]; unfold intVals at *; rw [List.map_append]; exact hb2
        clear hb2
        go_wp2_with fail
        go_roundw
        case rel => exact ⟨c + 1, by omega, by go_num, F2.out⟩
        case measure => simp [intOf]; omega
    · obtain rfl : c = m := by omega
      have F : Hid (RetSl 3 1 (unitsOfF (c : Nat) l).length (intVals (unitsOfF (c : Nat) l)) w (.returned u3) wr) := by
        rw [HF.out]; exact (HB.out.since hbel.out).ret
      go_wp2_with fail
      go_ret
      exact F.out
/-- IsGroup as a function of plain data -/
def groupB (n : Int) (l : List Int) : Bool := tabB n l && decide ((((unitsOfF n l).length : Nat) : Int) = n)
theorem groupB_not {n : Int} {l : List Int} (h : tabB n l = false) : groupB n l = false := by simp [groupB, h]
theorem groupB_yes {n : Int} {l : List Int} (h : tabB n l = true) : groupB n l = ((((unitsOfF n l).length : Nat) : Int) == n) := by
  simp only [groupB, h, Bool.true_and]; rfl
end Go.Proofs.YtggfhephdcnpcaaGreatDoor
namespace Go.Proofs.YtggfhephdcnpcaaGreatDoor
open Go.RowKit
set_option linter.unusedVariables false
def idemB (m : Nat) (ln : List Nat) (i : Nat) : Bool := decide (tm m ln i i = i)
def idemF (n : Int) (l : List Int) : List Int := thoseL n l (idemB n.toNat (l.map Int.toNat))
theorem idemB_of {m : Nat} {ln : List Nat} {i : Nat} {b : Bool} (h : (((tm m ln i i : Nat) : Int) == ((i : Nat) : Int)) = b) : idemB m ln i = b := by
  cases b <;> simp at h <;> simp [idemB] <;> omega
set_option maxHeartbeats 800000 in
theorem idem_pred (m : Nat) (ln : List Nat) (a : Option Addr) (len cap bt : Nat) (w : World) (hx0 : w.cell? ⟨bt, 0, none⟩ = some (.int .i64 m)) (hx1 : w.cell? ⟨bt, 1, none⟩ = some (.slice a len cap))
    (hn : NatsIn w a ln) (hT : Tb m ln) (hlen : len = m * m) :
    PredEl w.heap.size 109 #[.pointer (some ⟨bt, 0, none⟩)] (idemB m ln) m w := by
  intro z hz W hW
  have k0 : W.cell? ⟨bt, 0, none⟩ = some (.int .i64 m) := by rw [hW.cell (World.block_lt_of_cell? w _ hx0)]; exact hx0
  have k1 : W.cell? ⟨bt, 1, none⟩ = some (.slice a len cap) := by rw [hW.cell (World.block_lt_of_cell? w _ hx1)]; exact hx1
  have HN := Lib.hid (hn.later hW)
  have HT := Lib.hid hT
  have HL := Lib.hid hlen
  clear hx0 hx1 hn hT hlen hW
  go_enter Tryz.func109, Tryz.ntmps109
  go_wp2_with fail
  refine (implTimes_any m ln a _ _ z z _ HN.out HT.out HL.out hz hz).mono ?_
  rintro e w2 ⟨rfl, hb2⟩
  cases e1 : (((tm m ln z z : Nat) : Int) == ((z : Nat) : Int))
  · have F := Lib.hid (idemB_of e1)
    go_wp2_with fail
    go_ret
    exact ⟨ret_bool F.out.symm, hb2⟩
  · have F := Lib.hid (idemB_of e1)
    go_wp2_with fail
    go_ret
    exact ⟨ret_bool F.out.symm, hb2⟩
set_option maxHeartbeats 800000 in
theorem implIdempotentsOf_any (n : Int) (l : List Int) (a : Option Addr) (cap : Nat) (w : World) (hl : IntsIn w a l) (hlen : l.length ≤ 2 ^ 47) :
    Calls Tryz.prog 57 #[.agg #[.int .i64 n, .slice a l.length cap]] w (RetSl 3 1 (idemF n l).length (intVals (idemF n l)) w) := by
  have HL := Lib.hid hl
  clear hl
  go_enter Tryz.func57, Tryz.ntmps57
  go_wp2_with fail
  have hbel : Below w.heap.size w (w.alloc (.cells #[.int .i64 n, .slice a l.length cap] 38)) := (Below.refl _ _).alloc (Nat.le_refl _) _
  refine (those_any n l a cap _ (HL.out.later hbel) hlen _ _ _ (idemB n.toNat (l.map Int.toNat)) (Nat.le_refl _) ?_ (enters_of Tryz.func109 (by kernel_rfl) rfl)).mono ?_
  · intro ht
    obtain ⟨m, ln, rfl, rfl, hT⟩ := tabOk_out ht
    rw [map_toNat]
    exact idem_pred m ln a (ln.map Int.ofNat).length cap w.heap.size _ (by simp) (by simp) (HL.out.later hbel) hT.toTb (by rw [List.length_map]; exact hT.len)
  rintro e w2 ⟨a2, c2, rfl, ho, hb2⟩
  have F : Hid (RetSl 3 1 (idemF n l).length (intVals (idemF n l)) w (.returned (.slice a2 (idemF n l).length c2)) w2) := ⟨_, _, rfl, owns_mono ho (by simp), Below.now hbel hb2⟩
  have HE : Hid (thoseL n l (idemB n.toNat (l.map Int.toNat)) = idemF n l) := rfl
  rw [HE.out]
  clear ho hb2 hbel HE
  go_wp2_with fail
  go_ret
  exact F.out
set_option maxRecDepth 100000 in
set_option maxHeartbeats 1000000 in
theorem specIdempotentsOf_any (n : Int) (l : List Int) (a : Option Addr) (cap : Nat) (w : World) (hl : IntsIn w a l) (hlen : l.length ≤ 2 ^ 47) :
    Calls Tryz.prog 52 #[.agg #[.int .i64 n, .slice a l.length cap]] w (RetSl 3 1 (idemF n l).length (intVals (idemF n l)) w) := by
  have HI := Lib.hid hl
  clear hl
  cases ht : tabB n l
  · have F : Hid (∀ w', Below w.heap.size w w' → RetSl 3 1 (idemF n l).length (intVals (idemF n l)) w (.returned (.slice none 0 0)) w') := fun w' hb => by
      rw [show idemF n l = [] from thoseL_not ht]; exact retSl_nil _ _ _ hb
    go_enter Tryz.func52, Tryz.ntmps52
    go_wp2_with fail
    refine (specTableOk_any n l a cap _ (HI.out.later ((Below.refl _ _).alloc (Nat.le_refl _) _)) hlen).mono ?_
    rintro e w2 ⟨rfl, hb2⟩
    have hbel := Below.now ((Below.refl w.heap.size w).alloc (Nat.le_refl _) _) hb2
    clear hb2
    go_wp2_with fail
    go_ret
    exact F.out _ hbel
  obtain ⟨m, ln, rfl, hlm, hT⟩ := tabOk_out ht
  have HT := Lib.hid hT.toTb
  have hm0 := hT.lo
  have hm1 := hT.hi
  have HLM := Lib.hid hlm
  have HTB := Lib.hid ht
  have HLL : Hid (l.length = m * m) := by rw [hlm, List.length_map]; exact hT.len
  clear hT hlm
  go_enter Tryz.func52, Tryz.ntmps52
  go_wp2_with fail
  refine (specTableOk_any _ l a cap _ (HI.out.later ((Below.refl _ _).alloc (Nat.le_refl _) _)) hlen).mono ?_
  rintro e w1 ⟨rfl, hb1⟩
  have hx0 := box_later hb1 (i := 0) (v := .int .i64 (m : Nat)) rfl
  have hx1 := box_later hb1 (i := 1) (v := .slice a l.length cap) rfl
  have HN1 : Hid (∀ W, Below w1.heap.size w1 W → NatsIn W a ln) := fun W hW => by
    unfold NatsIn
    rw [← HLM.out]
    exact (HI.out.later (Below.now ((Below.refl _ _).alloc (Nat.le_refl _) _) hb1)).later hW
  have hbel := Lib.hid (Below.now ((Below.refl w.heap.size w).alloc (Nat.le_refl _) _) hb1)
  have hb0 := Below.refl w1.heap.size w1
  clear hb1 HI
  go_wp2_with fail
  have HF : Hid (idemF (m : Nat) l = listTo (idemB m ln) m) := by unfold idemF; rw [thoseL_yes HTB.out, HLM.out, map_toNat]; rfl
  have HS := Lib.hid (Bld.empty 3 1 w1)
  obtain ⟨w2, hw2⟩ : ∃ w2, w2 = w1.alloc (.cells #[] 3) := ⟨_, rfl⟩
  rw [← hw2] at HS
  rw [← hw2]
  clear hw2 hb0
  go_loopw [3, 4] (fun v i wr => ∃ c : Nat, c ≤ m ∧ i = .int .i64 c ∧ Bld 3 1 w1 wr v (listTo (idemB m ln) c).length (intVals (listTo (idemB m ln) c))) (fun _ i _ => m - (intOf i).toNat)
  case atStart => exact ⟨0, Nat.zero_le _, rfl, HS.out⟩
  case round =>
    clear HS
    obtain ⟨c, hcm, rfl, hbd⟩ := hrel
    have HB := Lib.hid hbd
    have hbw := hbd.2
    have hln := listTo_len (idemB m ln) c
    clear hbd
    by_cases hlt : c < m
    · go_wp2_with fail
      refine (specTimes_any m ln a _ _ c c _ (HN1.out _ hbw) HT.out HLL.out hlt hlt).mono ?_
      rintro e w3 ⟨rfl, hb3⟩
      replace hbw := Below.now hbw hb3
      replace HB := Lib.hid (HB.out.later hb3)
      have HQ := Lib.hid (fun b h => idemB_of (m := m) (ln := ln) (i := c) (b := b) h)
      clear hb3
      cases hq : (((tm m ln c c : Nat) : Int) == ((c : Nat) : Int))
      · have F := Lib.hid (listTo_no (HQ.out _ hq))
        go_wp2_with fail
        go_roundw
        case rel => exact ⟨c + 1, by omega, by go_num, by rw [F.out]; exact HB.out⟩
        case measure => simp [intOf]; omega
      · have F := Lib.hid (listTo_yes (HQ.out _ hq))
        go_wp2_with (at_builtin; refine wpList_app1 rfl _ _ rfl Tryz.underlying33 Tryz.infoInt rfl (by decide) rfl HB.out rfl rfl ?c1 ?c2 ?c3 ?c4)
        case c1 => simp [Value.oneCell']
        case c2 => unfold maxLen; omega
        case c3 => omega
        intro v2 w4 hb2
        have F2 : Hid (Bld 3 1 w1 w4 v2 (listTo (idemB m ln) (c + 1)).length (intVals (listTo (idemB m ln) (c + 1)))) := by
          rw [F.out, List.length_append]; unfold intVals at *; rw [List.map_append]; exact hb2
        clear hb2
        go_wp2_with fail
        go_roundw
        case rel => exact ⟨c + 1, by omega, by go_num, F2.out⟩
        case measure => simp [intOf]; omega
    · obtain rfl : c = m := by omega
      have F := Lib.hid ((HB.out.since hbel.out).ret)
      rw [← HF.out] at F
      rw [← HF.out] at hln
      go_wp2_with fail
      go_ret
      exact F.out
end Go.Proofs.YtggfhephdcnpcaaGreatDoor
namespace Go.Proofs.YtggfhephdcnpcaaGreatDoor
open Go.RowKit
set_option linter.unusedVariables false
/-- the line of a monoid: the numerals a, b, c, d of its numbers -/
def monLineF (a b c d : ByteArray) : ByteArray := ⟨#[101, 108, 101, 109, 101, 110, 116, 115, 32]⟩ ++ a ++ ⟨#[32, 105, 100, 101, 109, 112, 111, 116, 101, 110, 116, 115, 32]⟩ ++ b ++ ⟨#[32, 117, 110, 105, 116, 115, 32]⟩ ++ c ++ ⟨#[32, 99, 108, 97, 115, 115, 101, 115, 32]⟩ ++ d
def monOf (L : List ByteArray) (P : List Int) : ByteArray := monLineF (numB (L.length : Int)) (numB ((idemF (L.length : Int) P).length : Int)) (numB ((unitsOfF (L.length : Int) P).length : Int)) (numB (cntF (clzF (L.length : Int) P 3)))
/-- what MonoidLine is -/
def MlIs (k : Int) (R : List RulD) (v : ByteArray) : Prop := (¬ GoM k R ∧ v = ⟨#[110, 111, 110, 101]⟩) ∨ (GoM k R ∧ ∃ L P, MonIs k R L P true ∧ v = monOf L P)
theorem MlIs.uniq {k : Int} {R : List RulD} {v v' : ByteArray} (a : MlIs k R v) (b : MlIs k R v') : v = v' := by
  rcases a with ⟨a1, a2⟩ | ⟨a1, L, P, a2, a3⟩ <;> rcases b with ⟨b1, b2⟩ | ⟨b1, L', P', b2, b3⟩
  · rw [a2, b2]
  · exact absurd b1 a1
  · exact absurd a1 b1
  · obtain ⟨rfl, rfl, _⟩ := a2.uniq b2
    rw [a3, b3]
def RetML (k : Int) (R : List RulD) (w : World) (e : Ending) (w' : World) : Prop := ∃ v, MlIs k R v ∧ e = .returned (.string v) ∧ Below w.heap.size w w'
theorem MonIs.go {k : Int} {R : List RulD} {L : List ByteArray} {P : List Int} (h : MonIs k R L P true) : GoM k R := by
  rcases h with ⟨_, _, _, h⟩ | ⟨h, _⟩
  · cases h
  · exact h
theorem MonIs.not {k : Int} {R : List RulD} {L : List ByteArray} {P : List Int} (h : MonIs k R L P false) : ¬ GoM k R := by
  rcases h with ⟨h, _⟩ | ⟨_, _, _, h⟩
  · exact h
  · cases h
theorem mon_sizes (n : Int) (P : List Int) : (idemF n P).length ≤ 1000 ∧ (unitsOfF n P).length ≤ 1000 ∧ 0 ≤ cntF (clzF n P 3) ∧ cntF (clzF n P 3) ≤ 40 :=
  ⟨thoseL_len _ _ _, thoseL_len _ _ _, cntF_few (l := clzF n P 3) (n := 40) (fun x hx => (clzF_small hx).2)⟩
set_option maxRecDepth 100000 in
set_option maxHeartbeats 4000000 in
theorem specMonoidLine_any (k : Int) (R : List RulD) (a : Option Addr) (cap : Nat) (w : World) (hl : RulesIn w a R) (hlen : R.length ≤ 2 ^ 40) (hz : SzR R) :
    Calls Tryz.prog 10 #[.agg #[.int .i64 k, .slice a R.length cap]] w (RetML k R w) := by
  have HMO := Lib.hid (fun W h => specMonoidOf_any k R a cap W h hlen hz)
  have HW1 := Lib.hid (alloc_belowS w (.cells #[.int .i64 k, .slice a R.length cap] 29))
  have HL := Lib.hid (hl.later HW1.out)
  clear hl hz
  go_enter Tryz.func10, Tryz.ntmps10
  go_wp2_with fail
  generalize w.alloc (.cells #[.int .i64 k, .slice a R.length cap] 29) = w1 at *
  refine (HMO.out _ HL.out).mono ?_
  rintro e w2 ⟨L, P, f, aP, aL, cP, cL, hmon, rfl, hoP, hoL, hb2⟩
  have HM := Lib.hid hmon
  have HB2 := Lib.hid (Below.now HW1.out hb2)
  have HP : Hid (IntsIn w2 aP P) := Lib.hid (owns_ints (l := P) hoP)
  obtain ⟨hf1, hf2⟩ := hmon.few
  clear hmon hoP hoL hb2
  have hb3 := alloc_belowS w2 (.cells #[.int .i64 (L.length : Nat), .slice aP P.length cP] 38)
  have HX : Hid (∀ W, Below (w2.alloc (.cells #[.int .i64 (L.length : Nat), .slice aP P.length cP] 38)).heap.size (w2.alloc (.cells #[.int .i64 (L.length : Nat), .slice aP P.length cP] 38)) W → W.cell? ⟨w2.heap.size, 0, none⟩ = some (.int .i64 (L.length : Nat)) ∧ W.cell? ⟨w2.heap.size, 1, none⟩ = some (.slice aP P.length cP)) := Lib.hid (fun W hW => ⟨by rw [hW.cell (by simp)]; simp, by rw [hW.cell (by simp)]; simp⟩)
  have HB3 := Lib.hid (Below.now HB2.out hb3)
  have HP3 := Lib.hid (HP.out.later hb3)
  clear hb3
  cases f
  · have F : Hid (RetML k R w (.returned (.string ⟨#[110, 111, 110, 101]⟩)) (w2.alloc (.cells #[.int .i64 (L.length : Nat), .slice aP P.length cP] 38))) := Lib.hid ⟨_, .inl ⟨HM.out.not, rfl⟩, rfl, HB3.out⟩
    go_wp2_with fail
    go_ret
    exact F.out
  · have HFI := Lib.hid (fun n W (h0 : -9223372036854775808 ≤ n) (h1 : n ≤ 9223372036854775807) => specFormatInt_any n W h0 h1)
    obtain ⟨s1, s2, s3, s4⟩ := mon_sizes (L.length : Int) P
    have l1 := itoa_len (n := (L.length : Int)) (by omega) (by omega)
    have l2 := itoa_len (n := ((idemF (L.length : Int) P).length : Int)) (by omega) (by omega)
    have l3 := itoa_len (n := ((unitsOfF (L.length : Int) P).length : Int)) (by omega) (by omega)
    have l4 := itoa_len (n := cntF (clzF (L.length : Int) P 3)) (by omega) (by omega)
    have HF : Hid (∀ W, Below (w2.alloc (.cells #[.int .i64 (L.length : Nat), .slice aP P.length cP] 38)).heap.size (w2.alloc (.cells #[.int .i64 (L.length : Nat), .slice aP P.length cP] 38)) W → RetML k R w (.returned (.string (monOf L P))) W) := Lib.hid (fun W hW => ⟨_, .inr ⟨HM.out.go, L, P, HM.out, rfl⟩, rfl, Below.now HB3.out hW⟩)
    have HFA : Hid (∀ W, Calls Tryz.prog 51 #[.int .i64 (L.length : Nat)] W fun e w' => e = .returned (.string (numB (L.length : Int))) ∧ Below W.heap.size W w') := Lib.hid (fun W => HFI.out _ W (by omega) (by omega))
    have HFB : Hid (∀ W, Calls Tryz.prog 51 #[.int .i64 ((idemF (L.length : Int) P).length : Nat)] W fun e w' => e = .returned (.string (numB ((idemF (L.length : Int) P).length : Int))) ∧ Below W.heap.size W w') := Lib.hid (fun W => HFI.out _ W (by omega) (by omega))
    have HFC : Hid (∀ W, Calls Tryz.prog 51 #[.int .i64 ((unitsOfF (L.length : Int) P).length : Nat)] W fun e w' => e = .returned (.string (numB ((unitsOfF (L.length : Int) P).length : Int))) ∧ Below W.heap.size W w') := Lib.hid (fun W => HFI.out _ W (by omega) (by omega))
    have HFD : Hid (∀ W, Calls Tryz.prog 51 #[.int .i64 (cntF (clzF (L.length : Int) P 3))] W fun e w' => e = .returned (.string (numB (cntF (clzF (L.length : Int) P 3)))) ∧ Below W.heap.size W w') := Lib.hid (fun W => HFI.out _ W (by omega) (by omega))
    have HID := Lib.hid (fun W (h : IntsIn W aP P) => specIdempotentsOf_any (L.length : Int) P aP cP W h (by omega))
    have HUN := Lib.hid (fun W (h : IntsIn W aP P) => specUnitsOf_any (L.length : Int) P aP cP W h (by omega))
    have HCC := Lib.hid (fun W (h : IntsIn W aP P) => specCountClasses_any (L.length : Int) P aP cP 3 W h (by omega))
    clear HFI s3 s4
    unfold monOf monLineF at HF
    go_wp2_with fail
    generalize w2.alloc (.cells #[.int .i64 (L.length : Nat), .slice aP P.length cP] 38) = w3 at *
    generalize numB (L.length : Int) = A1 at *
    generalize numB ((idemF (L.length : Int) P).length : Int) = A2 at *
    generalize numB ((unitsOfF (L.length : Int) P).length : Int) = A3 at *
    generalize numB (cntF (clzF (L.length : Int) P 3)) = A4 at *
    generalize cntF (clzF (L.length : Int) P 3) = nc at *
    generalize idemF (L.length : Int) P = z1 at *
    generalize unitsOfF (L.length : Int) P = z2 at *
    have y1 : ¬ 9223372036854775807 < 9 + A1.size := by omega
    have y2 : ¬ 9223372036854775807 < 9 + A1.size + 13 := by omega
    have y3 : ¬ 9223372036854775807 < 9 + A1.size + 13 + A2.size := by omega
    have y4 : ¬ 9223372036854775807 < 9 + A1.size + 13 + A2.size + 7 := by omega
    have y5 : ¬ 9223372036854775807 < 9 + A1.size + 13 + A2.size + 7 + A3.size := by omega
    have y6 : ¬ 9223372036854775807 < 9 + A1.size + 13 + A2.size + 7 + A3.size + 9 := by omega
    have y7 : ¬ 9223372036854775807 < 9 + A1.size + 13 + A2.size + 7 + A3.size + 9 + A4.size := by omega
    have kr := Below.refl w3.heap.size w3
    obtain ⟨r0, r1⟩ := HX.out w3 kr
    go_region_held3 (fun w' => w'.cell? ⟨w2.heap.size, 0, none⟩ = some (.int .i64 (L.length : Nat)) ∧ w'.cell? ⟨w2.heap.size, 1, none⟩ = some (.slice aP P.length cP)) (go_keep) (first
      | (go_at_call 51; (first | (with_reducible refine (HFA.out _).mono ?_) | (with_reducible refine (HFB.out _).mono ?_) | (with_reducible refine (HFC.out _).mono ?_) | (with_reducible refine (HFD.out _).mono ?_)); rintro e w5 ⟨rfl, hb5⟩; replace kr : Below w3.heap.size w3 w5 := Below.now (by repeat (first | exact kr | refine Below.drew ?_ | refine below_drewN ?_ _)) hb5; have t0 := (HX.out w5 kr).1; have t1 := (HX.out w5 kr).2; clear hb5)
      | (go_at_call 52; refine (HID.out _ (HP3.out.later (by repeat (first | exact kr | refine Below.drew ?_ | refine below_drewN ?_ _)))).mono ?_; rintro e w5 ⟨a5, c5, rfl, _, hb5⟩; replace kr : Below w3.heap.size w3 w5 := Below.now (by repeat (first | exact kr | refine Below.drew ?_ | refine below_drewN ?_ _)) hb5; have t0 := (HX.out w5 kr).1; have t1 := (HX.out w5 kr).2; clear hb5)
      | (go_at_call 53; refine (HUN.out _ (HP3.out.later (by repeat (first | exact kr | refine Below.drew ?_ | refine below_drewN ?_ _)))).mono ?_; rintro e w5 ⟨a5, c5, rfl, _, hb5⟩; replace kr : Below w3.heap.size w3 w5 := Below.now (by repeat (first | exact kr | refine Below.drew ?_ | refine below_drewN ?_ _)) hb5; have t0 := (HX.out w5 kr).1; have t1 := (HX.out w5 kr).2; clear hb5)
      | (go_at_call 54; refine (HCC.out _ (HP3.out.later (by repeat (first | exact kr | refine Below.drew ?_ | refine below_drewN ?_ _)))).mono ?_; rintro e w5 ⟨rfl, hb5⟩; replace kr : Below w3.heap.size w3 w5 := Below.now (by repeat (first | exact kr | refine Below.drew ?_ | refine below_drewN ?_ _)) hb5; have t0 := (HX.out w5 kr).1; have t1 := (HX.out w5 kr).2; clear hb5))
    all_goals
      go_wp2_with fail
      go_ret
      exact HF.out _ kr
end Go.Proofs.YtggfhephdcnpcaaGreatDoor
