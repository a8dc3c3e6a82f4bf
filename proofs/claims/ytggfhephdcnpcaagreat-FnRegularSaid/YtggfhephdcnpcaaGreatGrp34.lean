/-
  Lists of numbers as cells, and rows of bools that are handed back.
-/
import Derived.Test.YtggfhephdcnpcaaGreatGrp33
import Derived.Test.YtggfhephdcnpcaaGreatGrp32
import Derived.Test.YtggfhephdcnpcaaGreatGrp02
namespace Go.Proofs.YtggfhephdcnpcaaGreat
open Go.RowKit
set_option linter.unusedVariables false
def unB (m : Nat) (ln : List Nat) (i k : Nat) : Bool := !(decide (tm m ln i k = 0) && decide (tm m ln k i = 0))
def isUnit (m : Nat) (ln : List Nat) (i : Nat) : Bool := !(List.range m).all (unB m ln i)
def regB (m : Nat) (ln : List Nat) (i x : Nat) : Bool := !decide (tm m ln (tm m ln i x) i = i)
def isReg (m : Nat) (ln : List Nat) (i : Nat) : Bool := !(List.range m).all (regB m ln i)
def cenB (m : Nat) (ln : List Nat) (i k : Nat) : Bool := decide (tm m ln i k = tm m ln k i)
def isCen (m : Nat) (ln : List Nat) (i : Nat) : Bool := (List.range m).all (cenB m ln i)
theorem unB_of1 {m : Nat} {ln : List Nat} {i k : Nat} (h : (((tm m ln i k : Nat) : Int) != 0) = true) : unB m ln i k = true := by
  simp at h; simp [unB, h]
theorem unB_of2 {m : Nat} {ln : List Nat} {i k : Nat} (h : (((tm m ln i k : Nat) : Int) != 0) = false) {b : Bool} (h2 : (((tm m ln k i : Nat) : Int) != 0) = b) : unB m ln i k = b := by
  cases b <;> simp at h h2 <;> simp [unB, h, h2]
theorem regB_of {m : Nat} {ln : List Nat} {i k : Nat} {b : Bool} (h2 : (((tm m ln (tm m ln i k) i : Nat) : Int) != (i : Nat)) = b) : regB m ln i k = b := by
  cases b <;> simp at h2 <;> simp [regB] <;> omega
theorem cenB_of {m : Nat} {ln : List Nat} {i k : Nat} {b : Bool} (h2 : (((tm m ln i k : Nat) : Int) == ((tm m ln k i : Nat) : Int)) = b) : cenB m ln i k = b := by
  cases b <;> simp at h2 <;> simp [cenB] <;> omega
set_option maxHeartbeats 800000 in
theorem unitsofIn_pred (m : Nat) (ln : List Nat) (a : Option Addr) (len cap bt bz i : Nat) (w : World) (hx0 : w.cell? ⟨bt, 0, none⟩ = some (.int .i64 m)) (hx1 : w.cell? ⟨bt, 1, none⟩ = some (.slice a len cap))
    (hzc : w.cell? ⟨bz, 0, none⟩ = some (.int .i64 (i : Nat))) (hn : NatsIn w a ln) (hT : Tb m ln) (hlen : len = m * m) (hz : i < m) :
    PredEl w.heap.size 60 #[.pointer (some ⟨bt, 0, none⟩), .pointer (some ⟨bz, 0, none⟩)] (unB m ln i) m w := by
  intro k hi W hW
  have k0 : ∀ x, (wide W x).cell? ⟨bt, 0, none⟩ = some (.int .i64 m) := wide_cell (by rw [hW.cell (World.block_lt_of_cell? w _ hx0)]; exact hx0)
  have k1 : ∀ x, (wide W x).cell? ⟨bt, 1, none⟩ = some (.slice a len cap) := wide_cell (by rw [hW.cell (World.block_lt_of_cell? w _ hx1)]; exact hx1)
  have k2 : ∀ x, (wide W x).cell? ⟨bz, 0, none⟩ = some (.int .i64 (i : Nat)) := wide_cell (by rw [hW.cell (World.block_lt_of_cell? w _ hzc)]; exact hzc)
  have HN : Hid (∀ x, NatsIn (wide W x) a ln) := fun x => (hn.later hW).later (below_wide _ _)
  have g0 : W.cell? ⟨bt, 0, none⟩ = some (.int .i64 m) := by rw [hW.cell (World.block_lt_of_cell? w _ hx0)]; exact hx0
  have g1 : W.cell? ⟨bt, 1, none⟩ = some (.slice a len cap) := by rw [hW.cell (World.block_lt_of_cell? w _ hx1)]; exact hx1
  have g2 : W.cell? ⟨bz, 0, none⟩ = some (.int .i64 (i : Nat)) := by rw [hW.cell (World.block_lt_of_cell? w _ hzc)]; exact hzc
  have HN0 := Lib.hid (hn.later hW)
  have HT := Lib.hid hT
  have HL := Lib.hid hlen
  have hik := hT.tm_lt hz hi
  clear hx0 hx1 hzc hn hT hlen hW
  have j0 : ∀ W', Below W.heap.size W W' → W'.cell? ⟨bt, 0, none⟩ = some (.int .i64 m) := fun W' h => (h.cell (World.block_lt_of_cell? _ _ g0)).trans g0
  have j1 : ∀ W', Below W.heap.size W W' → W'.cell? ⟨bt, 1, none⟩ = some (.slice a len cap) := fun W' h => (h.cell (World.block_lt_of_cell? _ _ g1)).trans g1
  have j2 : ∀ W', Below W.heap.size W W' → W'.cell? ⟨bz, 0, none⟩ = some (.int .i64 (i : Nat)) := fun W' h => (h.cell (World.block_lt_of_cell? _ _ g2)).trans g2
  have HN1 : Hid (∀ W', Below W.heap.size W W' → NatsIn W' a ln) := fun W' h => (HN0.out).later h
  have hW0 := Below.refl W.heap.size W
  clear g0 g1 g2 HN0
  cases e1 : (((tm m ln i k : Nat) : Int) != 0)
  rotate_left
  · have F := Lib.hid (unB_of1 e1)
    go_enter Tryz.func60, Tryz.ntmps60
    go_wp2_with fail
    refine (implTimes_any m ln a _ _ i k _ (HN1.out _ hW0) HT.out HL.out hz hi).mono ?_
    rintro e w2 ⟨rfl, hb⟩
    replace hW0 := Below.now hW0 hb
    clear hb
    go_wp2_with fail
    go_ret
    exact ⟨ret_bool F.out.symm, hW0⟩
  · have F := Lib.hid (unB_of2 e1 (b := (((tm m ln k i : Nat) : Int) != 0)) rfl)
    go_enter Tryz.func60, Tryz.ntmps60
    go_wp2_with fail
    refine (implTimes_any m ln a _ _ i k _ (HN1.out _ hW0) HT.out HL.out hz hi).mono ?_
    rintro e w2 ⟨rfl, hb⟩
    replace hW0 := Below.now hW0 hb
    clear hb
    go_wp2_with fail
    refine (implTimes_any m ln a _ _ k i _ (HN1.out _ hW0) HT.out HL.out hi hz).mono ?_
    rintro e w3 ⟨rfl, hb⟩
    replace hW0 := Below.now hW0 hb
    clear hb
    go_wp2_with fail
    go_ret
    exact ⟨ret_bool F.out.symm, hW0⟩
set_option maxHeartbeats 800000 in
theorem unitsofOut_pred (m : Nat) (ln : List Nat) (a : Option Addr) (len cap bt : Nat) (w : World) (hx0 : w.cell? ⟨bt, 0, none⟩ = some (.int .i64 m)) (hx1 : w.cell? ⟨bt, 1, none⟩ = some (.slice a len cap))
    (hn : NatsIn w a ln) (hT : Tb m ln) (hlen : len = m * m) :
    PredEl w.heap.size 59 #[.pointer (some ⟨bt, 0, none⟩)] (isUnit m ln) m w := by
  intro z hz W hW
  have k0 : W.cell? ⟨bt, 0, none⟩ = some (.int .i64 m) := by rw [hW.cell (World.block_lt_of_cell? w _ hx0)]; exact hx0
  have k1 : W.cell? ⟨bt, 1, none⟩ = some (.slice a len cap) := by rw [hW.cell (World.block_lt_of_cell? w _ hx1)]; exact hx1
  have hb0 : bt < W.heap.size := World.block_lt_of_cell? W _ k0
  have HN := Lib.hid (hn.later hW)
  have HT := Lib.hid hT
  have HL := Lib.hid hlen
  have hm := hT.hi
  clear hx0 hx1 hn hT hlen hW
  go_enter Tryz.func59, Tryz.ntmps59
  go_wp2_with fail
  have hbel : Below W.heap.size W (W.alloc (.cells #[.int .i64 (z : Nat)] 3)) := (Below.refl _ _).alloc (Nat.le_refl _) _
  have hp := unitsofIn_pred m ln a len cap bt W.heap.size z (W.alloc (.cells #[.int .i64 (z : Nat)] 3)) (by rw [hbel.cell hb0]; exact k0) (by rw [hbel.cell hb0]; exact k1) (by simp) (HN.out.later hbel) HT.out HL.out hz
  refine (all_any _ _ _ (unB m ln z) m a len cap _ (by omega) hp (Nat.le_refl _) (enters_of Tryz.func60 (by kernel_rfl) rfl)).mono ?_
  rintro e w2 ⟨rfl, hb2⟩
  have hbel2 := Below.now hbel hb2
  have HB : Hid (isUnit m ln z = !(List.range m).all (unB m ln z)) := rfl
  clear hp hb2 hbel
  generalize (List.range m).all (unB m ln z) = q at *
  go_wp2_with fail
  go_ret
  exact ⟨ret_bool (by rw [HB.out]), hbel2⟩
set_option maxHeartbeats 800000 in
theorem regularofIn_pred (m : Nat) (ln : List Nat) (a : Option Addr) (len cap bt bz i : Nat) (w : World) (hx0 : w.cell? ⟨bt, 0, none⟩ = some (.int .i64 m)) (hx1 : w.cell? ⟨bt, 1, none⟩ = some (.slice a len cap))
    (hzc : w.cell? ⟨bz, 0, none⟩ = some (.int .i64 (i : Nat))) (hn : NatsIn w a ln) (hT : Tb m ln) (hlen : len = m * m) (hz : i < m) :
    PredEl w.heap.size 56 #[.pointer (some ⟨bt, 0, none⟩), .pointer (some ⟨bz, 0, none⟩)] (regB m ln i) m w := by
  intro k hi W hW
  have k0 : ∀ x, (wide W x).cell? ⟨bt, 0, none⟩ = some (.int .i64 m) := wide_cell (by rw [hW.cell (World.block_lt_of_cell? w _ hx0)]; exact hx0)
  have k1 : ∀ x, (wide W x).cell? ⟨bt, 1, none⟩ = some (.slice a len cap) := wide_cell (by rw [hW.cell (World.block_lt_of_cell? w _ hx1)]; exact hx1)
  have k2 : ∀ x, (wide W x).cell? ⟨bz, 0, none⟩ = some (.int .i64 (i : Nat)) := wide_cell (by rw [hW.cell (World.block_lt_of_cell? w _ hzc)]; exact hzc)
  have HN : Hid (∀ x, NatsIn (wide W x) a ln) := fun x => (hn.later hW).later (below_wide _ _)
  have g0 : W.cell? ⟨bt, 0, none⟩ = some (.int .i64 m) := by rw [hW.cell (World.block_lt_of_cell? w _ hx0)]; exact hx0
  have g1 : W.cell? ⟨bt, 1, none⟩ = some (.slice a len cap) := by rw [hW.cell (World.block_lt_of_cell? w _ hx1)]; exact hx1
  have g2 : W.cell? ⟨bz, 0, none⟩ = some (.int .i64 (i : Nat)) := by rw [hW.cell (World.block_lt_of_cell? w _ hzc)]; exact hzc
  have HN0 := Lib.hid (hn.later hW)
  have HT := Lib.hid hT
  have HL := Lib.hid hlen
  have hik := hT.tm_lt hz hi
  clear hx0 hx1 hzc hn hT hlen hW
  have F := Lib.hid (regB_of (m := m) (ln := ln) (i := i) (k := k) rfl)
  go_enter Tryz.func56, Tryz.ntmps56
  go_wp2_with fail
  refine region_wide (by kernel_rfl) (by kernel_rfl) ?_
  repeat (quiet_step ((refine (implTimes_any m ln a _ _ _ _ _ (HN.out _) HT.out HL.out (by first | assumption | exact HT.out.tm_lt (by assumption) (by assumption)) (by assumption)).mono ?_; rintro e w2 ⟨rfl, hb2⟩; exact ⟨rfl, wide_next hb2⟩)))
  refine wpQuiet_nil ?_
  rintro w4 ⟨x4, rfl⟩
  go_wp2_with fail
  go_ret
  exact ⟨ret_bool F.out.symm, below_wide _ _⟩
set_option maxHeartbeats 800000 in
theorem regularofOut_pred (m : Nat) (ln : List Nat) (a : Option Addr) (len cap bt : Nat) (w : World) (hx0 : w.cell? ⟨bt, 0, none⟩ = some (.int .i64 m)) (hx1 : w.cell? ⟨bt, 1, none⟩ = some (.slice a len cap))
    (hn : NatsIn w a ln) (hT : Tb m ln) (hlen : len = m * m) :
    PredEl w.heap.size 55 #[.pointer (some ⟨bt, 0, none⟩)] (isReg m ln) m w := by
  intro z hz W hW
  have k0 : W.cell? ⟨bt, 0, none⟩ = some (.int .i64 m) := by rw [hW.cell (World.block_lt_of_cell? w _ hx0)]; exact hx0
  have k1 : W.cell? ⟨bt, 1, none⟩ = some (.slice a len cap) := by rw [hW.cell (World.block_lt_of_cell? w _ hx1)]; exact hx1
  have hb0 : bt < W.heap.size := World.block_lt_of_cell? W _ k0
  have HN := Lib.hid (hn.later hW)
  have HT := Lib.hid hT
  have HL := Lib.hid hlen
  have hm := hT.hi
  clear hx0 hx1 hn hT hlen hW
  go_enter Tryz.func55, Tryz.ntmps55
  go_wp2_with fail
  have hbel : Below W.heap.size W (W.alloc (.cells #[.int .i64 (z : Nat)] 3)) := (Below.refl _ _).alloc (Nat.le_refl _) _
  have hp := regularofIn_pred m ln a len cap bt W.heap.size z (W.alloc (.cells #[.int .i64 (z : Nat)] 3)) (by rw [hbel.cell hb0]; exact k0) (by rw [hbel.cell hb0]; exact k1) (by simp) (HN.out.later hbel) HT.out HL.out hz
  refine (all_any _ _ _ (regB m ln z) m a len cap _ (by omega) hp (Nat.le_refl _) (enters_of Tryz.func56 (by kernel_rfl) rfl)).mono ?_
  rintro e w2 ⟨rfl, hb2⟩
  have hbel2 := Below.now hbel hb2
  have HB : Hid (isReg m ln z = !(List.range m).all (regB m ln z)) := rfl
  clear hp hb2 hbel
  generalize (List.range m).all (regB m ln z) = q at *
  go_wp2_with fail
  go_ret
  exact ⟨ret_bool (by rw [HB.out]), hbel2⟩
set_option maxHeartbeats 800000 in
theorem centerofIn_pred (m : Nat) (ln : List Nat) (a : Option Addr) (len cap bt bz i : Nat) (w : World) (hx0 : w.cell? ⟨bt, 0, none⟩ = some (.int .i64 m)) (hx1 : w.cell? ⟨bt, 1, none⟩ = some (.slice a len cap))
    (hzc : w.cell? ⟨bz, 0, none⟩ = some (.int .i64 (i : Nat))) (hn : NatsIn w a ln) (hT : Tb m ln) (hlen : len = m * m) (hz : i < m) :
    PredEl w.heap.size 72 #[.pointer (some ⟨bt, 0, none⟩), .pointer (some ⟨bz, 0, none⟩)] (cenB m ln i) m w := by
  intro k hi W hW
  have k0 : ∀ x, (wide W x).cell? ⟨bt, 0, none⟩ = some (.int .i64 m) := wide_cell (by rw [hW.cell (World.block_lt_of_cell? w _ hx0)]; exact hx0)
  have k1 : ∀ x, (wide W x).cell? ⟨bt, 1, none⟩ = some (.slice a len cap) := wide_cell (by rw [hW.cell (World.block_lt_of_cell? w _ hx1)]; exact hx1)
  have k2 : ∀ x, (wide W x).cell? ⟨bz, 0, none⟩ = some (.int .i64 (i : Nat)) := wide_cell (by rw [hW.cell (World.block_lt_of_cell? w _ hzc)]; exact hzc)
  have HN : Hid (∀ x, NatsIn (wide W x) a ln) := fun x => (hn.later hW).later (below_wide _ _)
  have g0 : W.cell? ⟨bt, 0, none⟩ = some (.int .i64 m) := by rw [hW.cell (World.block_lt_of_cell? w _ hx0)]; exact hx0
  have g1 : W.cell? ⟨bt, 1, none⟩ = some (.slice a len cap) := by rw [hW.cell (World.block_lt_of_cell? w _ hx1)]; exact hx1
  have g2 : W.cell? ⟨bz, 0, none⟩ = some (.int .i64 (i : Nat)) := by rw [hW.cell (World.block_lt_of_cell? w _ hzc)]; exact hzc
  have HN0 := Lib.hid (hn.later hW)
  have HT := Lib.hid hT
  have HL := Lib.hid hlen
  have hik := hT.tm_lt hz hi
  clear hx0 hx1 hzc hn hT hlen hW
  have F := Lib.hid (cenB_of (m := m) (ln := ln) (i := i) (k := k) rfl)
  go_enter Tryz.func72, Tryz.ntmps72
  go_wp2_with fail
  refine region_wide (by kernel_rfl) (by kernel_rfl) ?_
  repeat (quiet_step ((refine (implTimes_any m ln a _ _ _ _ _ (HN.out _) HT.out HL.out (by first | assumption | exact HT.out.tm_lt (by assumption) (by assumption)) (by assumption)).mono ?_; rintro e w2 ⟨rfl, hb2⟩; exact ⟨rfl, wide_next hb2⟩)))
  refine wpQuiet_nil ?_
  rintro w4 ⟨x4, rfl⟩
  go_wp2_with fail
  go_ret
  exact ⟨ret_bool F.out.symm, below_wide _ _⟩
set_option maxHeartbeats 800000 in
theorem centerofOut_pred (m : Nat) (ln : List Nat) (a : Option Addr) (len cap bt : Nat) (w : World) (hx0 : w.cell? ⟨bt, 0, none⟩ = some (.int .i64 m)) (hx1 : w.cell? ⟨bt, 1, none⟩ = some (.slice a len cap))
    (hn : NatsIn w a ln) (hT : Tb m ln) (hlen : len = m * m) :
    PredEl w.heap.size 71 #[.pointer (some ⟨bt, 0, none⟩)] (isCen m ln) m w := by
  intro z hz W hW
  have k0 : W.cell? ⟨bt, 0, none⟩ = some (.int .i64 m) := by rw [hW.cell (World.block_lt_of_cell? w _ hx0)]; exact hx0
  have k1 : W.cell? ⟨bt, 1, none⟩ = some (.slice a len cap) := by rw [hW.cell (World.block_lt_of_cell? w _ hx1)]; exact hx1
  have hb0 : bt < W.heap.size := World.block_lt_of_cell? W _ k0
  have HN := Lib.hid (hn.later hW)
  have HT := Lib.hid hT
  have HL := Lib.hid hlen
  have hm := hT.hi
  clear hx0 hx1 hn hT hlen hW
  go_enter Tryz.func71, Tryz.ntmps71
  go_wp2_with fail
  have hbel : Below W.heap.size W (W.alloc (.cells #[.int .i64 (z : Nat)] 3)) := (Below.refl _ _).alloc (Nat.le_refl _) _
  have hp := centerofIn_pred m ln a len cap bt W.heap.size z (W.alloc (.cells #[.int .i64 (z : Nat)] 3)) (by rw [hbel.cell hb0]; exact k0) (by rw [hbel.cell hb0]; exact k1) (by simp) (HN.out.later hbel) HT.out HL.out hz
  refine (all_any _ _ _ (cenB m ln z) m a len cap _ (by omega) hp (Nat.le_refl _) (enters_of Tryz.func72 (by kernel_rfl) rfl)).mono ?_
  rintro e w2 ⟨rfl, hb2⟩
  have hbel2 := Below.now hbel hb2
  have HB : Hid (isCen m ln z = (List.range m).all (cenB m ln z)) := rfl
  clear hp hb2 hbel
  generalize (List.range m).all (cenB m ln z) = q at *
  go_wp2_with fail
  go_ret
  exact ⟨ret_bool (by rw [HB.out]), hbel2⟩
/-- UnitsOf as a function of plain data -/
def unitsOfF (n : Int) (l : List Int) : List Int := thoseL n l (isUnit n.toNat (l.map Int.toNat))
set_option maxHeartbeats 800000 in
theorem implUnitsOf_any (n : Int) (l : List Int) (a : Option Addr) (cap : Nat) (w : World) (hl : IntsIn w a l) (hlen : l.length ≤ 2 ^ 47) :
    Calls Tryz.prog 22 #[.agg #[.int .i64 n, .slice a l.length cap]] w (RetSl 3 1 (unitsOfF n l).length (intVals (unitsOfF n l)) w) := by
  have HL := Lib.hid hl
  clear hl
  go_enter Tryz.func22, Tryz.ntmps22
  go_wp2_with fail
  have hbel : Below w.heap.size w (w.alloc (.cells #[.int .i64 n, .slice a l.length cap] 25)) := (Below.refl _ _).alloc (Nat.le_refl _) _
  refine (those_any n l a cap _ (HL.out.later hbel) hlen _ _ _ (isUnit n.toNat (l.map Int.toNat)) (Nat.le_refl _) ?_ (enters_of Tryz.func59 (by kernel_rfl) rfl)).mono ?_
  · intro ht
    obtain ⟨m, ln, rfl, rfl, hT⟩ := tabOk_out ht
    rw [map_toNat]
    exact unitsofOut_pred m ln a (ln.map Int.ofNat).length cap w.heap.size _ (by simp) (by simp) (HL.out.later hbel) hT.toTb (by rw [List.length_map]; exact hT.len)
  rintro e w2 ⟨a2, c2, rfl, ho, hb2⟩
  have F : Hid (RetSl 3 1 (unitsOfF n l).length (intVals (unitsOfF n l)) w (.returned (.slice a2 (unitsOfF n l).length c2)) w2) := ⟨_, _, rfl, owns_mono ho (by simp), Below.now hbel hb2⟩
  have HE : Hid (thoseL n l (isUnit n.toNat (l.map Int.toNat)) = unitsOfF n l) := rfl
  rw [HE.out]
  clear ho hb2 hbel HE
  go_wp2_with fail
  go_ret
  exact F.out
/-- RegularOf as a function of plain data -/
def regularOfF (n : Int) (l : List Int) : List Int := thoseL n l (isReg n.toNat (l.map Int.toNat))
set_option maxHeartbeats 800000 in
theorem implRegularOf_any (n : Int) (l : List Int) (a : Option Addr) (cap : Nat) (w : World) (hl : IntsIn w a l) (hlen : l.length ≤ 2 ^ 47) :
    Calls Tryz.prog 17 #[.agg #[.int .i64 n, .slice a l.length cap]] w (RetSl 3 1 (regularOfF n l).length (intVals (regularOfF n l)) w) := by
  have HL := Lib.hid hl
  clear hl
  go_enter Tryz.func17, Tryz.ntmps17
  go_wp2_with fail
  have hbel : Below w.heap.size w (w.alloc (.cells #[.int .i64 n, .slice a l.length cap] 25)) := (Below.refl _ _).alloc (Nat.le_refl _) _
  refine (those_any n l a cap _ (HL.out.later hbel) hlen _ _ _ (isReg n.toNat (l.map Int.toNat)) (Nat.le_refl _) ?_ (enters_of Tryz.func55 (by kernel_rfl) rfl)).mono ?_
  · intro ht
    obtain ⟨m, ln, rfl, rfl, hT⟩ := tabOk_out ht
    rw [map_toNat]
    exact regularofOut_pred m ln a (ln.map Int.ofNat).length cap w.heap.size _ (by simp) (by simp) (HL.out.later hbel) hT.toTb (by rw [List.length_map]; exact hT.len)
  rintro e w2 ⟨a2, c2, rfl, ho, hb2⟩
  have F : Hid (RetSl 3 1 (regularOfF n l).length (intVals (regularOfF n l)) w (.returned (.slice a2 (regularOfF n l).length c2)) w2) := ⟨_, _, rfl, owns_mono ho (by simp), Below.now hbel hb2⟩
  have HE : Hid (thoseL n l (isReg n.toNat (l.map Int.toNat)) = regularOfF n l) := rfl
  rw [HE.out]
  clear ho hb2 hbel HE
  go_wp2_with fail
  go_ret
  exact F.out
end Go.Proofs.YtggfhephdcnpcaaGreat
namespace Go.Proofs.YtggfhephdcnpcaaGreat
open Go.RowKit
set_option linter.unusedVariables false
def boolVals (m : Nat) (f : Nat → Bool) : List Value := (List.range m).map fun j => Value.bool (f j)
theorem boolVals_len (m : Nat) (f : Nat → Bool) : (boolVals m f).length = m := by simp [boolVals]
theorem boolVals_at {m j : Nat} {f : Nat → Bool} (h : j < m) : (boolVals m f)[j]? = some (.bool (f j)) := by simp [boolVals, h]
theorem boolVals_congr {m : Nat} {f g : Nat → Bool} (h : ∀ j, j < m → f j = g j) : boolVals m f = boolVals m g := by
  unfold boolVals
  apply List.map_congr_left
  intro j hj
  rw [h j (List.mem_range.1 hj)]
/-- a row of m bools of the call's own, in block g -/
def BoolRow (T : TypeId) (w : World) (base g m : Nat) (f : Nat → Bool) : Prop := w.ownsRow base T 1 (.slice (some ⟨g, 0, none⟩) m m) m (boolVals m f)
theorem BoolRow.cell {T : TypeId} {w : World} {base g m : Nat} {f : Nat → Bool} (h : BoolRow T w base g m f) {j : Nat} (hj : j < m) : w.cell? ⟨g, j, none⟩ = some (.bool (f j)) := by
  have := World.ownsRow.cellAt h j (by omega)
  rw [this, boolVals_at hj]
theorem BoolRow.frozen {T : TypeId} {w : World} {base g m : Nat} {f : Nat → Bool} (h : BoolRow T w base g m f) (j : Nat) : w.frozen? ⟨g, j, none⟩ = false := World.ownsRow.frozenAt h j
theorem BoolRow.range {T : TypeId} {w : World} {base g m : Nat} {f : Nat → Bool} (h : BoolRow T w base g m f) : base ≤ g ∧ g < w.heap.size := World.ownsRow.lt h g rfl
theorem BoolRow.later {T : TypeId} {w w' : World} {base g m : Nat} {f : Nat → Bool} (h : BoolRow T w base g m f) (hb : Below w.heap.size w w') : BoolRow T w' base g m f := owns_later h hb
theorem BoolRow.congr {T : TypeId} {w : World} {base g m : Nat} {f f' : Nat → Bool} (h : BoolRow T w base g m f) (hf : ∀ j, j < m → f j = f' j) : BoolRow T w base g m f' := by
  unfold BoolRow; rw [← boolVals_congr hf]; exact h
theorem BoolRow.store {T : TypeId} {w : World} {base g m : Nat} {f : Nat → Bool} (h : BoolRow T w base g m f) (i : Nat) (v : Bool) : BoolRow T (w.setCell ⟨g, i, none⟩ (.bool v)) base g m (fun j => if j = i then v else f j) := by
  have hs := (World.ownsRow.stored h i (.bool v)).1
  have e : (boolVals m f).set i (.bool v) = boolVals m (fun j => if j = i then v else f j) := by
    apply List.ext_getElem?
    intro j
    rw [List.getElem?_set, boolVals_len]
    by_cases hj : j < m
    · rw [boolVals_at (f := fun j => if j = i then v else f j) hj]
      by_cases e : i = j
      · subst e; simp [hj]
      · rw [if_neg e, boolVals_at hj, if_neg (by omega)]
    · rw [List.getElem?_eq_none (l := boolVals m fun j => if j = i then v else f j) (by rw [boolVals_len]; omega)]
      by_cases e : i = j
      · subst e; simp [hj]
      · rw [if_neg e, List.getElem?_eq_none (by rw [boolVals_len]; omega)]
  unfold BoolRow
  rw [← e]
  exact hs
theorem BoolRow.start (w : World) (T : TypeId) (cs : Array Value) (m : Nat) (hs : cs.toList = boolVals m fun _ => false) (hn : m ≤ maxLen) : BoolRow T (w.alloc (.cells cs T)) w.heap.size w.heap.size m fun _ => false := by
  have h := World.ownsRow_lit (e := T) (size := 1) w cs m (Nat.le_refl _) hn (by rw [← Array.length_toList, hs, boolVals_len]; omega)
  rw [hs] at h
  exact h
theorem made_bools (m : Nat) : (madeCells #[.bool false] m).toList = boolVals m fun _ => false := by
  rw [toList_madeCells_one]
  apply List.ext_getElem
  · simp [boolVals]
  · intro i h1 h2; simp [boolVals]
theorem BoolRow.ge {T : TypeId} {w : World} {base base' g m : Nat} {f : Nat → Bool} (h : BoolRow T w base g m f) (hb : base' ≤ base) : BoolRow T w base' g m f := owns_mono h hb
end Go.Proofs.YtggfhephdcnpcaaGreat
namespace Go.Proofs.YtggfhephdcnpcaaGreat
open Go.RowKit
set_option linter.unusedVariables false
def ivs (q : List Nat) : List Value := intVals (q.map Int.ofNat)
theorem ivs_app (q : List Nat) (y : Nat) : ivs (q ++ [y]) = ivs q ++ [.int .i64 (y : Nat)] := by simp [ivs, intVals]
theorem ivs_len (q : List Nat) : (ivs q).length = q.length := by simp [ivs, intVals]
theorem ivs_get {q : List Nat} {p : Nat} (h : p < q.length) : (ivs q)[p]? = some (.int .i64 ((q.getD p 0 : Nat) : Int)) := by simp [ivs, intVals, h]
theorem mem_ofNat (q : List Nat) (y : Nat) : ((y : Nat) : Int) ∈ q.map Int.ofNat ↔ y ∈ q := by
  rw [List.mem_map]
  exact ⟨fun ⟨a, ha, e⟩ => by rwa [show a = y from Int.ofNat.inj e] at ha, fun h => ⟨y, h, rfl⟩⟩
theorem cont_ivs (q : List Nat) (y : Nat) : (q.map Int.ofNat).contains ((y : Nat) : Int) = q.contains y := by
  rw [Bool.eq_iff_iff, List.contains_iff_mem, List.contains_iff_mem]; exact mem_ofNat q y
theorem owns_some {w : World} {base n : Nat} {T : TypeId} {v : Value} {xs : List Value} (h : w.ownsRow base T 1 v n xs) (hn : 0 < n) : ∃ g cap, v = .slice (some ⟨g, 0, none⟩) n cap := by
  rcases h.2 with ⟨_, h0⟩ | ⟨g, cap, cur, hv, _⟩
  · omega
  · exact ⟨g, cap, hv⟩
theorem nats_cell {w : World} {a : Option Addr} {z : List Nat} (h : NatsIn w a z) {j : Nat} (hj : j < z.length) : ∃ b off, a = some ⟨b, off, none⟩ ∧ ∀ W, Below w.heap.size w W → W.cell? ⟨b, off + j, none⟩ = some (.int .i64 ((z[j] : Nat) : Int)) := by
  obtain ⟨b, off, ha, hb, hc⟩ := IntsIn.cell h (i := j) (by simpa using hj)
  refine ⟨b, off, ha, fun W hW => ?_⟩
  rw [hW.cell hb, hc j (by simpa using hj), nthZ_lt (by simpa using hj)]
  simp
theorem map_toNat' (l : List Nat) : (l.map Int.ofNat).map Int.toNat = l := by rw [List.map_map]; exact List.map_id'' (fun x => rfl) l
theorem Tryz.infoBool : (Tryz.prog.info? 4).map (fun i => (i.zero, i.size, i.bytes)) = some (some (.bool false), 1, 1) := by kernel_rfl
/-- what a call hands back that makes a row of bools -/
def RetBools (m : Nat) (f : Nat → Bool) (w : World) (e : Ending) (w' : World) : Prop :=
  ∃ g, e = .returned (.slice (some ⟨g, 0, none⟩) m m) ∧ BoolRow 4 w' w.heap.size g m f ∧ Below w.heap.size w w'
end Go.Proofs.YtggfhephdcnpcaaGreat
