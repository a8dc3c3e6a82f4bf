/-
  Units, regular elements, groups and centers: the reference's functions, and the program's IsGroup and CenterOf.
-/
import Derived.Test.YtngbimgabcacpaaGreatGro22
import Derived.Test.YtngbimgabcacpaaGreatGro21
import Derived.Test.YtngbimgabcacpaaGreatGro01
import Derived.Deep.RegionHeld3
namespace Go.Proofs.YtngbimgabcacpaaGreat
open Go.RowKit
set_option linter.unusedVariables false
def unB (m : Nat) (ln : List Nat) (i k : Nat) : Bool := !(decide (tm m ln i k = 0) && decide (tm m ln k i = 0))
def isUnit (m : Nat) (ln : List Nat) (i : Nat) : Bool := !(List.range m).all (unB m ln i)
def regB (m : Nat) (ln : List Nat) (i x : Nat) : Bool := !decide (tm m ln (tm m ln i x) i = i)
def isReg (m : Nat) (ln : List Nat) (i : Nat) : Bool := !(List.range m).all (regB m ln i)
def cenB (m : Nat) (ln : List Nat) (i k : Nat) : Bool := decide (tm m ln i k = tm m ln k i)
def isCen (m : Nat) (ln : List Nat) (i : Nat) : Bool := (List.range m).all (cenB m ln i)
theorem unB_of1 {m : Nat} {ln : List Nat} {i k : Nat} (h : (((tm m ln i k : Nat) : Int) != 0) = true) : unB m ln i k = true := by
  simp at h; simp [unB, h]
theorem unB_of2 {m : Nat} {ln : List Nat} {i k : Nat} (h : (((tm m ln i k : Nat) : Int) != 0) = false) {b : Bool} (h2 : (((tm m ln k i : Nat) : Int) != 0) = b) : unB m ln i k = b := by
  cases b <;> simp at h h2 <;> simp [unB, h, h2]
theorem regB_of {m : Nat} {ln : List Nat} {i k : Nat} {b : Bool} (h2 : (((tm m ln (tm m ln i k) i : Nat) : Int) != (i : Nat)) = b) : regB m ln i k = b := by
  cases b <;> simp at h2 <;> simp [regB] <;> omega
theorem cenB_of {m : Nat} {ln : List Nat} {i k : Nat} {b : Bool} (h2 : (((tm m ln i k : Nat) : Int) == ((tm m ln k i : Nat) : Int)) = b) : cenB m ln i k = b := by
  cases b <;> simp at h2 <;> simp [cenB] <;> omega
set_option maxHeartbeats 800000 in
theorem unitsofIn_pred (m : Nat) (ln : List Nat) (a : Option Addr) (len cap bt bz i : Nat) (w : World) (hx0 : w.cell? ⟨bt, 0, none⟩ = some (.int .i64 m)) (hx1 : w.cell? ⟨bt, 1, none⟩ = some (.slice a len cap))
    (hzc : w.cell? ⟨bz, 0, none⟩ = some (.int .i64 (i : Nat))) (hn : NatsIn w a ln) (hT : Tb m ln) (hlen : len = m * m) (hz : i < m) :
    PredEl w.heap.size 79 #[.pointer (some ⟨bt, 0, none⟩), .pointer (some ⟨bz, 0, none⟩)] (unB m ln i) m w := by
  intro k hi W hW
  have k0 : ∀ x, (wide W x).cell? ⟨bt, 0, none⟩ = some (.int .i64 m) := wide_cell (by rw [hW.cell (World.block_lt_of_cell? w _ hx0)]; exact hx0)
  have k1 : ∀ x, (wide W x).cell? ⟨bt, 1, none⟩ = some (.slice a len cap) := wide_cell (by rw [hW.cell (World.block_lt_of_cell? w _ hx1)]; exact hx1)
  have k2 : ∀ x, (wide W x).cell? ⟨bz, 0, none⟩ = some (.int .i64 (i : Nat)) := wide_cell (by rw [hW.cell (World.block_lt_of_cell? w _ hzc)]; exact hzc)
  have HN : Hid (∀ x, NatsIn (wide W x) a ln) := fun x => (hn.later hW).later (below_wide _ _)
  have g0 : W.cell? ⟨bt, 0, none⟩ = some (.int .i64 m) := by rw [hW.cell (World.block_lt_of_cell? w _ hx0)]; exact hx0
  have g1 : W.cell? ⟨bt, 1, none⟩ = some (.slice a len cap) := by rw [hW.cell (World.block_lt_of_cell? w _ hx1)]; exact hx1
  have g2 : W.cell? ⟨bz, 0, none⟩ = some (.int .i64 (i : Nat)) := by rw [hW.cell (World.block_lt_of_cell? w _ hzc)]; exact hzc
  have HN0 := Lib.hid (hn.later hW)
  have HT := Lib.hid hT
  have HL := Lib.hid hlen
  have hik := hT.tm_lt hz hi
  clear hx0 hx1 hzc hn hT hlen hW
  have j0 : ∀ W', Below W.heap.size W W' → W'.cell? ⟨bt, 0, none⟩ = some (.int .i64 m) := fun W' h => (h.cell (World.block_lt_of_cell? _ _ g0)).trans g0
  have j1 : ∀ W', Below W.heap.size W W' → W'.cell? ⟨bt, 1, none⟩ = some (.slice a len cap) := fun W' h => (h.cell (World.block_lt_of_cell? _ _ g1)).trans g1
  have j2 : ∀ W', Below W.heap.size W W' → W'.cell? ⟨bz, 0, none⟩ = some (.int .i64 (i : Nat)) := fun W' h => (h.cell (World.block_lt_of_cell? _ _ g2)).trans g2
  have HN1 : Hid (∀ W', Below W.heap.size W W' → NatsIn W' a ln) := fun W' h => (HN0.out).later h
  have hW0 := Below.refl W.heap.size W
  clear g0 g1 g2 HN0
  cases e1 : (((tm m ln i k : Nat) : Int) != 0)
  rotate_left
  · have F := Lib.hid (unB_of1 e1)
    go_enter Tryz.func79, Tryz.ntmps79
    go_wp2_with fail
    refine (implTimes_any m ln a _ _ i k _ (HN1.out _ hW0) HT.out HL.out hz hi).mono ?_
    rintro e w2 ⟨rfl, hb⟩
    replace hW0 := Below.now hW0 hb
    clear hb
    go_wp2_with fail
    go_ret
    exact ⟨ret_bool F.out.symm, hW0⟩
  · have F := Lib.hid (unB_of2 e1 (b := (((tm m ln k i : Nat) : Int) != 0)) rfl)
    go_enter Tryz.func79, Tryz.ntmps79
    go_wp2_with fail
    refine (implTimes_any m ln a _ _ i k _ (HN1.out _ hW0) HT.out HL.out hz hi).mono ?_
    rintro e w2 ⟨rfl, hb⟩
    replace hW0 := Below.now hW0 hb
    clear hb
    go_wp2_with fail
    refine (implTimes_any m ln a _ _ k i _ (HN1.out _ hW0) HT.out HL.out hi hz).mono ?_
    rintro e w3 ⟨rfl, hb⟩
    replace hW0 := Below.now hW0 hb
    clear hb
    go_wp2_with fail
    go_ret
    exact ⟨ret_bool F.out.symm, hW0⟩
set_option maxHeartbeats 800000 in
theorem unitsofOut_pred (m : Nat) (ln : List Nat) (a : Option Addr) (len cap bt : Nat) (w : World) (hx0 : w.cell? ⟨bt, 0, none⟩ = some (.int .i64 m)) (hx1 : w.cell? ⟨bt, 1, none⟩ = some (.slice a len cap))
    (hn : NatsIn w a ln) (hT : Tb m ln) (hlen : len = m * m) :
    PredEl w.heap.size 78 #[.pointer (some ⟨bt, 0, none⟩)] (isUnit m ln) m w := by
  intro z hz W hW
  have k0 : W.cell? ⟨bt, 0, none⟩ = some (.int .i64 m) := by rw [hW.cell (World.block_lt_of_cell? w _ hx0)]; exact hx0
  have k1 : W.cell? ⟨bt, 1, none⟩ = some (.slice a len cap) := by rw [hW.cell (World.block_lt_of_cell? w _ hx1)]; exact hx1
  have hb0 : bt < W.heap.size := World.block_lt_of_cell? W _ k0
  have HN := Lib.hid (hn.later hW)
  have HT := Lib.hid hT
  have HL := Lib.hid hlen
  have hm := hT.hi
  clear hx0 hx1 hn hT hlen hW
  go_enter Tryz.func78, Tryz.ntmps78
  go_wp2_with fail
  have hbel : Below W.heap.size W (W.alloc (.cells #[.int .i64 (z : Nat)] 3)) := (Below.refl _ _).alloc (Nat.le_refl _) _
  have hp := unitsofIn_pred m ln a len cap bt W.heap.size z (W.alloc (.cells #[.int .i64 (z : Nat)] 3)) (by rw [hbel.cell hb0]; exact k0) (by rw [hbel.cell hb0]; exact k1) (by simp) (HN.out.later hbel) HT.out HL.out hz
  refine (all_any _ _ _ (unB m ln z) m a len cap _ (by omega) hp (Nat.le_refl _) (enters_of Tryz.func79 (by kernel_rfl) rfl)).mono ?_
  rintro e w2 ⟨rfl, hb2⟩
  have hbel2 := Below.now hbel hb2
  have HB : Hid (isUnit m ln z = !(List.range m).all (unB m ln z)) := rfl
  clear hp hb2 hbel
  generalize (List.range m).all (unB m ln z) = q at *
  go_wp2_with fail
  go_ret
  exact ⟨ret_bool (by rw [HB.out]), hbel2⟩
set_option maxHeartbeats 800000 in
theorem centerofIn_pred (m : Nat) (ln : List Nat) (a : Option Addr) (len cap bt bz i : Nat) (w : World) (hx0 : w.cell? ⟨bt, 0, none⟩ = some (.int .i64 m)) (hx1 : w.cell? ⟨bt, 1, none⟩ = some (.slice a len cap))
    (hzc : w.cell? ⟨bz, 0, none⟩ = some (.int .i64 (i : Nat))) (hn : NatsIn w a ln) (hT : Tb m ln) (hlen : len = m * m) (hz : i < m) :
    PredEl w.heap.size 62 #[.pointer (some ⟨bt, 0, none⟩), .pointer (some ⟨bz, 0, none⟩)] (cenB m ln i) m w := by
  intro k hi W hW
  have k0 : ∀ x, (wide W x).cell? ⟨bt, 0, none⟩ = some (.int .i64 m) := wide_cell (by rw [hW.cell (World.block_lt_of_cell? w _ hx0)]; exact hx0)
  have k1 : ∀ x, (wide W x).cell? ⟨bt, 1, none⟩ = some (.slice a len cap) := wide_cell (by rw [hW.cell (World.block_lt_of_cell? w _ hx1)]; exact hx1)
  have k2 : ∀ x, (wide W x).cell? ⟨bz, 0, none⟩ = some (.int .i64 (i : Nat)) := wide_cell (by rw [hW.cell (World.block_lt_of_cell? w _ hzc)]; exact hzc)
  have HN : Hid (∀ x, NatsIn (wide W x) a ln) := fun x => (hn.later hW).later (below_wide _ _)
  have g0 : W.cell? ⟨bt, 0, none⟩ = some (.int .i64 m) := by rw [hW.cell (World.block_lt_of_cell? w _ hx0)]; exact hx0
  have g1 : W.cell? ⟨bt, 1, none⟩ = some (.slice a len cap) := by rw [hW.cell (World.block_lt_of_cell? w _ hx1)]; exact hx1
  have g2 : W.cell? ⟨bz, 0, none⟩ = some (.int .i64 (i : Nat)) := by rw [hW.cell (World.block_lt_of_cell? w _ hzc)]; exact hzc
  have HN0 := Lib.hid (hn.later hW)
  have HT := Lib.hid hT
  have HL := Lib.hid hlen
  have hik := hT.tm_lt hz hi
  clear hx0 hx1 hzc hn hT hlen hW
  have F := Lib.hid (cenB_of (m := m) (ln := ln) (i := i) (k := k) rfl)
  go_enter Tryz.func62, Tryz.ntmps62
  go_wp2_with fail
  refine region_wide (by kernel_rfl) (by kernel_rfl) ?_
  repeat (quiet_step ((refine (implTimes_any m ln a _ _ _ _ _ (HN.out _) HT.out HL.out (by first | assumption | exact HT.out.tm_lt (by assumption) (by assumption)) (by assumption)).mono ?_; rintro e w2 ⟨rfl, hb2⟩; exact ⟨rfl, wide_next hb2⟩)))
  refine wpQuiet_nil ?_
  rintro w4 ⟨x4, rfl⟩
  go_wp2_with fail
  go_ret
  exact ⟨ret_bool F.out.symm, below_wide _ _⟩
set_option maxHeartbeats 800000 in
theorem centerofOut_pred (m : Nat) (ln : List Nat) (a : Option Addr) (len cap bt : Nat) (w : World) (hx0 : w.cell? ⟨bt, 0, none⟩ = some (.int .i64 m)) (hx1 : w.cell? ⟨bt, 1, none⟩ = some (.slice a len cap))
    (hn : NatsIn w a ln) (hT : Tb m ln) (hlen : len = m * m) :
    PredEl w.heap.size 61 #[.pointer (some ⟨bt, 0, none⟩)] (isCen m ln) m w := by
  intro z hz W hW
  have k0 : W.cell? ⟨bt, 0, none⟩ = some (.int .i64 m) := by rw [hW.cell (World.block_lt_of_cell? w _ hx0)]; exact hx0
  have k1 : W.cell? ⟨bt, 1, none⟩ = some (.slice a len cap) := by rw [hW.cell (World.block_lt_of_cell? w _ hx1)]; exact hx1
  have hb0 : bt < W.heap.size := World.block_lt_of_cell? W _ k0
  have HN := Lib.hid (hn.later hW)
  have HT := Lib.hid hT
  have HL := Lib.hid hlen
  have hm := hT.hi
  clear hx0 hx1 hn hT hlen hW
  go_enter Tryz.func61, Tryz.ntmps61
  go_wp2_with fail
  have hbel : Below W.heap.size W (W.alloc (.cells #[.int .i64 (z : Nat)] 3)) := (Below.refl _ _).alloc (Nat.le_refl _) _
  have hp := centerofIn_pred m ln a len cap bt W.heap.size z (W.alloc (.cells #[.int .i64 (z : Nat)] 3)) (by rw [hbel.cell hb0]; exact k0) (by rw [hbel.cell hb0]; exact k1) (by simp) (HN.out.later hbel) HT.out HL.out hz
  refine (all_any _ _ _ (cenB m ln z) m a len cap _ (by omega) hp (Nat.le_refl _) (enters_of Tryz.func62 (by kernel_rfl) rfl)).mono ?_
  rintro e w2 ⟨rfl, hb2⟩
  have hbel2 := Below.now hbel hb2
  have HB : Hid (isCen m ln z = (List.range m).all (cenB m ln z)) := rfl
  clear hp hb2 hbel
  generalize (List.range m).all (cenB m ln z) = q at *
  go_wp2_with fail
  go_ret
  exact ⟨ret_bool (by rw [HB.out]), hbel2⟩
/-- UnitsOf as a function of plain data -/
def unitsOfF (n : Int) (l : List Int) : List Int := thoseL n l (isUnit n.toNat (l.map Int.toNat))
set_option maxHeartbeats 800000 in
theorem implUnitsOf_any (n : Int) (l : List Int) (a : Option Addr) (cap : Nat) (w : World) (hl : IntsIn w a l) (hlen : l.length ≤ 2 ^ 47) :
    Calls Tryz.prog 45 #[.agg #[.int .i64 n, .slice a l.length cap]] w (RetSl 3 1 (unitsOfF n l).length (intVals (unitsOfF n l)) w) := by
  have HL := Lib.hid hl
  clear hl
  go_enter Tryz.func45, Tryz.ntmps45
  go_wp2_with fail
  have hbel : Below w.heap.size w (w.alloc (.cells #[.int .i64 n, .slice a l.length cap] 25)) := (Below.refl _ _).alloc (Nat.le_refl _) _
  refine (those_any n l a cap _ (HL.out.later hbel) hlen _ _ _ (isUnit n.toNat (l.map Int.toNat)) (Nat.le_refl _) ?_ (enters_of Tryz.func78 (by kernel_rfl) rfl)).mono ?_
  · intro ht
    obtain ⟨m, ln, rfl, rfl, hT⟩ := tabOk_out ht
    rw [map_toNat]
    exact unitsofOut_pred m ln a (ln.map Int.ofNat).length cap w.heap.size _ (by simp) (by simp) (HL.out.later hbel) hT.toTb (by rw [List.length_map]; exact hT.len)
  rintro e w2 ⟨a2, c2, rfl, ho, hb2⟩
  have F : Hid (RetSl 3 1 (unitsOfF n l).length (intVals (unitsOfF n l)) w (.returned (.slice a2 (unitsOfF n l).length c2)) w2) := ⟨_, _, rfl, owns_mono ho (by simp), Below.now hbel hb2⟩
  have HE : Hid (thoseL n l (isUnit n.toNat (l.map Int.toNat)) = unitsOfF n l) := rfl
  rw [HE.out]
  clear ho hb2 hbel HE
  go_wp2_with fail
  go_ret
  exact F.out
/-- RegularOf as a function of plain data -/
def regularOfF (n : Int) (l : List Int) : List Int := thoseL n l (isReg n.toNat (l.map Int.toNat))
end Go.Proofs.YtngbimgabcacpaaGreat
namespace Go.Proofs.YtngbimgabcacpaaGreat
open Go.RowKit
set_option linter.unusedVariables false
def boolVals (m : Nat) (f : Nat → Bool) : List Value := (List.range m).map fun j => Value.bool (f j)
theorem boolVals_len (m : Nat) (f : Nat → Bool) : (boolVals m f).length = m := by simp [boolVals]
theorem boolVals_at {m j : Nat} {f : Nat → Bool} (h : j < m) : (boolVals m f)[j]? = some (.bool (f j)) := by simp [boolVals, h]
theorem boolVals_congr {m : Nat} {f g : Nat → Bool} (h : ∀ j, j < m → f j = g j) : boolVals m f = boolVals m g := by
  unfold boolVals
  apply List.map_congr_left
  intro j hj
  rw [h j (List.mem_range.1 hj)]
/-- a row of m bools of the call's own, in block g -/
def BoolRow (T : TypeId) (w : World) (base g m : Nat) (f : Nat → Bool) : Prop := w.ownsRow base T 1 (.slice (some ⟨g, 0, none⟩) m m) m (boolVals m f)
theorem BoolRow.cell {T : TypeId} {w : World} {base g m : Nat} {f : Nat → Bool} (h : BoolRow T w base g m f) {j : Nat} (hj : j < m) : w.cell? ⟨g, j, none⟩ = some (.bool (f j)) := by
  have := World.ownsRow.cellAt h j (by omega)
  rw [this, boolVals_at hj]
theorem BoolRow.frozen {T : TypeId} {w : World} {base g m : Nat} {f : Nat → Bool} (h : BoolRow T w base g m f) (j : Nat) : w.frozen? ⟨g, j, none⟩ = false := World.ownsRow.frozenAt h j
theorem BoolRow.range {T : TypeId} {w : World} {base g m : Nat} {f : Nat → Bool} (h : BoolRow T w base g m f) : base ≤ g ∧ g < w.heap.size := World.ownsRow.lt h g rfl
theorem BoolRow.later {T : TypeId} {w w' : World} {base g m : Nat} {f : Nat → Bool} (h : BoolRow T w base g m f) (hb : Below w.heap.size w w') : BoolRow T w' base g m f := owns_later h hb
theorem BoolRow.congr {T : TypeId} {w : World} {base g m : Nat} {f f' : Nat → Bool} (h : BoolRow T w base g m f) (hf : ∀ j, j < m → f j = f' j) : BoolRow T w base g m f' := by
  unfold BoolRow; rw [← boolVals_congr hf]; exact h
theorem BoolRow.store {T : TypeId} {w : World} {base g m : Nat} {f : Nat → Bool} (h : BoolRow T w base g m f) (i : Nat) (v : Bool) : BoolRow T (w.setCell ⟨g, i, none⟩ (.bool v)) base g m (fun j => if j = i then v else f j) := by
  have hs := (World.ownsRow.stored h i (.bool v)).1
  have e : (boolVals m f).set i (.bool v) = boolVals m (fun j => if j = i then v else f j) := by
    apply List.ext_getElem?
    intro j
    rw [List.getElem?_set, boolVals_len]
    by_cases hj : j < m
    · rw [boolVals_at (f := fun j => if j = i then v else f j) hj]
      by_cases e : i = j
      · subst e; simp [hj]
      · rw [if_neg e, boolVals_at hj, if_neg (by omega)]
    · rw [List.getElem?_eq_none (l := boolVals m fun j => if j = i then v else f j) (by rw [boolVals_len]; omega)]
      by_cases e : i = j
      · subst e; simp [hj]
      · rw [if_neg e, List.getElem?_eq_none (by rw [boolVals_len]; omega)]
  unfold BoolRow
  rw [← e]
  exact hs
theorem BoolRow.start (w : World) (T : TypeId) (cs : Array Value) (m : Nat) (hs : cs.toList = boolVals m fun _ => false) (hn : m ≤ maxLen) : BoolRow T (w.alloc (.cells cs T)) w.heap.size w.heap.size m fun _ => false := by
  have h := World.ownsRow_lit (e := T) (size := 1) w cs m (Nat.le_refl _) hn (by rw [← Array.length_toList, hs, boolVals_len]; omega)
  rw [hs] at h
  exact h
theorem made_bools (m : Nat) : (madeCells #[.bool false] m).toList = boolVals m fun _ => false := by
  rw [toList_madeCells_one]
  apply List.ext_getElem
  · simp [boolVals]
  · intro i h1 h2; simp [boolVals]
theorem BoolRow.ge {T : TypeId} {w : World} {base base' g m : Nat} {f : Nat → Bool} (h : BoolRow T w base g m f) (hb : base' ≤ base) : BoolRow T w base' g m f := owns_mono h hb
end Go.Proofs.YtngbimgabcacpaaGreat
namespace Go.Proofs.YtngbimgabcacpaaGreat
open Go.RowKit
set_option linter.unusedVariables false
/-- the first x of them hold -/
def allN (p : Nat → Bool) (x : Nat) : Bool := (List.range x).all p
theorem allN_zero (p : Nat → Bool) : allN p 0 = true := by simp [allN]
theorem allN_succ (p : Nat → Bool) (x : Nat) : allN p (x + 1) = (allN p x && p x) := by simp [allN, List.range_succ]
theorem zeroF_at {m : Nat} {ln : List Nat} (ht : tabB (m : Nat) (ln.map Int.ofNat) = true) {c : Nat} (hn : ∀ z, z < c → zeroB m ln z = false) (hc : c < m) (hz : zeroB m ln c = true) : zeroF (m : Nat) (ln.map Int.ofNat) = (c : Nat) := by
  unfold zeroF thoseL
  rw [ht, map_toNat]
  simp only [if_true, Int.toNat_natCast]
  have h1 : (List.range m).filter (zeroB m ln) = c :: ((List.range m).drop (c + 1)).filter (zeroB m ln) := by
    have h2 : List.range m = (List.range m).take c ++ (c :: (List.range m).drop (c + 1)) := by
      have hd : (List.range m).drop c = c :: (List.range m).drop (c + 1) := by rw [List.drop_eq_getElem_cons (by simpa using hc)]; simp
      rw [← hd, List.take_append_drop]
    rw [h2, List.filter_append, List.filter_cons, if_pos hz]
    have h3 : ((List.range m).take c).filter (zeroB m ln) = [] := by
      rw [List.filter_eq_nil_iff]
      intro z hz
      rw [List.take_range] at hz
      have := hn z (by have := List.mem_range.1 hz; omega)
      simp [this]
    rw [h3, ← h2]
    simp
  rw [h1]
  rfl
theorem zeroF_none {m : Nat} {ln : List Nat} {c : Nat} (hn : ∀ z, z < c → zeroB m ln z = false) (hc : ¬ c < m) : zeroF (m : Nat) (ln.map Int.ofNat) = -1 := by
  unfold zeroF thoseL
  rw [map_toNat]
  simp only [Int.toNat_natCast]
  have h1 : (List.range m).filter (zeroB m ln) = [] := by
    rw [List.filter_eq_nil_iff]
    intro z hz
    have := hn z (by have := List.mem_range.1 hz; omega)
    simp [this]
  rw [h1]
  split <;> rfl
theorem zeroF_not {n : Int} {l : List Int} (h : tabB n l = false) : zeroF n l = -1 := by unfold zeroF thoseL; rw [h]; rfl
theorem noneZ_succ {p : Nat → Bool} {c : Nat} (h : ∀ z, z < c → p z = false) (hc : p c = false) : ∀ z, z < c + 1 → p z = false := fun z hz => by
  by_cases e : z = c
  · rw [e]; exact hc
  · exact h z (by omega)
end Go.Proofs.YtngbimgabcacpaaGreat
namespace Go.Proofs.YtngbimgabcacpaaGreat
open Go.RowKit
set_option linter.unusedVariables false
/-- the inverse of an element, or -1 -/
def invB (m : Nat) (ln : List Nat) (i k : Nat) : Bool := decide (tm m ln i k = 0) && decide (tm m ln k i = 0)
def invF (m : Nat) (ln : List Nat) (i : Nat) : Int := match (List.range m).find? (invB m ln i) with | some k => (k : Nat) | none => -1
theorem invB_un (m : Nat) (ln : List Nat) (i k : Nat) : invB m ln i k = !unB m ln i k := by simp [invB, unB]
theorem find_at {m : Nat} {p : Nat → Bool} {k : Nat} (hn : ∀ z, z < k → p z = false) (hk : k < m) (hp : p k = true) : (List.range m).find? p = some k := by
  rw [List.find?_eq_some_iff_getElem]
  refine ⟨hp, k, by simpa using hk, by simp, fun j hj => ?_⟩
  simp [hn j hj]
theorem invF_at {m : Nat} {ln : List Nat} {i k : Nat} (hn : ∀ z, z < k → invB m ln i z = false) (hk : k < m) (hp : invB m ln i k = true) : invF m ln i = (k : Nat) := by
  unfold invF; rw [find_at hn hk hp]
theorem invF_none {m : Nat} {ln : List Nat} {i k : Nat} (hn : ∀ z, z < k → invB m ln i z = false) (hk : ¬ k < m) : invF m ln i = -1 := by
  unfold invF
  have : (List.range m).find? (invB m ln i) = none := by
    rw [List.find?_eq_none]
    intro z hz
    have := hn z (by have := List.mem_range.1 hz; omega)
    simp [this]
  rw [this]
theorem invF_unit (m : Nat) (ln : List Nat) (i : Nat) : decide (0 ≤ invF m ln i) = isUnit m ln i := by
  unfold invF isUnit
  cases h : (List.range m).find? (invB m ln i)
  · rw [List.find?_eq_none] at h
    have : (List.range m).all (unB m ln i) = true := all_range.2 fun k hk => by
      have := h k (List.mem_range.2 hk)
      rw [invB_un] at this
      simpa using this
    rw [this]; rfl
  · rename_i k
    have h1 := List.find?_some h
    have h2 := List.mem_of_find?_eq_some h
    have : (List.range m).all (unB m ln i) = false := all_range_false (List.mem_range.1 h2) (by rw [invB_un] at h1; simpa using h1)
    rw [this]; simp
theorem invF_lt {m : Nat} {ln : List Nat} {i : Nat} : invF m ln i = -1 ∨ ∃ k : Nat, invF m ln i = (k : Nat) ∧ k < m ∧ invB m ln i k = true := by
  unfold invF
  cases h : (List.range m).find? (invB m ln i)
  · left; rfl
  · rename_i k
    right
    exact ⟨k, rfl, List.mem_range.1 (List.mem_of_find?_eq_some h), List.find?_some h⟩
theorem invB_of1 {m : Nat} {ln : List Nat} {i k : Nat} (h : (((tm m ln i k : Nat) : Int) == 0) = false) : invB m ln i k = false := by
  simp at h; simp [invB, h]
theorem invB_of2 {m : Nat} {ln : List Nat} {i k : Nat} (h : (((tm m ln i k : Nat) : Int) == 0) = true) {b : Bool} (h2 : (((tm m ln k i : Nat) : Int) == 0) = b) : invB m ln i k = b := by
  cases b <;> simp at h h2 <;> simp [invB, h, h2]
set_option maxHeartbeats 800000 in
theorem l08Inverse_any (m : Nat) (ln : List Nat) (a : Option Addr) (len cap i : Nat) (w : World) (hl : NatsIn w a ln) (hT : Tb m ln) (hlen : len = m * m) (hi : i < m) :
    Calls Tryz.prog 103 #[.agg #[.int .i64 m, .slice a len cap], .int .i64 i] w fun e w' => e = .returned (.int .i64 (invF m ln i)) ∧ Below w.heap.size w w' := by
  have HT := Lib.hid hT
  have HL := Lib.hid hlen
  have HN := Lib.hid hl
  have hm := hT.hi
  clear hl hT hlen
  go_enter Tryz.func103, Tryz.ntmps103
  go_wp2_with fail
  obtain ⟨w1, hw1⟩ : ∃ w1, w1 = w.alloc (.cells #[.int .i64 (m : Nat), .slice a len cap] 25) := ⟨_, rfl⟩
  have hb1 : Below w.heap.size w w1 := by rw [hw1]; exact (Below.refl _ _).alloc (Nat.le_refl _) _
  have hx0 : ∀ W, Below w1.heap.size w1 W → W.cell? ⟨w.heap.size, 0, none⟩ = some (.int .i64 (m : Nat)) := fun W hW => by rw [hW.cell (by rw [hw1]; simp), hw1]; simp
  have hx1 : ∀ W, Below w1.heap.size w1 W → W.cell? ⟨w.heap.size, 1, none⟩ = some (.slice a len cap) := fun W hW => by rw [hW.cell (by rw [hw1]; simp), hw1]; simp
  have HN1 : Hid (∀ W, Below w1.heap.size w1 W → NatsIn W a ln) := fun W hW => (HN.out.later hb1).later hW
  rw [← hw1]
  have HB := Lib.hid hb1
  have hb0 := Below.refl w1.heap.size w1
  clear hw1 hb1 HN
  go_loopw [5] (fun i' wr => ∃ k : Nat, k ≤ m ∧ i' = .int .i64 k ∧ Below w1.heap.size w1 wr ∧ ∀ z, z < k → invB m ln i z = false) (fun i' _ => m - (intOf i').toNat)
  case atStart => exact ⟨0, Nat.zero_le _, rfl, Below.refl _ _, fun _ h => absurd h (Nat.not_lt_zero _)⟩
  case round =>
    clear hb0
    obtain ⟨k, hk, rfl, hbw, hn⟩ := hrel
    have HR := Lib.hid hn
    clear hn
    by_cases hlt : k < m
    · go_wp2_with fail
      refine (specTimes_any m ln a _ _ i k _ (HN1.out _ hbw) HT.out HL.out hi hlt).mono ?_
      rintro e w2 ⟨rfl, hb2⟩
      replace hbw := Below.now hbw hb2
      clear hb2
      cases e1 : (((tm m ln i k : Nat) : Int) == 0)
      · have F := Lib.hid (noneZ_succ HR.out (invB_of1 e1))
        go_wp2_with fail
        go_roundw
        case rel => exact ⟨k + 1, by omega, by go_num, hbw, F.out⟩
        case measure => simp [intOf]; omega
      · go_wp2_with fail
        refine (specTimes_any m ln a _ _ k i _ (HN1.out _ hbw) HT.out HL.out hlt hi).mono ?_
        rintro e w3 ⟨rfl, hb2⟩
        replace hbw := Below.now hbw hb2
        clear hb2
        cases e2 : (((tm m ln k i : Nat) : Int) == 0)
        · have F := Lib.hid (noneZ_succ HR.out (invB_of2 e1 e2))
          go_wp2_with fail
          go_roundw
          case rel => exact ⟨k + 1, by omega, by go_num, hbw, F.out⟩
          case measure => simp [intOf]; omega
        · have F := Lib.hid (invF_at HR.out hlt (invB_of2 e1 e2))
          go_wp2_with fail
          go_ret
          exact ⟨ret_int F.out.symm, Below.now HB.out hbw⟩
    · have F := Lib.hid (invF_none HR.out hlt)
      go_wp2_with fail
      go_ret
      exact ⟨ret_int F.out.symm, Below.now HB.out hbw⟩
theorem thoseL_not {n : Int} {l : List Int} {p : Nat → Bool} (h : tabB n l = false) : thoseL n l p = [] := by unfold thoseL; rw [h]; rfl
theorem thoseL_yes {m : Nat} {l : List Int} {p : Nat → Bool} (h : tabB (m : Nat) l = true) : thoseL (m : Nat) l p = listTo p m := by unfold thoseL; rw [h]; rfl
theorem thoseL_len (n : Int) (l : List Int) (p : Nat → Bool) : (thoseL n l p).length ≤ 1000 := by
  cases h : tabB n l
  · rw [thoseL_not h]; simp
  · obtain ⟨m, ln, rfl, rfl, hT⟩ := tabOk_out h
    rw [thoseL_yes h]
    have := listTo_len p m
    have := hT.hi
    omega
theorem unitsOfF_len (n : Int) (l : List Int) : (unitsOfF n l).length ≤ 1000 := thoseL_len _ _ _
theorem regularOfF_len (n : Int) (l : List Int) : (regularOfF n l).length ≤ 1000 := thoseL_len _ _ _
set_option maxRecDepth 100000 in
set_option maxHeartbeats 1000000 in
theorem specUnitsOf_any (n : Int) (l : List Int) (a : Option Addr) (cap : Nat) (w : World) (hl : IntsIn w a l) (hlen : l.length ≤ 2 ^ 47) :
    Calls Tryz.prog 72 #[.agg #[.int .i64 n, .slice a l.length cap]] w (RetSl 3 1 (unitsOfF n l).length (intVals (unitsOfF n l)) w) := by
  have HI := Lib.hid hl
  clear hl
  cases ht : tabB n l
  · have F : Hid (∀ w', Below w.heap.size w w' → RetSl 3 1 (unitsOfF n l).length (intVals (unitsOfF n l)) w (.returned (.slice none 0 0)) w') := fun w' hb => by
      rw [show unitsOfF n l = [] from thoseL_not ht]; exact retSl_nil _ _ _ hb
    go_enter Tryz.func72, Tryz.ntmps72
    go_wp2_with fail
    refine (specTableOk_any n l a cap _ (HI.out.later ((Below.refl _ _).alloc (Nat.le_refl _) _)) hlen).mono ?_
    rintro e w2 ⟨rfl, hb2⟩
    have hbel := Below.now ((Below.refl w.heap.size w).alloc (Nat.le_refl _) _) hb2
    clear hb2
    go_wp2_with fail
    go_ret
    exact F.out _ hbel
  obtain ⟨m, ln, rfl, hlm, hT⟩ := tabOk_out ht
  have HT := Lib.hid hT.toTb
  have hm0 := hT.lo
  have hm1 := hT.hi
  have HLM := Lib.hid hlm
  have HTB := Lib.hid ht
  have HLL : Hid (l.length = m * m) := by rw [hlm, List.length_map]; exact hT.len
  clear hT hlm
  go_enter Tryz.func72, Tryz.ntmps72
  go_wp2_with fail
  refine (specTableOk_any _ l a cap _ (HI.out.later ((Below.refl _ _).alloc (Nat.le_refl _) _)) hlen).mono ?_
  rintro e w1 ⟨rfl, hb1⟩
  have hx0 := box_later hb1 (i := 0) (v := .int .i64 (m : Nat)) rfl
  have hx1 := box_later hb1 (i := 1) (v := .slice a l.length cap) rfl
  have HN1 : Hid (∀ W, Below w1.heap.size w1 W → NatsIn W a ln) := fun W hW => by
    unfold NatsIn
    rw [← HLM.out]
    exact (HI.out.later (Below.now ((Below.refl _ _).alloc (Nat.le_refl _) _) hb1)).later hW
  have hbel := Lib.hid (Below.now ((Below.refl w.heap.size w).alloc (Nat.le_refl _) _) hb1)
  have hb0 := Below.refl w1.heap.size w1
  clear hb1 HI
  go_wp2_with fail
  have HF : Hid (unitsOfF (m : Nat) l = listTo (isUnit m ln) m) := by unfold unitsOfF; rw [thoseL_yes HTB.out, HLM.out, map_toNat]; rfl
  have HS := Lib.hid (Bld.empty 3 1 w1)
  obtain ⟨w2, hw2⟩ : ∃ w2, w2 = w1.alloc (.cells #[] 3) := ⟨_, rfl⟩
  rw [← hw2] at HS
  rw [← hw2]
  clear hw2 hb0
  go_loopw [3, 4] (fun v i wr => ∃ c : Nat, c ≤ m ∧ i = .int .i64 c ∧ Bld 3 1 w1 wr v (listTo (isUnit m ln) c).length (intVals (listTo (isUnit m ln) c))) (fun _ i _ => m - (intOf i).toNat)
  case atStart => exact ⟨0, Nat.zero_le _, rfl, HS.out⟩
  case round =>
    clear HS
    obtain ⟨c, hcm, rfl, hbd⟩ := hrel
    have HB := Lib.hid hbd
    have hbw := hbd.2
    have hln := listTo_len (isUnit m ln) c
    clear hbd
    by_cases hlt : c < m
    · go_wp2_with fail
      refine (l08Inverse_any m ln a _ _ c _ (HN1.out _ hbw) HT.out HLL.out hlt).mono ?_
      rintro e w3 ⟨rfl, hb3⟩
      replace hbw := Below.now hbw hb3
      replace HB := Lib.hid (HB.out.later hb3)
      have hu := invF_unit m ln c
      clear hb3
      cases hq : isUnit m ln c
      · rw [hq] at hu
        have F := Lib.hid (listTo_no hq)
        go_wp2_with fail
        go_roundw
        case rel => exact ⟨c + 1, by omega, by go_num, by rw [F.out]; exact HB.out⟩
        case measure => simp [intOf]; omega
      · rw [hq] at hu
        have F := Lib.hid (listTo_yes hq)
        go_wp2_with (at_builtin; refine wpList_app1 rfl _ _ rfl Tryz.underlying23 Tryz.infoInt rfl (by decide) rfl HB.out rfl rfl ?c1 ?c2 ?c3 ?c4)
        case c1 => simp [Value.oneCell']
        case c2 => unfold maxLen; omega
        case c3 => omega
        intro v2 w4 hb2
        have F2 : Hid (Bld 3 1 w1 w4 v2 (listTo (isUnit m ln) (c + 1)).length (intVals (listTo (isUnit m ln) (c + 1)))) := by
          rw [F.out, List.length_append]; unfold intVals at *; rw [List.map_append]; exact hb2
        clear hb2
        go_wp2_with fail
        go_roundw
        case rel => exact ⟨c + 1, by omega, by go_num, F2.out⟩
        case measure => simp [intOf]; omega
    · obtain rfl : c = m := by omega
      have F : Hid (RetSl 3 1 (unitsOfF (c : Nat) l).length (intVals (unitsOfF (c : Nat) l)) w (.returned u3) wr) := by
        rw [HF.out]; exact (HB.out.since hbel.out).ret
      go_wp2_with fail
      go_ret
      exact F.out
/-- IsGroup as a function of plain data -/
def groupB (n : Int) (l : List Int) : Bool := tabB n l && decide ((((unitsOfF n l).length : Nat) : Int) = n)
theorem groupB_not {n : Int} {l : List Int} (h : tabB n l = false) : groupB n l = false := by simp [groupB, h]
theorem groupB_yes {n : Int} {l : List Int} (h : tabB n l = true) : groupB n l = ((((unitsOfF n l).length : Nat) : Int) == n) := by
  simp only [groupB, h, Bool.true_and]; rfl
set_option maxHeartbeats 1000000 in
theorem specIsGroup_any (n : Int) (l : List Int) (a : Option Addr) (cap : Nat) (w : World) (hl : IntsIn w a l) (hlen : l.length ≤ 2 ^ 47) :
    Calls Tryz.prog 33 #[.agg #[.int .i64 n, .slice a l.length cap]] w fun e w' => e = .returned (.bool (groupB n l)) ∧ Below w.heap.size w w' := by
  have HI := Lib.hid hl
  clear hl
  have HE : Hid (groupB n l = (tabB n l && ((((unitsOfF n l).length : Nat) : Int) == n))) := rfl
  go_enter Tryz.func33, Tryz.ntmps33
  go_wp2_with fail
  obtain ⟨w0, hw0⟩ : ∃ w0, w0 = w.alloc (.cells #[.int .i64 n, .slice a l.length cap] 25) := ⟨_, rfl⟩
  have HX : Hid (Below w.heap.size w w0) := by rw [hw0]; exact (Below.refl _ _).alloc (Nat.le_refl _) _
  have hx0 : ∀ W, Below w0.heap.size w0 W → W.cell? ⟨w.heap.size, 0, none⟩ = some (.int .i64 n) := fun W hW => by rw [hW.cell (by rw [hw0]; simp), hw0]; simp
  have hx1 : ∀ W, Below w0.heap.size w0 W → W.cell? ⟨w.heap.size, 1, none⟩ = some (.slice a l.length cap) := fun W hW => by rw [hW.cell (by rw [hw0]; simp), hw0]; simp
  rw [← hw0]
  clear hw0
  have z0 := hx0 _ (Below.refl _ _)
  have z1 := hx1 _ (Below.refl _ _)
  cases ht : tabB n l
  · have q0 : ∀ x, (wide w0 x).cell? ⟨w.heap.size, 0, none⟩ = some (.int .i64 n) := wide_cell z0
    have q1 : ∀ x, (wide w0 x).cell? ⟨w.heap.size, 1, none⟩ = some (.slice a l.length cap) := wide_cell z1
    clear hx0 hx1 z0 z1
    refine region_wide (by kernel_rfl) (by kernel_rfl) ?_
    repeat (quiet_step ((refine (specTableOk_any n l a cap _ ((HI.out.later HX.out).later (below_wide _ _)) hlen).mono ?_; rintro e w2 ⟨h2, hb2⟩; rw [ht] at h2; subst h2; exact ⟨rfl, wide_next hb2⟩)))
    refine wpQuiet_nil ?_
    rintro w4 ⟨x4, rfl⟩
    have hend := Below.now HX.out (below_wide w0 x4)
    clear q0 q1
    go_wp2_with fail
    go_ret
    exact ⟨ret_bool (by rw [HE.out, ht]; rfl), hend⟩
  · go_region_held3 (fun w' => w'.cell? ⟨w.heap.size, 0, none⟩ = some (.int .i64 n) ∧ w'.cell? ⟨w.heap.size, 1, none⟩ = some (.slice a l.length cap)) (go_keep) (first | (go_at_call 71; refine (specTableOk_any n l a cap _ (HI.out.later (by repeat (first | exact HX.out | refine Below.drew ?_))) hlen).mono ?_; rintro e w2 ⟨h2, hb2⟩; rw [ht] at h2; subst h2; have k2 : Below w0.heap.size w0 w2 := Below.now (by repeat (first | exact Below.refl _ _ | refine Below.drew ?_)) hb2; have y0 := hx0 _ k2; have y1 := hx1 _ k2; clear hb2) | (go_at_call 72; refine (specUnitsOf_any n l a cap _ (HI.out.later (Below.now HX.out k2)) hlen).mono ?_; rintro e w3 ⟨a3, c3, rfl, ho, hb3⟩; have k3 : Below w0.heap.size w0 w3 := Below.now k2 hb3; have u0 := hx0 _ k3; have u1 := hx1 _ k3; clear hb3 ho))
    all_goals
      have hend := Below.now HX.out k3
      clear hx0 hx1 z0 z1
      go_wp2_with fail
      go_ret
      exact ⟨ret_bool (by rw [HE.out, ht]; rfl), hend⟩
set_option maxHeartbeats 1000000 in
theorem implIsGroup_any (n : Int) (l : List Int) (a : Option Addr) (cap : Nat) (w : World) (hl : IntsIn w a l) (hlen : l.length ≤ 2 ^ 47) :
    Calls Tryz.prog 13 #[.agg #[.int .i64 n, .slice a l.length cap]] w fun e w' => e = .returned (.bool (groupB n l)) ∧ Below w.heap.size w w' := by
  have HI := Lib.hid hl
  clear hl
  have HE : Hid (groupB n l = (tabB n l && ((((unitsOfF n l).length : Nat) : Int) == n))) := rfl
  go_enter Tryz.func13, Tryz.ntmps13
  go_wp2_with fail
  obtain ⟨w0, hw0⟩ : ∃ w0, w0 = w.alloc (.cells #[.int .i64 n, .slice a l.length cap] 25) := ⟨_, rfl⟩
  have HX : Hid (Below w.heap.size w w0) := by rw [hw0]; exact (Below.refl _ _).alloc (Nat.le_refl _) _
  have hx0 : ∀ W, Below w0.heap.size w0 W → W.cell? ⟨w.heap.size, 0, none⟩ = some (.int .i64 n) := fun W hW => by rw [hW.cell (by rw [hw0]; simp), hw0]; simp
  have hx1 : ∀ W, Below w0.heap.size w0 W → W.cell? ⟨w.heap.size, 1, none⟩ = some (.slice a l.length cap) := fun W hW => by rw [hW.cell (by rw [hw0]; simp), hw0]; simp
  rw [← hw0]
  clear hw0
  have z0 := hx0 _ (Below.refl _ _)
  have z1 := hx1 _ (Below.refl _ _)
  cases ht : tabB n l
  · have q0 : ∀ x, (wide w0 x).cell? ⟨w.heap.size, 0, none⟩ = some (.int .i64 n) := wide_cell z0
    have q1 : ∀ x, (wide w0 x).cell? ⟨w.heap.size, 1, none⟩ = some (.slice a l.length cap) := wide_cell z1
    clear hx0 hx1 z0 z1
    refine region_wide (by kernel_rfl) (by kernel_rfl) ?_
    repeat (quiet_step ((refine (implTableOk_any n l a cap _ ((HI.out.later HX.out).later (below_wide _ _)) hlen).mono ?_; rintro e w2 ⟨h2, hb2⟩; rw [ht] at h2; subst h2; exact ⟨rfl, wide_next hb2⟩)))
    refine wpQuiet_nil ?_
    rintro w4 ⟨x4, rfl⟩
    have hend := Below.now HX.out (below_wide w0 x4)
    clear q0 q1
    go_wp2_with fail
    go_ret
    exact ⟨ret_bool (by rw [HE.out, ht]; rfl), hend⟩
  · go_region_held3 (fun w' => w'.cell? ⟨w.heap.size, 0, none⟩ = some (.int .i64 n) ∧ w'.cell? ⟨w.heap.size, 1, none⟩ = some (.slice a l.length cap)) (go_keep) (first | (go_at_call 44; refine (implTableOk_any n l a cap _ (HI.out.later (by repeat (first | exact HX.out | refine Below.drew ?_))) hlen).mono ?_; rintro e w2 ⟨h2, hb2⟩; rw [ht] at h2; subst h2; have k2 : Below w0.heap.size w0 w2 := Below.now (by repeat (first | exact Below.refl _ _ | refine Below.drew ?_)) hb2; have y0 := hx0 _ k2; have y1 := hx1 _ k2; clear hb2) | (go_at_call 45; refine (implUnitsOf_any n l a cap _ (HI.out.later (Below.now HX.out k2)) hlen).mono ?_; rintro e w3 ⟨a3, c3, rfl, ho, hb3⟩; have k3 : Below w0.heap.size w0 w3 := Below.now k2 hb3; have u0 := hx0 _ k3; have u1 := hx1 _ k3; clear hb3 ho))
    all_goals
      have hend := Below.now HX.out k3
      clear hx0 hx1 z0 z1
      go_wp2_with fail
      go_ret
      exact ⟨ret_bool (by rw [HE.out, ht]; rfl), hend⟩
end Go.Proofs.YtngbimgabcacpaaGreat
