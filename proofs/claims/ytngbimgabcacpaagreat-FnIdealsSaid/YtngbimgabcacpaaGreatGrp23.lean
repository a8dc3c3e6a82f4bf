/-
  Sorted lists of integers, each once.
-/
import Derived.Test.YtngbimgabcacpaaGreatGrp22
import Derived.Test.YtngbimgabcacpaaGreatGrp01
import Derived.Test.YtngbimgabcacpaaGreatGrp02
import Derived.Test.YtngbimgabcacpaaGreatGrp20
import Derived.Lib.SlicesCompact
namespace Go.Proofs.YtngbimgabcacpaaGreat
open Go.RowKit
set_option linter.unusedVariables false
def unB (m : Nat) (ln : List Nat) (i k : Nat) : Bool := !(decide (tm m ln i k = 0) && decide (tm m ln k i = 0))
def isUnit (m : Nat) (ln : List Nat) (i : Nat) : Bool := !(List.range m).all (unB m ln i)
def regB (m : Nat) (ln : List Nat) (i x : Nat) : Bool := !decide (tm m ln (tm m ln i x) i = i)
def isReg (m : Nat) (ln : List Nat) (i : Nat) : Bool := !(List.range m).all (regB m ln i)
def cenB (m : Nat) (ln : List Nat) (i k : Nat) : Bool := decide (tm m ln i k = tm m ln k i)
def isCen (m : Nat) (ln : List Nat) (i : Nat) : Bool := (List.range m).all (cenB m ln i)
theorem unB_of1 {m : Nat} {ln : List Nat} {i k : Nat} (h : (((tm m ln i k : Nat) : Int) != 0) = true) : unB m ln i k = true := by
  simp at h; simp [unB, h]
theorem unB_of2 {m : Nat} {ln : List Nat} {i k : Nat} (h : (((tm m ln i k : Nat) : Int) != 0) = false) {b : Bool} (h2 : (((tm m ln k i : Nat) : Int) != 0) = b) : unB m ln i k = b := by
  cases b <;> simp at h h2 <;> simp [unB, h, h2]
theorem regB_of {m : Nat} {ln : List Nat} {i k : Nat} {b : Bool} (h2 : (((tm m ln (tm m ln i k) i : Nat) : Int) != (i : Nat)) = b) : regB m ln i k = b := by
  cases b <;> simp at h2 <;> simp [regB] <;> omega
theorem cenB_of {m : Nat} {ln : List Nat} {i k : Nat} {b : Bool} (h2 : (((tm m ln i k : Nat) : Int) == ((tm m ln k i : Nat) : Int)) = b) : cenB m ln i k = b := by
  cases b <;> simp at h2 <;> simp [cenB] <;> omega
set_option maxHeartbeats 800000 in
theorem unitsofIn_pred (m : Nat) (ln : List Nat) (a : Option Addr) (len cap bt bz i : Nat) (w : World) (hx0 : w.cell? ⟨bt, 0, none⟩ = some (.int .i64 m)) (hx1 : w.cell? ⟨bt, 1, none⟩ = some (.slice a len cap))
    (hzc : w.cell? ⟨bz, 0, none⟩ = some (.int .i64 (i : Nat))) (hn : NatsIn w a ln) (hT : Tb m ln) (hlen : len = m * m) (hz : i < m) :
    PredEl w.heap.size 79 #[.pointer (some ⟨bt, 0, none⟩), .pointer (some ⟨bz, 0, none⟩)] (unB m ln i) m w := by
  intro k hi W hW
  have k0 : ∀ x, (wide W x).cell? ⟨bt, 0, none⟩ = some (.int .i64 m) := wide_cell (by rw [hW.cell (World.block_lt_of_cell? w _ hx0)]; exact hx0)
  have k1 : ∀ x, (wide W x).cell? ⟨bt, 1, none⟩ = some (.slice a len cap) := wide_cell (by rw [hW.cell (World.block_lt_of_cell? w _ hx1)]; exact hx1)
  have k2 : ∀ x, (wide W x).cell? ⟨bz, 0, none⟩ = some (.int .i64 (i : Nat)) := wide_cell (by rw [hW.cell (World.block_lt_of_cell? w _ hzc)]; exact hzc)
  have HN : Hid (∀ x, NatsIn (wide W x) a ln) := fun x => (hn.later hW).later (below_wide _ _)
  have g0 : W.cell? ⟨bt, 0, none⟩ = some (.int .i64 m) := by rw [hW.cell (World.block_lt_of_cell? w _ hx0)]; exact hx0
  have g1 : W.cell? ⟨bt, 1, none⟩ = some (.slice a len cap) := by rw [hW.cell (World.block_lt_of_cell? w _ hx1)]; exact hx1
  have g2 : W.cell? ⟨bz, 0, none⟩ = some (.int .i64 (i : Nat)) := by rw [hW.cell (World.block_lt_of_cell? w _ hzc)]; exact hzc
  have HN0 := Lib.hid (hn.later hW)
  have HT := Lib.hid hT
  have HL := Lib.hid hlen
  have hik := hT.tm_lt hz hi
  clear hx0 hx1 hzc hn hT hlen hW
  have j0 : ∀ W', Below W.heap.size W W' → W'.cell? ⟨bt, 0, none⟩ = some (.int .i64 m) := fun W' h => (h.cell (World.block_lt_of_cell? _ _ g0)).trans g0
  have j1 : ∀ W', Below W.heap.size W W' → W'.cell? ⟨bt, 1, none⟩ = some (.slice a len cap) := fun W' h => (h.cell (World.block_lt_of_cell? _ _ g1)).trans g1
  have j2 : ∀ W', Below W.heap.size W W' → W'.cell? ⟨bz, 0, none⟩ = some (.int .i64 (i : Nat)) := fun W' h => (h.cell (World.block_lt_of_cell? _ _ g2)).trans g2
  have HN1 : Hid (∀ W', Below W.heap.size W W' → NatsIn W' a ln) := fun W' h => (HN0.out).later h
  have hW0 := Below.refl W.heap.size W
  clear g0 g1 g2 HN0
  cases e1 : (((tm m ln i k : Nat) : Int) != 0)
  rotate_left
  · have F := Lib.hid (unB_of1 e1)
    go_enter Tryz.func79, Tryz.ntmps79
    go_wp2_with fail
    refine (implTimes_any m ln a _ _ i k _ (HN1.out _ hW0) HT.out HL.out hz hi).mono ?_
    rintro e w2 ⟨rfl, hb⟩
    replace hW0 := Below.now hW0 hb
    clear hb
    go_wp2_with fail
    go_ret
    exact ⟨ret_bool F.out.symm, hW0⟩
  · have F := Lib.hid (unB_of2 e1 (b := (((tm m ln k i : Nat) : Int) != 0)) rfl)
    go_enter Tryz.func79, Tryz.ntmps79
    go_wp2_with fail
    refine (implTimes_any m ln a _ _ i k _ (HN1.out _ hW0) HT.out HL.out hz hi).mono ?_
    rintro e w2 ⟨rfl, hb⟩
    replace hW0 := Below.now hW0 hb
    clear hb
    go_wp2_with fail
    refine (implTimes_any m ln a _ _ k i _ (HN1.out _ hW0) HT.out HL.out hi hz).mono ?_
    rintro e w3 ⟨rfl, hb⟩
    replace hW0 := Below.now hW0 hb
    clear hb
    go_wp2_with fail
    go_ret
    exact ⟨ret_bool F.out.symm, hW0⟩
set_option maxHeartbeats 800000 in
theorem unitsofOut_pred (m : Nat) (ln : List Nat) (a : Option Addr) (len cap bt : Nat) (w : World) (hx0 : w.cell? ⟨bt, 0, none⟩ = some (.int .i64 m)) (hx1 : w.cell? ⟨bt, 1, none⟩ = some (.slice a len cap))
    (hn : NatsIn w a ln) (hT : Tb m ln) (hlen : len = m * m) :
    PredEl w.heap.size 78 #[.pointer (some ⟨bt, 0, none⟩)] (isUnit m ln) m w := by
  intro z hz W hW
  have k0 : W.cell? ⟨bt, 0, none⟩ = some (.int .i64 m) := by rw [hW.cell (World.block_lt_of_cell? w _ hx0)]; exact hx0
  have k1 : W.cell? ⟨bt, 1, none⟩ = some (.slice a len cap) := by rw [hW.cell (World.block_lt_of_cell? w _ hx1)]; exact hx1
  have hb0 : bt < W.heap.size := World.block_lt_of_cell? W _ k0
  have HN := Lib.hid (hn.later hW)
  have HT := Lib.hid hT
  have HL := Lib.hid hlen
  have hm := hT.hi
  clear hx0 hx1 hn hT hlen hW
  go_enter Tryz.func78, Tryz.ntmps78
  go_wp2_with fail
  have hbel : Below W.heap.size W (W.alloc (.cells #[.int .i64 (z : Nat)] 3)) := (Below.refl _ _).alloc (Nat.le_refl _) _
  have hp := unitsofIn_pred m ln a len cap bt W.heap.size z (W.alloc (.cells #[.int .i64 (z : Nat)] 3)) (by rw [hbel.cell hb0]; exact k0) (by rw [hbel.cell hb0]; exact k1) (by simp) (HN.out.later hbel) HT.out HL.out hz
  refine (all_any _ _ _ (unB m ln z) m a len cap _ (by omega) hp (Nat.le_refl _) (enters_of Tryz.func79 (by kernel_rfl) rfl)).mono ?_
  rintro e w2 ⟨rfl, hb2⟩
  have hbel2 := Below.now hbel hb2
  have HB : Hid (isUnit m ln z = !(List.range m).all (unB m ln z)) := rfl
  clear hp hb2 hbel
  generalize (List.range m).all (unB m ln z) = q at *
  go_wp2_with fail
  go_ret
  exact ⟨ret_bool (by rw [HB.out]), hbel2⟩
set_option maxHeartbeats 800000 in
theorem centerofIn_pred (m : Nat) (ln : List Nat) (a : Option Addr) (len cap bt bz i : Nat) (w : World) (hx0 : w.cell? ⟨bt, 0, none⟩ = some (.int .i64 m)) (hx1 : w.cell? ⟨bt, 1, none⟩ = some (.slice a len cap))
    (hzc : w.cell? ⟨bz, 0, none⟩ = some (.int .i64 (i : Nat))) (hn : NatsIn w a ln) (hT : Tb m ln) (hlen : len = m * m) (hz : i < m) :
    PredEl w.heap.size 62 #[.pointer (some ⟨bt, 0, none⟩), .pointer (some ⟨bz, 0, none⟩)] (cenB m ln i) m w := by
  intro k hi W hW
  have k0 : ∀ x, (wide W x).cell? ⟨bt, 0, none⟩ = some (.int .i64 m) := wide_cell (by rw [hW.cell (World.block_lt_of_cell? w _ hx0)]; exact hx0)
  have k1 : ∀ x, (wide W x).cell? ⟨bt, 1, none⟩ = some (.slice a len cap) := wide_cell (by rw [hW.cell (World.block_lt_of_cell? w _ hx1)]; exact hx1)
  have k2 : ∀ x, (wide W x).cell? ⟨bz, 0, none⟩ = some (.int .i64 (i : Nat)) := wide_cell (by rw [hW.cell (World.block_lt_of_cell? w _ hzc)]; exact hzc)
  have HN : Hid (∀ x, NatsIn (wide W x) a ln) := fun x => (hn.later hW).later (below_wide _ _)
  have g0 : W.cell? ⟨bt, 0, none⟩ = some (.int .i64 m) := by rw [hW.cell (World.block_lt_of_cell? w _ hx0)]; exact hx0
  have g1 : W.cell? ⟨bt, 1, none⟩ = some (.slice a len cap) := by rw [hW.cell (World.block_lt_of_cell? w _ hx1)]; exact hx1
  have g2 : W.cell? ⟨bz, 0, none⟩ = some (.int .i64 (i : Nat)) := by rw [hW.cell (World.block_lt_of_cell? w _ hzc)]; exact hzc
  have HN0 := Lib.hid (hn.later hW)
  have HT := Lib.hid hT
  have HL := Lib.hid hlen
  have hik := hT.tm_lt hz hi
  clear hx0 hx1 hzc hn hT hlen hW
  have F := Lib.hid (cenB_of (m := m) (ln := ln) (i := i) (k := k) rfl)
  go_enter Tryz.func62, Tryz.ntmps62
  go_wp2_with fail
  refine region_wide (by kernel_rfl) (by kernel_rfl) ?_
  repeat (quiet_step ((refine (implTimes_any m ln a _ _ _ _ _ (HN.out _) HT.out HL.out (by first | assumption | exact HT.out.tm_lt (by assumption) (by assumption)) (by assumption)).mono ?_; rintro e w2 ⟨rfl, hb2⟩; exact ⟨rfl, wide_next hb2⟩)))
  refine wpQuiet_nil ?_
  rintro w4 ⟨x4, rfl⟩
  go_wp2_with fail
  go_ret
  exact ⟨ret_bool F.out.symm, below_wide _ _⟩
set_option maxHeartbeats 800000 in
theorem centerofOut_pred (m : Nat) (ln : List Nat) (a : Option Addr) (len cap bt : Nat) (w : World) (hx0 : w.cell? ⟨bt, 0, none⟩ = some (.int .i64 m)) (hx1 : w.cell? ⟨bt, 1, none⟩ = some (.slice a len cap))
    (hn : NatsIn w a ln) (hT : Tb m ln) (hlen : len = m * m) :
    PredEl w.heap.size 61 #[.pointer (some ⟨bt, 0, none⟩)] (isCen m ln) m w := by
  intro z hz W hW
  have k0 : W.cell? ⟨bt, 0, none⟩ = some (.int .i64 m) := by rw [hW.cell (World.block_lt_of_cell? w _ hx0)]; exact hx0
  have k1 : W.cell? ⟨bt, 1, none⟩ = some (.slice a len cap) := by rw [hW.cell (World.block_lt_of_cell? w _ hx1)]; exact hx1
  have hb0 : bt < W.heap.size := World.block_lt_of_cell? W _ k0
  have HN := Lib.hid (hn.later hW)
  have HT := Lib.hid hT
  have HL := Lib.hid hlen
  have hm := hT.hi
  clear hx0 hx1 hn hT hlen hW
  go_enter Tryz.func61, Tryz.ntmps61
  go_wp2_with fail
  have hbel : Below W.heap.size W (W.alloc (.cells #[.int .i64 (z : Nat)] 3)) := (Below.refl _ _).alloc (Nat.le_refl _) _
  have hp := centerofIn_pred m ln a len cap bt W.heap.size z (W.alloc (.cells #[.int .i64 (z : Nat)] 3)) (by rw [hbel.cell hb0]; exact k0) (by rw [hbel.cell hb0]; exact k1) (by simp) (HN.out.later hbel) HT.out HL.out hz
  refine (all_any _ _ _ (cenB m ln z) m a len cap _ (by omega) hp (Nat.le_refl _) (enters_of Tryz.func62 (by kernel_rfl) rfl)).mono ?_
  rintro e w2 ⟨rfl, hb2⟩
  have hbel2 := Below.now hbel hb2
  have HB : Hid (isCen m ln z = (List.range m).all (cenB m ln z)) := rfl
  clear hp hb2 hbel
  generalize (List.range m).all (cenB m ln z) = q at *
  go_wp2_with fail
  go_ret
  exact ⟨ret_bool (by rw [HB.out]), hbel2⟩
/-- UnitsOf as a function of plain data -/
def unitsOfF (n : Int) (l : List Int) : List Int := thoseL n l (isUnit n.toNat (l.map Int.toNat))
set_option maxHeartbeats 800000 in
theorem implUnitsOf_any (n : Int) (l : List Int) (a : Option Addr) (cap : Nat) (w : World) (hl : IntsIn w a l) (hlen : l.length ≤ 2 ^ 47) :
    Calls Tryz.prog 45 #[.agg #[.int .i64 n, .slice a l.length cap]] w (RetSl 3 1 (unitsOfF n l).length (intVals (unitsOfF n l)) w) := by
  have HL := Lib.hid hl
  clear hl
  go_enter Tryz.func45, Tryz.ntmps45
  go_wp2_with fail
  have hbel : Below w.heap.size w (w.alloc (.cells #[.int .i64 n, .slice a l.length cap] 25)) := (Below.refl _ _).alloc (Nat.le_refl _) _
  refine (those_any n l a cap _ (HL.out.later hbel) hlen _ _ _ (isUnit n.toNat (l.map Int.toNat)) (Nat.le_refl _) ?_ (enters_of Tryz.func78 (by kernel_rfl) rfl)).mono ?_
  · intro ht
    obtain ⟨m, ln, rfl, rfl, hT⟩ := tabOk_out ht
    rw [map_toNat]
    exact unitsofOut_pred m ln a (ln.map Int.ofNat).length cap w.heap.size _ (by simp) (by simp) (HL.out.later hbel) hT.toTb (by rw [List.length_map]; exact hT.len)
  rintro e w2 ⟨a2, c2, rfl, ho, hb2⟩
  have F : Hid (RetSl 3 1 (unitsOfF n l).length (intVals (unitsOfF n l)) w (.returned (.slice a2 (unitsOfF n l).length c2)) w2) := ⟨_, _, rfl, owns_mono ho (by simp), Below.now hbel hb2⟩
  have HE : Hid (thoseL n l (isUnit n.toNat (l.map Int.toNat)) = unitsOfF n l) := rfl
  rw [HE.out]
  clear ho hb2 hbel HE
  go_wp2_with fail
  go_ret
  exact F.out
/-- RegularOf as a function of plain data -/
def regularOfF (n : Int) (l : List Int) : List Int := thoseL n l (isReg n.toNat (l.map Int.toNat))
end Go.Proofs.YtngbimgabcacpaaGreat
namespace Go.Proofs.YtngbimgabcacpaaGreat
open Go.RowKit
set_option linter.unusedVariables false
def boolVals (m : Nat) (f : Nat → Bool) : List Value := (List.range m).map fun j => Value.bool (f j)
theorem boolVals_len (m : Nat) (f : Nat → Bool) : (boolVals m f).length = m := by simp [boolVals]
theorem boolVals_at {m j : Nat} {f : Nat → Bool} (h : j < m) : (boolVals m f)[j]? = some (.bool (f j)) := by simp [boolVals, h]
theorem boolVals_congr {m : Nat} {f g : Nat → Bool} (h : ∀ j, j < m → f j = g j) : boolVals m f = boolVals m g := by
  unfold boolVals
  apply List.map_congr_left
  intro j hj
  rw [h j (List.mem_range.1 hj)]
/-- a row of m bools of the call's own, in block g -/
def BoolRow (T : TypeId) (w : World) (base g m : Nat) (f : Nat → Bool) : Prop := w.ownsRow base T 1 (.slice (some ⟨g, 0, none⟩) m m) m (boolVals m f)
theorem BoolRow.cell {T : TypeId} {w : World} {base g m : Nat} {f : Nat → Bool} (h : BoolRow T w base g m f) {j : Nat} (hj : j < m) : w.cell? ⟨g, j, none⟩ = some (.bool (f j)) := by
  have := World.ownsRow.cellAt h j (by omega)
  rw [this, boolVals_at hj]
theorem BoolRow.frozen {T : TypeId} {w : World} {base g m : Nat} {f : Nat → Bool} (h : BoolRow T w base g m f) (j : Nat) : w.frozen? ⟨g, j, none⟩ = false := World.ownsRow.frozenAt h j
theorem BoolRow.range {T : TypeId} {w : World} {base g m : Nat} {f : Nat → Bool} (h : BoolRow T w base g m f) : base ≤ g ∧ g < w.heap.size := World.ownsRow.lt h g rfl
theorem BoolRow.later {T : TypeId} {w w' : World} {base g m : Nat} {f : Nat → Bool} (h : BoolRow T w base g m f) (hb : Below w.heap.size w w') : BoolRow T w' base g m f := owns_later h hb
theorem BoolRow.congr {T : TypeId} {w : World} {base g m : Nat} {f f' : Nat → Bool} (h : BoolRow T w base g m f) (hf : ∀ j, j < m → f j = f' j) : BoolRow T w base g m f' := by
  unfold BoolRow; rw [← boolVals_congr hf]; exact h
theorem BoolRow.store {T : TypeId} {w : World} {base g m : Nat} {f : Nat → Bool} (h : BoolRow T w base g m f) (i : Nat) (v : Bool) : BoolRow T (w.setCell ⟨g, i, none⟩ (.bool v)) base g m (fun j => if j = i then v else f j) := by
  have hs := (World.ownsRow.stored h i (.bool v)).1
  have e : (boolVals m f).set i (.bool v) = boolVals m (fun j => if j = i then v else f j) := by
    apply List.ext_getElem?
    intro j
    rw [List.getElem?_set, boolVals_len]
    by_cases hj : j < m
    · rw [boolVals_at (f := fun j => if j = i then v else f j) hj]
      by_cases e : i = j
      · subst e; simp [hj]
      · rw [if_neg e, boolVals_at hj, if_neg (by omega)]
    · rw [List.getElem?_eq_none (l := boolVals m fun j => if j = i then v else f j) (by rw [boolVals_len]; omega)]
      by_cases e : i = j
      · subst e; simp [hj]
      · rw [if_neg e, List.getElem?_eq_none (by rw [boolVals_len]; omega)]
  unfold BoolRow
  rw [← e]
  exact hs
theorem BoolRow.start (w : World) (T : TypeId) (cs : Array Value) (m : Nat) (hs : cs.toList = boolVals m fun _ => false) (hn : m ≤ maxLen) : BoolRow T (w.alloc (.cells cs T)) w.heap.size w.heap.size m fun _ => false := by
  have h := World.ownsRow_lit (e := T) (size := 1) w cs m (Nat.le_refl _) hn (by rw [← Array.length_toList, hs, boolVals_len]; omega)
  rw [hs] at h
  exact h
theorem made_bools (m : Nat) : (madeCells #[.bool false] m).toList = boolVals m fun _ => false := by
  rw [toList_madeCells_one]
  apply List.ext_getElem
  · simp [boolVals]
  · intro i h1 h2; simp [boolVals]
theorem BoolRow.ge {T : TypeId} {w : World} {base base' g m : Nat} {f : Nat → Bool} (h : BoolRow T w base g m f) (hb : base' ≤ base) : BoolRow T w base' g m f := owns_mono h hb
end Go.Proofs.YtngbimgabcacpaaGreat
namespace Go.Proofs.YtngbimgabcacpaaGreat
open Go.RowKit
set_option linter.unusedVariables false
def ivs (q : List Nat) : List Value := intVals (q.map Int.ofNat)
theorem ivs_app (q : List Nat) (y : Nat) : ivs (q ++ [y]) = ivs q ++ [.int .i64 (y : Nat)] := by simp [ivs, intVals]
theorem ivs_len (q : List Nat) : (ivs q).length = q.length := by simp [ivs, intVals]
theorem ivs_get {q : List Nat} {p : Nat} (h : p < q.length) : (ivs q)[p]? = some (.int .i64 ((q.getD p 0 : Nat) : Int)) := by simp [ivs, intVals, h]
theorem mem_ofNat (q : List Nat) (y : Nat) : ((y : Nat) : Int) ∈ q.map Int.ofNat ↔ y ∈ q := by
  rw [List.mem_map]
  exact ⟨fun ⟨a, ha, e⟩ => by rwa [show a = y from Int.ofNat.inj e] at ha, fun h => ⟨y, h, rfl⟩⟩
theorem cont_ivs (q : List Nat) (y : Nat) : (q.map Int.ofNat).contains ((y : Nat) : Int) = q.contains y := by
  rw [Bool.eq_iff_iff, List.contains_iff_mem, List.contains_iff_mem]; exact mem_ofNat q y
theorem owns_some {w : World} {base n : Nat} {T : TypeId} {v : Value} {xs : List Value} (h : w.ownsRow base T 1 v n xs) (hn : 0 < n) : ∃ g cap, v = .slice (some ⟨g, 0, none⟩) n cap := by
  rcases h.2 with ⟨_, h0⟩ | ⟨g, cap, cur, hv, _⟩
  · omega
  · exact ⟨g, cap, hv⟩
theorem nats_cell {w : World} {a : Option Addr} {z : List Nat} (h : NatsIn w a z) {j : Nat} (hj : j < z.length) : ∃ b off, a = some ⟨b, off, none⟩ ∧ ∀ W, Below w.heap.size w W → W.cell? ⟨b, off + j, none⟩ = some (.int .i64 ((z[j] : Nat) : Int)) := by
  obtain ⟨b, off, ha, hb, hc⟩ := IntsIn.cell h (i := j) (by simpa using hj)
  refine ⟨b, off, ha, fun W hW => ?_⟩
  rw [hW.cell hb, hc j (by simpa using hj), nthZ_lt (by simpa using hj)]
  simp
theorem map_toNat' (l : List Nat) : (l.map Int.ofNat).map Int.toNat = l := by rw [List.map_map]; exact List.map_id'' (fun x => rfl) l
theorem Tryz.infoBool : (Tryz.prog.info? 4).map (fun i => (i.zero, i.size, i.bytes)) = some (some (.bool false), 1, 1) := by kernel_rfl
/-- what a call hands back that makes a row of bools -/
def RetBools (m : Nat) (f : Nat → Bool) (w : World) (e : Ending) (w' : World) : Prop :=
  ∃ g, e = .returned (.slice (some ⟨g, 0, none⟩) m m) ∧ BoolRow 4 w' w.heap.size g m f ∧ Below w.heap.size w w'
end Go.Proofs.YtngbimgabcacpaaGreat
namespace Go.Proofs.YtngbimgabcacpaaGreat
open Go.RowKit
set_option linter.unusedVariables false
/-- a function value that answers p for two elements below m, in every world that is as w below B -/
def PredEl2 (B : Nat) (g : Nat) (caps : Array Value) (p : Nat → Nat → Bool) (m : Nat) (w : World) : Prop :=
  ∀ i k, i < m → k < m → ∀ W, Below B w W → Calls Tryz.prog g (#[.int .i64 (i : Nat), .int .i64 (k : Nat)] ++ caps) W fun e W' => e = .returned (.bool (p i k)) ∧ Below W.heap.size W W'
/-- the elements below c that began a class -/
def numF (p : Nat → Nat → Bool) : Nat → List Nat
  | 0 => []
  | c + 1 => if (numF p c).any (p c) then numF p c else numF p c ++ [c]
/-- the place of the first class, or -1 -/
def numI (p : Nat → Nat → Bool) (F : List Nat) (j : Nat) : Int := match F.findIdx? (p j) with | some i => (i : Nat) | none => -1
/-- the number that is given -/
def numV (p : Nat → Nat → Bool) (F : List Nat) (j : Nat) : Int := if numI p F j < 0 then ((F.length : Nat) : Int) else numI p F j
def numO (p : Nat → Nat → Bool) (c : Nat) : List Int := (List.range c).map fun j => numV p (numF p j) j
theorem numO_zero (p : Nat → Nat → Bool) : numO p 0 = [] := rfl
theorem numO_succ (p : Nat → Nat → Bool) (c : Nat) : numO p (c + 1) = numO p c ++ [numV p (numF p c) c] := by simp [numO, List.range_succ]
theorem numO_len (p : Nat → Nat → Bool) (c : Nat) : (numO p c).length = c := by simp [numO]
theorem numF_lt (p : Nat → Nat → Bool) : ∀ c, ∀ f ∈ numF p c, f < c
  | 0, f, hf => by simp [numF] at hf
  | c + 1, f, hf => by
    unfold numF at hf
    split at hf
    · have := numF_lt p c f hf; omega
    · rcases List.mem_append.1 hf with hf | hf
      · have := numF_lt p c f hf; omega
      · rw [List.mem_singleton.1 hf]; omega
theorem numF_len (p : Nat → Nat → Bool) : ∀ c, (numF p c).length ≤ c
  | 0 => by simp [numF]
  | c + 1 => by
    have := numF_len p c
    unfold numF
    split
    · omega
    · rw [List.length_append]; simp; omega
theorem numI_neg (p : Nat → Nat → Bool) (F : List Nat) (j : Nat) : (numI p F j < 0) ↔ F.any (p j) = false := by
  unfold numI
  cases h : F.findIdx? (p j)
  · rw [List.findIdx?_eq_none_iff] at h
    have : F.any (p j) = false := by rw [List.any_eq_false]; intro x hx; simp [h x hx]
    simp [this]
  · rename_i i
    rw [List.findIdx?_eq_some_iff_getElem] at h
    obtain ⟨hi, hp, _⟩ := h
    have : F.any (p j) = true := by rw [List.any_eq_true]; exact ⟨F[i], List.getElem_mem hi, hp⟩
    simp [this]
theorem numF_succ (p : Nat → Nat → Bool) (c : Nat) : numF p (c + 1) = if (numF p c).any (p c) then numF p c else numF p c ++ [c] := rfl
theorem numF_yes {p : Nat → Nat → Bool} {c : Nat} (h : ¬ numI p (numF p c) c < 0) : numF p (c + 1) = numF p c := by
  rw [numI_neg] at h
  have h2 : (numF p c).any (p c) = true := by cases hh : (numF p c).any (p c) <;> simp_all
  rw [numF_succ, if_pos h2]
theorem numF_no {p : Nat → Nat → Bool} {c : Nat} (h : numI p (numF p c) c < 0) : numF p (c + 1) = numF p c ++ [c] := by
  rw [numI_neg] at h
  rw [numF_succ, if_neg (by simp [h])]
theorem numV_yes {p : Nat → Nat → Bool} {F : List Nat} {j : Nat} (h : ¬ numI p F j < 0) : numV p F j = numI p F j := by unfold numV; rw [if_neg h]
theorem numV_no {p : Nat → Nat → Bool} {F : List Nat} {j : Nat} (h : numI p F j < 0) : numV p F j = ((F.length : Nat) : Int) := by unfold numV; rw [if_pos h]
theorem idxZ_num (p : Nat → Nat → Bool) (F : List Nat) (c : Nat) : idxZ (fun x => p c x.toNat) (F.map Int.ofNat) = numI p F c := by
  unfold idxZ numI
  rw [List.findIdx?_map]
  rfl
/-- the closure that is handed to IndexFunc -/
theorem sameK (B g : Nat) (caps : Array Value) (p : Nat → Nat → Bool) (m c : Nat) (w w1 : World) (bf bi : Nat) (h : PredEl2 B g caps p m w) (hB : B ≤ w.heap.size) (hw : Below w.heap.size w w1) (hc : c < m) (F : List Nat) (hF : ∀ f ∈ F, f < m)
    (h1 : w1.cell? ⟨bf, 0, none⟩ = some (.func (.func g) #[] caps)) (h2 : w1.cell? ⟨bi, 0, none⟩ = some (.int .i64 (c : Nat))) (eg : ∀ args w, (callFunc g args).run Tryz.prog w = .ok (.enter g args) w) :
    PredInts w1.heap.size 76 #[.pointer (some ⟨bf, 0, none⟩), .pointer (some ⟨bi, 0, none⟩)] (fun x => p c x.toNat) (F.map Int.ofNat) w1 := by
  intro j hj W hW
  have hj' : j < F.length := by simpa using hj
  have hn : nthZ (F.map Int.ofNat) j = ((F[j] : Nat) : Int) := by rw [nthZ_lt hj]; simp
  rw [hn]
  have hfm : F[j] < m := hF _ (List.getElem_mem hj')
  have g1 : W.cell? ⟨bf, 0, none⟩ = some (.func (.func g) #[] caps) := by rw [hW.cell (World.block_lt_of_cell? w1 _ h1)]; exact h1
  have g2 : W.cell? ⟨bi, 0, none⟩ = some (.int .i64 (c : Nat)) := by rw [hW.cell (World.block_lt_of_cell? w1 _ h2)]; exact h2
  have HC := Lib.hid (h c F[j] hc hfm W ((hw.mono hB).trans (hW.mono (Nat.le_trans hB hw.size))))
  generalize F[j] = f at *
  clear h1 h2 hW hw h hn
  go_enter Tryz.func76, Tryz.ntmps76
  go_wp2_with fail
  refine HC.out.mono ?_
  rintro e w2 ⟨rfl, hb2⟩
  go_wp2_with fail
  go_ret
  exact ⟨by simp, hb2⟩
theorem below_of_grownN {w wr wr' : World} {own : Option Nat} (h : Below w.heap.size w wr) (hg : wr.grownBy wr' own) (ho : ∀ k, own = some k → w.heap.size ≤ k) : Below w.heap.size w wr' := h.grown hg h.size ho
/-- two lists that are being built, apart from each other -/
def Two (w wr : World) (v : Value) (xs : List Int) (u : Value) (F : List Nat) : Prop :=
  Bld 3 1 w wr v xs.length (intVals xs) ∧ Bld 3 1 w wr u F.length (ivs F) ∧ ∀ k, v.ownBlock = some k → u.ownBlock ≠ some k
theorem Two.later {w wr wr' : World} {v u : Value} {xs : List Int} {F : List Nat} (h : Two w wr v xs u F) (hb : Below wr.heap.size wr wr') : Two w wr' v xs u F := ⟨h.1.later hb, h.2.1.later hb, h.2.2⟩
theorem kept_of {T : TypeId} {w wr wr' : World} {v : Value} {n : Nat} {xs : List Value} {own : Option Nat} (h : Bld T 1 w wr v n xs) (hg : wr.grownBy wr' own) (hne : ∀ k, v.ownBlock = some k → own ≠ some k) (ho : ∀ k, own = some k → w.heap.size ≤ k) : Bld T 1 w wr' v n xs := by
  refine ⟨h.1.kept hg ?_, below_of_grownN h.2 hg ho⟩
  cases hv : v.ownBlock with
  | none => exact .inl rfl
  | some k => exact .inr fun e => hne k hv (e.symm ▸ rfl)
theorem Two.putV {w wr w' : World} {v v' u : Value} {xs : List Int} {F : List Nat} {y : Int} (h : Two w wr v xs u F) (hb : Bld 3 1 w w' v' (xs.length + 1) (intVals xs ++ [.int .i64 y])) (hg : (wr.alloc (.cells #[.int .i64 y] 3)).grownBy w' v.ownBlock)
    (ho : v'.ownBlock = v.ownBlock ∨ v'.ownBlock = some (wr.alloc (.cells #[.int .i64 y] 3)).heap.size) : Two w w' v' (xs ++ [y]) u F := by
  have hal : Below wr.heap.size wr (wr.alloc (.cells #[.int .i64 y] 3)) := (Below.refl _ _).alloc (Nat.le_refl _) _
  refine ⟨?_, kept_of (h.2.1.later hal) hg (fun k hk e => h.2.2 k e hk) (fun k hk => (h.1.1.lt k hk).1), fun k hk e => ?_⟩
  · rw [List.length_append]; unfold intVals at *; rw [List.map_append]; exact hb
  · rcases ho with h1 | h1
    · exact h.2.2 k (h1 ▸ hk) e
    · rw [h1] at hk
      have h2 := Option.some.inj hk
      have h3 := (h.2.1.1.lt k e).2
      simp at h2; omega
theorem Two.putU {w wr w' : World} {v u u' : Value} {xs : List Int} {F : List Nat} {y : Nat} (h : Two w wr v xs u F) (hb : Bld 3 1 w w' u' (F.length + 1) (ivs F ++ [.int .i64 (y : Nat)])) (hg : (wr.alloc (.cells #[.int .i64 (y : Nat)] 3)).grownBy w' u.ownBlock)
    (ho : u'.ownBlock = u.ownBlock ∨ u'.ownBlock = some (wr.alloc (.cells #[.int .i64 (y : Nat)] 3)).heap.size) : Two w w' v xs u' (F ++ [y]) := by
  have hal : Below wr.heap.size wr (wr.alloc (.cells #[.int .i64 (y : Nat)] 3)) := (Below.refl _ _).alloc (Nat.le_refl _) _
  refine ⟨kept_of (h.1.later hal) hg (fun k hk e => h.2.2 k hk e) (fun k hk => (h.2.1.1.lt k hk).1), ?_, fun k hk e => ?_⟩
  · rw [List.length_append, ivs_app]; exact hb
  · rcases ho with h1 | h1
    · exact h.2.2 k hk (h1 ▸ e)
    · rw [h1] at e
      have h2 := Option.some.inj e
      have h3 := (h.1.1.lt k hk).2
      simp at h2; omega
set_option maxRecDepth 100000 in
set_option maxHeartbeats 2000000 in
theorem numbered_any (B g : Nat) (caps : Array Value) (p : Nat → Nat → Bool) (m : Nat) (w : World) (hm : m ≤ 1000) (h : PredEl2 B g caps p m w) (hB : B ≤ w.heap.size) (eg : ∀ args w, (callFunc g args).run Tryz.prog w = .ok (.enter g args) w) :
    Calls Tryz.prog 39 #[.int .i64 m, .func (.func g) #[] caps] w (RetSl 3 1 (numO p m).length (intVals (numO p m)) w) := by
  have HP := Lib.hid h
  have EG := Lib.hid eg
  clear h eg
  go_enter Tryz.func39, Tryz.ntmps39
  go_wp2_with fail
  obtain ⟨w1, hw1⟩ : ∃ w1, w1 = w.alloc (.cells #[.func (.func g) #[] caps] 55) := ⟨_, rfl⟩
  have hb1 : Below w.heap.size w w1 := by rw [hw1]; exact (Below.refl _ _).alloc (Nat.le_refl _) _
  have hx0 : ∀ W, Below w1.heap.size w1 W → W.cell? ⟨w.heap.size, 0, none⟩ = some (.func (.func g) #[] caps) := fun W hW => by rw [hW.cell (by rw [hw1]; simp), hw1]; simp
  rw [← hw1]
  have HB := Lib.hid hb1
  have HS : Hid (Two w1 w1 (.slice none 0 0) [] (.slice none 0 0) []) := ⟨Bld.nil _ _ (Below.refl _ _), Bld.nil _ _ (Below.refl _ _), fun k hk => by simp [Value.ownBlock] at hk⟩
  have X0 := Lib.hid hx0
  clear hw1 hb1 hx0
  go_loopw [5, 6, 10] (fun v u i wr => ∃ c : Nat, c ≤ m ∧ i = .int .i64 c ∧ Two w1 wr v (numO p c) u (numF p c)) (fun _ _ i _ => m - (intOf i).toNat)
  case atStart => exact ⟨0, Nat.zero_le _, rfl, HS.out⟩
  case round =>
    clear HS
    obtain ⟨c, hcm, rfl, ht⟩ := hrel
    have HT := Lib.hid ht
    clear ht
    by_cases hlt : c < m
    · have hfl := numF_len p c
      have hol := numO_len p c
      have HOL := Lib.hid hol
      obtain ⟨ua, uc, rfl⟩ := owns_form HT.out.2.1.1
      have HT2 := Lib.hid (HT.out.later ((Below.refl _ _).alloc (Nat.le_refl _) (.cells #[.int .i64 (c : Nat)] 3)))
      have hbw := HT.out.1.2
      clear hol
      have hp := sameK B g caps p m c w (wr.alloc (.cells #[.int .i64 (c : Nat)] 3)) w.heap.size wr.heap.size HP.out hB (Below.now HB.out HT2.out.1.2) hlt (numF p c) (fun f hf => Nat.lt_trans (numF_lt p c f hf) hlt) (X0.out _ HT2.out.1.2) (by simp) EG.out
      have hC := indexFuncInts_any 76 #[.pointer (some ⟨w.heap.size, 0, none⟩), .pointer (some ⟨wr.heap.size, 0, none⟩)] (fun x => p c x.toNat) ((numF p c).map Int.ofNat) ua uc (wr.alloc (.cells #[.int .i64 (c : Nat)] 3)) (owns_ints (l := (numF p c).map Int.ofNat) HT2.out.2.1.1) (by rw [List.length_map]; omega) _ (Nat.le_refl _) hp (enters_of Tryz.func76 (by kernel_rfl) rfl)
      rw [idxZ_num, List.length_map] at hC
      have HC := Lib.hid hC
      have HR := Lib.hid (numO_succ p c)
      have HY := Lib.hid (@numF_yes p c)
      have HN := Lib.hid (@numF_no p c)
      have HVY := Lib.hid (@numV_yes p (numF p c) c)
      have HVN := Lib.hid (@numV_no p (numF p c) c)
      clear hC hp hbw
      generalize numI p (numF p c) c = q at *
      generalize numF p c = F at *
      go_wp2_with fail
      refine HC.out.mono ?_
      rintro e w3 ⟨rfl, hb3⟩
      have HT3 := Lib.hid (HT2.out.later hb3)
      have hci : w3.cell? ⟨wr.heap.size, 0, none⟩ = some (.int .i64 (c : Nat)) := by rw [hb3.cell (by simp)]; simp
      clear hb3 HC HT2 HT
      by_cases hq : q < 0
      · have HF1 := Lib.hid (HN.out hq)
        have HV1 := Lib.hid (HVN.out hq)
        have HO3 := Lib.hid HT3.out.2.1
        have HSR := Lib.hid (Src.lit (w := w3) (T := 3) (c := 1) (m := 1) [.int .i64 (c : Nat)])
        have HO4 := Lib.hid (HO3.out.later ((Below.refl _ _).alloc (Nat.le_refl _) (.cells #[.int .i64 (c : Nat)] 3)))
        go_wp2_with (at_builtin; refine wpList_appM rfl (.tmp 20) (.tmp 22) rfl Tryz.underlying23 Tryz.infoInt rfl (by decide) rfl HO4.out rfl HSR.out (by rfl) ?a1 ?a2 ?a3 ?a4)
        case a1 => simp [Value.oneCell']
        case a2 => unfold maxLen; omega
        case a3 => omega
        intro v4 w4 hb4 hg4 ho4
        have HT4 := Lib.hid (HT3.out.putU hb4 hg4 (by simpa using ho4))
        clear hb4 hg4 ho4 HT3 HO3 HO4 HSR hci
        have HSR := Lib.hid (Src.lit (w := w4) (T := 3) (c := 1) (m := 1) [.int .i64 ((F.length : Nat) : Int)])
        have HO5 := Lib.hid (HT4.out.1.later ((Below.refl _ _).alloc (Nat.le_refl _) (.cells #[.int .i64 ((F.length : Nat) : Int)] 3)))
        go_wp2_with (at_builtin; refine wpList_appM rfl (.tmp 24) (.tmp 26) rfl Tryz.underlying23 Tryz.infoInt rfl (by decide) rfl HO5.out rfl HSR.out (by rfl) ?b1 ?b2 ?b3 ?b4)
        case b1 => simp [Value.oneCell']
        case b2 => rw [HOL.out]; unfold maxLen; omega
        case b3 => rw [HOL.out]; omega
        intro v5 w5 hb5 hg5 ho5
        have HT5 : Hid (Two w1 w5 v5 (numO p (c + 1)) v4 (numF p (c + 1))) := Lib.hid (by
          rw [HR.out, HV1.out, HF1.out]
          exact HT4.out.putV hb5 hg5 (by simpa using ho5))
        clear hb5 hg5 ho5
        go_wp2_with fail
        go_roundw
        case rel => exact ⟨c + 1, by omega, by go_num, HT5.out⟩
        case measure => simp [intOf]; omega
      · have HF1 := Lib.hid (HY.out (by omega))
        have HV1 := Lib.hid (HVY.out (by omega))
        have HSR := Lib.hid (Src.lit (w := w3) (T := 3) (c := 1) (m := 1) [.int .i64 q])
        have HO5 := Lib.hid (HT3.out.1.later ((Below.refl _ _).alloc (Nat.le_refl _) (.cells #[.int .i64 q] 3)))
        go_wp2_with (at_builtin; refine wpList_appM rfl (.tmp 24) (.tmp 26) rfl Tryz.underlying23 Tryz.infoInt rfl (by decide) rfl HO5.out rfl HSR.out (by rfl) ?d1 ?d2 ?d3 ?d4)
        case d1 => simp [Value.oneCell']
        case d2 => rw [HOL.out]; unfold maxLen; omega
        case d3 => rw [HOL.out]; omega
        intro v5 w5 hb5 hg5 ho5
        have HT5 : Hid (Two w1 w5 v5 (numO p (c + 1)) (.slice ua F.length uc) (numF p (c + 1))) := Lib.hid (by
          rw [HR.out, HV1.out, HF1.out]
          exact HT3.out.putV hb5 hg5 (by simpa using ho5))
        clear hb5 hg5 ho5
        go_wp2_with fail
        go_roundw
        case rel => exact ⟨c + 1, by omega, by go_num, HT5.out⟩
        case measure => simp [intOf]; omega
    · obtain rfl : c = m := by omega
      have F2 : Hid (∀ v u wr, Two w1 wr v (numO p c) u (numF p c) → RetSl 3 1 (numO p c).length (intVals (numO p c)) w (.returned v) wr) := fun v u wr h => (h.1.since HB.out).ret
      have F3 := Lib.hid (F2.out _ _ _ HT.out)
      obtain ⟨va, vc, rfl⟩ := owns_form HT.out.1.1
      go_wp2_with fail
      go_ret
      exact F3.out
section
variable {p : Nat → Nat → Bool}
theorem numF_pre : ∀ {a b : Nat}, a ≤ b → numF p a <+: numF p b
  | a, 0, h => by
    obtain rfl : a = 0 := by omega
    exact List.prefix_refl _
  | a, b + 1, h => by
    by_cases e : a = b + 1
    · subst e; exact List.prefix_refl _
    · refine (numF_pre (show a ≤ b by omega)).trans ?_
      rw [numF_succ]
      split
      · exact List.prefix_refl _
      · exact List.prefix_append _ _
theorem numI_pre {F F' : List Nat} (h : F <+: F') {j : Nat} (hq : ¬ numI p F j < 0) : numI p F' j = numI p F j := by
  obtain ⟨t, rfl⟩ := h
  unfold numI at *
  cases hf : F.findIdx? (p j)
  · rw [hf] at hq; simp at hq
  · rename_i i
    rw [List.findIdx?_append, hf]; rfl
theorem numI_app {F : List Nat} {c j : Nat} (h : numI p F j < 0) : numI p (F ++ [c]) j = if p j c = true then ((F.length : Nat) : Int) else -1 := by
  unfold numI at *
  cases hf : F.findIdx? (p j)
  · rw [List.findIdx?_append, hf]
    cases hp : p j c
    · simp [List.findIdx?_cons, hp]
    · simp [List.findIdx?_cons, hp]
  · rename_i i
    rw [hf] at h; simp at h; omega
theorem numI_full {m : Nat} (hr : ∀ i, i < m → p i i = true) {j : Nat} (hj : j < m) : numI p (numF p m) j = numV p (numF p j) j := by
  by_cases h : numI p (numF p j) j < 0
  · rw [numV_no h]
    have h1 : numI p (numF p (j + 1)) j = ((numF p j).length : Int) := by rw [numF_no h, numI_app h, if_pos (hr j hj)]
    rw [numI_pre (numF_pre (show j + 1 ≤ m from hj)) (by rw [h1]; omega), h1]
  · rw [numV_yes h]
    exact numI_pre (numF_pre (Nat.le_of_lt hj)) h
theorem numO_full {m : Nat} (hr : ∀ i, i < m → p i i = true) : numO p m = (List.range m).map (numI p (numF p m)) := by
  unfold numO
  apply List.map_congr_left
  intro j hj
  exact (numI_full hr (List.mem_range.1 hj)).symm
end
end Go.Proofs.YtngbimgabcacpaaGreat
namespace Go.Proofs.YtngbimgabcacpaaGreat
open Go.RowKit
set_option linter.unusedVariables false
theorem sorted_extZ : ∀ (l l' : List Int), l.Pairwise (· < ·) → l'.Pairwise (· < ·) → (∀ x, x ∈ l ↔ x ∈ l') → l = l'
  | [], [], _, _, _ => rfl
  | [], b :: l', _, _, h => absurd ((h b).2 (by simp)) (by simp)
  | a :: l, [], _, _, h => absurd ((h a).1 (by simp)) (by simp)
  | a :: l, b :: l', h1, h2, h => by
    rw [List.pairwise_cons] at h1 h2
    have e : a = b := by
      have ha := (h a).1 (by simp)
      have hb := (h b).2 (by simp)
      rcases List.mem_cons.1 ha with e | ha
      · exact e
      · rcases List.mem_cons.1 hb with e | hb
        · exact e.symm
        · have := h1.1 b hb; have := h2.1 a ha; omega
    subst e
    congr 1
    refine sorted_extZ l l' h1.2 h2.2 fun x => ⟨fun hx => ?_, fun hx => ?_⟩
    · rcases List.mem_cons.1 ((h x).1 (by simp [hx])) with e | hx'
      · have := h1.1 x hx; omega
      · exact hx'
    · rcases List.mem_cons.1 ((h x).2 (by simp [hx])) with e | hx'
      · have := h2.1 x hx; omega
      · exact hx'
theorem at_bang {zs : List Int} {j : Nat} (h : j < zs.length) : zs.toArray[j]! = zs[j] := by
  rw [getElem!_pos _ _ (by simpa using h)]; simp
theorem mono_at {zs : List Int} (h : zs.Pairwise (· ≤ ·)) {i j : Nat} (hij : i ≤ j) (hj : j < zs.length) : zs[i]'(by omega) ≤ zs[j] := by
  rcases Nat.lt_or_ge i j with hlt | hge
  · exact (List.pairwise_iff_getElem.1 h) i j (by omega) hj hlt
  · have : i = j := by omega
    subst this; exact Int.le_refl _
theorem compact_lt {zs : List Int} (h : zs.Pairwise (· ≤ ·)) : (Go.Lib.compact zs).Pairwise (· < ·) := by
  unfold Go.Lib.compact Go.Lib.compactUpTo
  rw [List.pairwise_map]
  have h0 : ((List.range zs.length).filter (Go.Lib.keeps zs.toArray)).Pairwise (· < ·) := List.Pairwise.filter _ List.pairwise_lt_range
  refine List.Pairwise.imp_of_mem (fun {i j} hi hj hij => ?_) h0
  have hi' := List.mem_filter.1 hi
  have hj' := List.mem_filter.1 hj
  have hjl := List.mem_range.1 hj'.1
  have hk : zs.toArray[j]! ≠ zs.toArray[j - 1]! := by
    have := hj'.2
    simp only [Go.Lib.keeps, decide_eq_true_eq] at this
    rcases this with e | e
    · omega
    · exact e
  rw [at_bang (by omega), at_bang (by omega)] at hk ⊢
  have h1 := mono_at h (i := i) (j := j - 1) (by omega) (by omega)
  have h2 := mono_at h (i := j - 1) (j := j) (by omega) (by omega)
  omega
theorem compact_mem (zs : List Int) (x : Int) : x ∈ Go.Lib.compact zs ↔ x ∈ zs := by
  unfold Go.Lib.compact Go.Lib.compactUpTo
  constructor
  · intro h
    obtain ⟨i, hi, rfl⟩ := List.mem_map.1 h
    have := List.mem_range.1 (List.mem_filter.1 hi).1
    rw [at_bang this]
    exact List.getElem_mem this
  · intro h
    have key : ∀ i, i < zs.length → zs.toArray[i]! ∈ List.map (zs.toArray[·]!) ((List.range zs.length).filter (Go.Lib.keeps zs.toArray)) := by
      intro i
      induction i with
      | zero => exact fun h => List.mem_map.2 ⟨0, List.mem_filter.2 ⟨List.mem_range.2 h, by simp [Go.Lib.keeps]⟩, rfl⟩
      | succ i ih =>
        intro hi
        by_cases he : zs.toArray[i + 1]! = zs.toArray[i]!
        · rw [he]; exact ih (by omega)
        · exact List.mem_map.2 ⟨i + 1, List.mem_filter.2 ⟨List.mem_range.2 hi, by simp only [Go.Lib.keeps, decide_eq_true_eq]; exact .inr he⟩, rfl⟩
    obtain ⟨i, hi, rfl⟩ := List.getElem_of_mem h
    rw [← at_bang hi]
    exact key i hi
def sortL (l : List Int) : List Int := l.mergeSort fun x y => decide (x ≤ y)
def collL (l : List Int) : List Int := Go.Lib.compact (sortL l)
theorem sortL_len (l : List Int) : (sortL l).length = l.length := by simp [sortL]
theorem sortL_le (l : List Int) : (sortL l).Pairwise (· ≤ ·) := by
  have := List.pairwise_mergeSort (le := fun x y : Int => decide (x ≤ y)) (fun a b c h1 h2 => by simp at *; omega) (fun a b => by simp; omega) l
  exact this.imp fun h => by simpa using h
theorem sortL_mem (l : List Int) (x : Int) : x ∈ sortL l ↔ x ∈ l := by unfold sortL; exact List.mem_mergeSort
theorem listTo_lt (f : Nat → Bool) (m : Nat) : (listTo f m).Pairwise (· < ·) := by
  unfold listTo
  rw [List.pairwise_map]
  exact (List.Pairwise.filter _ List.pairwise_lt_range).imp fun h => by simpa using h
theorem listTo_mem (f : Nat → Bool) (m : Nat) (x : Int) : x ∈ listTo f m ↔ ∃ j : Nat, x = j ∧ j < m ∧ f j = true := by
  unfold listTo
  simp only [List.mem_map, List.mem_filter, List.mem_range, Int.ofNat_eq_natCast]
  constructor
  · rintro ⟨j, h, rfl⟩; exact ⟨j, rfl, h⟩
  · rintro ⟨j, rfl, h⟩; exact ⟨j, h, rfl⟩
theorem collL_eq {l : List Int} {m : Nat} {f : Nat → Bool} (h : ∀ x ∈ l, ∃ j : Nat, x = j ∧ j < m) (hf : ∀ j, j < m → (f j = true ↔ (j : Int) ∈ l)) : collL l = listTo f m := by
  refine sorted_extZ _ _ (compact_lt (sortL_le l)) (listTo_lt f m) fun x => ?_
  rw [collL, compact_mem, sortL_mem, listTo_mem]
  constructor
  · intro hx
    obtain ⟨j, rfl, hj⟩ := h x hx
    exact ⟨j, rfl, hj, (hf j hj).2 hx⟩
  · rintro ⟨j, rfl, hj, hx⟩
    exact (hf j hj).1 hx
theorem collL_len (l : List Int) : (collL l).length ≤ l.length := by
  unfold collL Go.Lib.compact Go.Lib.compactUpTo
  rw [List.length_map]
  exact Nat.le_trans (List.length_filter_le _ _) (by simp [sortL])
end Go.Proofs.YtngbimgabcacpaaGreat
