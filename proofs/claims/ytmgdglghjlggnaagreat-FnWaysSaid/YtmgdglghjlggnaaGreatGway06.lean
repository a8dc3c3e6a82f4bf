/-
  Letters: the text of one byte.
-/
import Derived.Test.YtmgdglghjlggnaaGreatGway05
import Derived.Test.YtmgdglghjlggnaaGreatGway03
import Derived.Test.YtmgdglghjlggnaaGreatGway04
import Derived.Laws.BytesArg
namespace Go.Proofs.YtmgdglghjlggnaaGreat
open Go.RowKit
set_option linter.unusedVariables false
def unB (m : Nat) (ln : List Nat) (i k : Nat) : Bool := !(decide (tm m ln i k = 0) && decide (tm m ln k i = 0))
def isUnit (m : Nat) (ln : List Nat) (i : Nat) : Bool := !(List.range m).all (unB m ln i)
def regB (m : Nat) (ln : List Nat) (i x : Nat) : Bool := !decide (tm m ln (tm m ln i x) i = i)
def isReg (m : Nat) (ln : List Nat) (i : Nat) : Bool := !(List.range m).all (regB m ln i)
theorem unB_of1 {m : Nat} {ln : List Nat} {i k : Nat} (h : (((tm m ln i k : Nat) : Int) != 0) = true) : unB m ln i k = true := by
  simp at h; simp [unB, h]
theorem unB_of2 {m : Nat} {ln : List Nat} {i k : Nat} (h : (((tm m ln i k : Nat) : Int) != 0) = false) {b : Bool} (h2 : (((tm m ln k i : Nat) : Int) != 0) = b) : unB m ln i k = b := by
  cases b <;> simp at h h2 <;> simp [unB, h, h2]
set_option maxHeartbeats 800000 in
theorem unitsofIn_pred (m : Nat) (ln : List Nat) (a : Option Addr) (len cap bt bz i : Nat) (w : World) (hx0 : w.cell? ⟨bt, 0, none⟩ = some (.int .i64 m)) (hx1 : w.cell? ⟨bt, 1, none⟩ = some (.slice a len cap))
    (hzc : w.cell? ⟨bz, 0, none⟩ = some (.int .i64 (i : Nat))) (hn : NatsIn w a ln) (hT : Tb m ln) (hlen : len = m * m) (hz : i < m) :
    PredEl w.heap.size 46 #[.pointer (some ⟨bt, 0, none⟩), .pointer (some ⟨bz, 0, none⟩)] (unB m ln i) m w := by
  intro k hi W hW
  have k0 : ∀ x, (wide W x).cell? ⟨bt, 0, none⟩ = some (.int .i64 m) := wide_cell (by rw [hW.cell (World.block_lt_of_cell? w _ hx0)]; exact hx0)
  have k1 : ∀ x, (wide W x).cell? ⟨bt, 1, none⟩ = some (.slice a len cap) := wide_cell (by rw [hW.cell (World.block_lt_of_cell? w _ hx1)]; exact hx1)
  have k2 : ∀ x, (wide W x).cell? ⟨bz, 0, none⟩ = some (.int .i64 (i : Nat)) := wide_cell (by rw [hW.cell (World.block_lt_of_cell? w _ hzc)]; exact hzc)
  have HN : Hid (∀ x, NatsIn (wide W x) a ln) := fun x => (hn.later hW).later (below_wide _ _)
  have g0 : W.cell? ⟨bt, 0, none⟩ = some (.int .i64 m) := by rw [hW.cell (World.block_lt_of_cell? w _ hx0)]; exact hx0
  have g1 : W.cell? ⟨bt, 1, none⟩ = some (.slice a len cap) := by rw [hW.cell (World.block_lt_of_cell? w _ hx1)]; exact hx1
  have g2 : W.cell? ⟨bz, 0, none⟩ = some (.int .i64 (i : Nat)) := by rw [hW.cell (World.block_lt_of_cell? w _ hzc)]; exact hzc
  have HN0 := Lib.hid (hn.later hW)
  have HT := Lib.hid hT
  have HL := Lib.hid hlen
  have hik := hT.tm_lt hz hi
  clear hx0 hx1 hzc hn hT hlen hW
  have j0 : ∀ W', Below W.heap.size W W' → W'.cell? ⟨bt, 0, none⟩ = some (.int .i64 m) := fun W' h => (h.cell (World.block_lt_of_cell? _ _ g0)).trans g0
  have j1 : ∀ W', Below W.heap.size W W' → W'.cell? ⟨bt, 1, none⟩ = some (.slice a len cap) := fun W' h => (h.cell (World.block_lt_of_cell? _ _ g1)).trans g1
  have j2 : ∀ W', Below W.heap.size W W' → W'.cell? ⟨bz, 0, none⟩ = some (.int .i64 (i : Nat)) := fun W' h => (h.cell (World.block_lt_of_cell? _ _ g2)).trans g2
  have HN1 : Hid (∀ W', Below W.heap.size W W' → NatsIn W' a ln) := fun W' h => (HN0.out).later h
  have hW0 := Below.refl W.heap.size W
  clear g0 g1 g2 HN0
  cases e1 : (((tm m ln i k : Nat) : Int) != 0)
  rotate_left
  · have F := Lib.hid (unB_of1 e1)
    go_enter Tryz.func46, Tryz.ntmps46
    go_wp2_with fail
    refine (implTimes_any m ln a _ _ i k _ (HN1.out _ hW0) HT.out HL.out hz hi).mono ?_
    rintro e w2 ⟨rfl, hb⟩
    replace hW0 := Below.now hW0 hb
    clear hb
    go_wp2_with fail
    go_ret
    exact ⟨ret_bool F.out.symm, hW0⟩
  · have F := Lib.hid (unB_of2 e1 (b := (((tm m ln k i : Nat) : Int) != 0)) rfl)
    go_enter Tryz.func46, Tryz.ntmps46
    go_wp2_with fail
    refine (implTimes_any m ln a _ _ i k _ (HN1.out _ hW0) HT.out HL.out hz hi).mono ?_
    rintro e w2 ⟨rfl, hb⟩
    replace hW0 := Below.now hW0 hb
    clear hb
    go_wp2_with fail
    refine (implTimes_any m ln a _ _ k i _ (HN1.out _ hW0) HT.out HL.out hi hz).mono ?_
    rintro e w3 ⟨rfl, hb⟩
    replace hW0 := Below.now hW0 hb
    clear hb
    go_wp2_with fail
    go_ret
    exact ⟨ret_bool F.out.symm, hW0⟩
set_option maxHeartbeats 800000 in
theorem unitsofOut_pred (m : Nat) (ln : List Nat) (a : Option Addr) (len cap bt : Nat) (w : World) (hx0 : w.cell? ⟨bt, 0, none⟩ = some (.int .i64 m)) (hx1 : w.cell? ⟨bt, 1, none⟩ = some (.slice a len cap))
    (hn : NatsIn w a ln) (hT : Tb m ln) (hlen : len = m * m) :
    PredEl w.heap.size 44 #[.pointer (some ⟨bt, 0, none⟩)] (isUnit m ln) m w := by
  intro z hz W hW
  have k0 : W.cell? ⟨bt, 0, none⟩ = some (.int .i64 m) := by rw [hW.cell (World.block_lt_of_cell? w _ hx0)]; exact hx0
  have k1 : W.cell? ⟨bt, 1, none⟩ = some (.slice a len cap) := by rw [hW.cell (World.block_lt_of_cell? w _ hx1)]; exact hx1
  have hb0 : bt < W.heap.size := World.block_lt_of_cell? W _ k0
  have HN := Lib.hid (hn.later hW)
  have HT := Lib.hid hT
  have HL := Lib.hid hlen
  have hm := hT.hi
  clear hx0 hx1 hn hT hlen hW
  go_enter Tryz.func44, Tryz.ntmps44
  go_wp2_with fail
  have hbel : Below W.heap.size W (W.alloc (.cells #[.int .i64 (z : Nat)] 3)) := (Below.refl _ _).alloc (Nat.le_refl _) _
  have hp := unitsofIn_pred m ln a len cap bt W.heap.size z (W.alloc (.cells #[.int .i64 (z : Nat)] 3)) (by rw [hbel.cell hb0]; exact k0) (by rw [hbel.cell hb0]; exact k1) (by simp) (HN.out.later hbel) HT.out HL.out hz
  refine (all_any _ _ _ (unB m ln z) m a len cap _ (by omega) hp (Nat.le_refl _) (enters_of Tryz.func46 (by kernel_rfl) rfl)).mono ?_
  rintro e w2 ⟨rfl, hb2⟩
  have hbel2 := Below.now hbel hb2
  have HB : Hid (isUnit m ln z = !(List.range m).all (unB m ln z)) := rfl
  clear hp hb2 hbel
  generalize (List.range m).all (unB m ln z) = q at *
  go_wp2_with fail
  go_ret
  exact ⟨ret_bool (by rw [HB.out]), hbel2⟩
/-- UnitsOf as a function of plain data -/
def unitsOfF (n : Int) (l : List Int) : List Int := thoseL n l (isUnit n.toNat (l.map Int.toNat))
set_option maxHeartbeats 800000 in
theorem implUnitsOf_any (n : Int) (l : List Int) (a : Option Addr) (cap : Nat) (w : World) (hl : IntsIn w a l) (hlen : l.length ≤ 2 ^ 47) :
    Calls Tryz.prog 20 #[.agg #[.int .i64 n, .slice a l.length cap]] w (RetSl 3 1 (unitsOfF n l).length (intVals (unitsOfF n l)) w) := by
  have HL := Lib.hid hl
  clear hl
  go_enter Tryz.func20, Tryz.ntmps20
  go_wp2_with fail
  have hbel : Below w.heap.size w (w.alloc (.cells #[.int .i64 n, .slice a l.length cap] 25)) := (Below.refl _ _).alloc (Nat.le_refl _) _
  refine (those_any n l a cap _ (HL.out.later hbel) hlen _ _ _ (isUnit n.toNat (l.map Int.toNat)) (Nat.le_refl _) ?_ (enters_of Tryz.func44 (by kernel_rfl) rfl)).mono ?_
  · intro ht
    obtain ⟨m, ln, rfl, rfl, hT⟩ := tabOk_out ht
    rw [map_toNat]
    exact unitsofOut_pred m ln a (ln.map Int.ofNat).length cap w.heap.size _ (by simp) (by simp) (HL.out.later hbel) hT.toTb (by rw [List.length_map]; exact hT.len)
  rintro e w2 ⟨a2, c2, rfl, ho, hb2⟩
  have F : Hid (RetSl 3 1 (unitsOfF n l).length (intVals (unitsOfF n l)) w (.returned (.slice a2 (unitsOfF n l).length c2)) w2) := ⟨_, _, rfl, owns_mono ho (by simp), Below.now hbel hb2⟩
  have HE : Hid (thoseL n l (isUnit n.toNat (l.map Int.toNat)) = unitsOfF n l) := rfl
  rw [HE.out]
  clear ho hb2 hbel HE
  go_wp2_with fail
  go_ret
  exact F.out
/-- RegularOf as a function of plain data -/
def regularOfF (n : Int) (l : List Int) : List Int := thoseL n l (isReg n.toNat (l.map Int.toNat))
end Go.Proofs.YtmgdglghjlggnaaGreat
namespace Go.Proofs.YtmgdglghjlggnaaGreat
open Go.RowKit
set_option linter.unusedVariables false
def boolVals (m : Nat) (f : Nat → Bool) : List Value := (List.range m).map fun j => Value.bool (f j)
theorem boolVals_len (m : Nat) (f : Nat → Bool) : (boolVals m f).length = m := by simp [boolVals]
theorem boolVals_at {m j : Nat} {f : Nat → Bool} (h : j < m) : (boolVals m f)[j]? = some (.bool (f j)) := by simp [boolVals, h]
theorem boolVals_congr {m : Nat} {f g : Nat → Bool} (h : ∀ j, j < m → f j = g j) : boolVals m f = boolVals m g := by
  unfold boolVals
  apply List.map_congr_left
  intro j hj
  rw [h j (List.mem_range.1 hj)]
/-- a row of m bools of the call's own, in block g -/
def BoolRow (T : TypeId) (w : World) (base g m : Nat) (f : Nat → Bool) : Prop := w.ownsRow base T 1 (.slice (some ⟨g, 0, none⟩) m m) m (boolVals m f)
theorem BoolRow.cell {T : TypeId} {w : World} {base g m : Nat} {f : Nat → Bool} (h : BoolRow T w base g m f) {j : Nat} (hj : j < m) : w.cell? ⟨g, j, none⟩ = some (.bool (f j)) := by
  have := World.ownsRow.cellAt h j (by omega)
  rw [this, boolVals_at hj]
theorem BoolRow.frozen {T : TypeId} {w : World} {base g m : Nat} {f : Nat → Bool} (h : BoolRow T w base g m f) (j : Nat) : w.frozen? ⟨g, j, none⟩ = false := World.ownsRow.frozenAt h j
theorem BoolRow.range {T : TypeId} {w : World} {base g m : Nat} {f : Nat → Bool} (h : BoolRow T w base g m f) : base ≤ g ∧ g < w.heap.size := World.ownsRow.lt h g rfl
theorem BoolRow.later {T : TypeId} {w w' : World} {base g m : Nat} {f : Nat → Bool} (h : BoolRow T w base g m f) (hb : Below w.heap.size w w') : BoolRow T w' base g m f := owns_later h hb
theorem BoolRow.congr {T : TypeId} {w : World} {base g m : Nat} {f f' : Nat → Bool} (h : BoolRow T w base g m f) (hf : ∀ j, j < m → f j = f' j) : BoolRow T w base g m f' := by
  unfold BoolRow; rw [← boolVals_congr hf]; exact h
theorem BoolRow.store {T : TypeId} {w : World} {base g m : Nat} {f : Nat → Bool} (h : BoolRow T w base g m f) (i : Nat) (v : Bool) : BoolRow T (w.setCell ⟨g, i, none⟩ (.bool v)) base g m (fun j => if j = i then v else f j) := by
  have hs := (World.ownsRow.stored h i (.bool v)).1
  have e : (boolVals m f).set i (.bool v) = boolVals m (fun j => if j = i then v else f j) := by
    apply List.ext_getElem?
    intro j
    rw [List.getElem?_set, boolVals_len]
    by_cases hj : j < m
    · rw [boolVals_at (f := fun j => if j = i then v else f j) hj]
      by_cases e : i = j
      · subst e; simp [hj]
      · rw [if_neg e, boolVals_at hj, if_neg (by omega)]
    · rw [List.getElem?_eq_none (l := boolVals m fun j => if j = i then v else f j) (by rw [boolVals_len]; omega)]
      by_cases e : i = j
      · subst e; simp [hj]
      · rw [if_neg e, List.getElem?_eq_none (by rw [boolVals_len]; omega)]
  unfold BoolRow
  rw [← e]
  exact hs
theorem BoolRow.start (w : World) (T : TypeId) (cs : Array Value) (m : Nat) (hs : cs.toList = boolVals m fun _ => false) (hn : m ≤ maxLen) : BoolRow T (w.alloc (.cells cs T)) w.heap.size w.heap.size m fun _ => false := by
  have h := World.ownsRow_lit (e := T) (size := 1) w cs m (Nat.le_refl _) hn (by rw [← Array.length_toList, hs, boolVals_len]; omega)
  rw [hs] at h
  exact h
theorem BoolRow.ge {T : TypeId} {w : World} {base base' g m : Nat} {f : Nat → Bool} (h : BoolRow T w base g m f) (hb : base' ≤ base) : BoolRow T w base' g m f := owns_mono h hb
end Go.Proofs.YtmgdglghjlggnaaGreat
namespace Go.Proofs.YtmgdglghjlggnaaGreat
open Go.RowKit
set_option linter.unusedVariables false
def ivs (q : List Nat) : List Value := intVals (q.map Int.ofNat)
theorem ivs_app (q : List Nat) (y : Nat) : ivs (q ++ [y]) = ivs q ++ [.int .i64 (y : Nat)] := by simp [ivs, intVals]
theorem nats_cell {w : World} {a : Option Addr} {z : List Nat} (h : NatsIn w a z) {j : Nat} (hj : j < z.length) : ∃ b off, a = some ⟨b, off, none⟩ ∧ ∀ W, Below w.heap.size w W → W.cell? ⟨b, off + j, none⟩ = some (.int .i64 ((z[j] : Nat) : Int)) := by
  obtain ⟨b, off, ha, hb, hc⟩ := IntsIn.cell h (i := j) (by simpa using hj)
  refine ⟨b, off, ha, fun W hW => ?_⟩
  rw [hW.cell hb, hc j (by simpa using hj), nthZ_lt (by simpa using hj)]
  simp
end Go.Proofs.YtmgdglghjlggnaaGreat
namespace Go.Proofs.YtmgdglghjlggnaaGreat
open Go.RowKit
set_option linter.unusedVariables false
/-- the image of a letter -/
def imN (zn : List Nat) (c : UInt8) : Nat := zn.getD (c.toNat - 97) 0
/-- the value of the first j letters -/
def valTo (m : Nat) (ln zn : List Nat) (w : ByteArray) (j : Nat) : Nat := (w.data.toList.take j).foldl (fun x c => tm m ln x (imN zn c)) 0
def valF (m : Nat) (ln zn : List Nat) (w : ByteArray) : Nat := valTo m ln zn w w.size
/-- the letters have images -/
def letIn (zn : List Nat) (w : ByteArray) : Prop := ∀ c ∈ w.data.toList, 97 ≤ c.toNat ∧ c.toNat - 97 < zn.length
section
variable {m : Nat} {ln zn : List Nat} {w : ByteArray}
theorem valTo_zero : valTo m ln zn w 0 = 0 := by simp [valTo]
theorem valTo_succ {j : Nat} (h : j < w.size) : valTo m ln zn w (j + 1) = tm m ln (valTo m ln zn w j) (imN zn w[j]) := by
  unfold valTo
  rw [List.take_succ_eq_append_getElem (by simpa using h), List.foldl_append]
  simp [ByteArray.getElem_eq_getElem_data]
theorem valTo_full {j : Nat} (h : ¬ j < w.size) (hj : j ≤ w.size) : valTo m ln zn w j = valF m ln zn w := by
  obtain rfl : j = w.size := by omega
  rfl
theorem imN_lt (hz : ∀ x ∈ zn, x < m) {c : UInt8} (h : c.toNat - 97 < zn.length) : imN zn c < m := by
  unfold imN
  rw [List.getD_eq_getElem?_getD, List.getElem?_eq_getElem h]
  exact hz _ (List.getElem_mem h)
theorem valTo_lt (hT : Tb m ln) (hz : ∀ x ∈ zn, x < m) (hw : letIn zn w) : ∀ j, j ≤ w.size → valTo m ln zn w j < m
  | 0, _ => by rw [valTo_zero]; exact hT.lo
  | j + 1, h => by
    rw [valTo_succ (by omega)]
    refine hT.tm_lt (valTo_lt hT hz hw j (by omega)) (imN_lt hz (hw _ ?_).2)
    rw [ByteArray.getElem_eq_getElem_data]
    exact Array.getElem_mem_toList _
theorem letIn_at (hw : letIn zn w) {j : Nat} (h : j < w.size) : 97 ≤ w[j].toNat ∧ w[j].toNat - 97 < zn.length := hw _ (by
  rw [ByteArray.getElem_eq_getElem_data]
  exact Array.getElem_mem_toList _)
theorem letIn_of {k : Int} (h : wordOkB k w = true) (hk : k = (zn.length : Int)) : letIn zn w := fun c hc => by
  unfold wordOkB allB at h
  simp only [Bool.and_eq_true, List.all_eq_true, decide_eq_true_eq] at h
  have := letB_true (h.2.2 c hc)
  omega
end
/-- ImagesOk as a function of plain data -/
def imgB (n : Int) (l z : List Int) : Bool := tabB n l && (inB (z.length : Int) 1 4 && rngB n z)
theorem imgB_no1 {n : Int} {l z : List Int} (h : tabB n l = false) : imgB n l z = false := by simp [imgB, h]
theorem imgB_no2 {n : Int} {l z : List Int} (h : inB (z.length : Int) 1 4 = false) : imgB n l z = false := by simp [imgB, h]
theorem imgB_yes {n : Int} {l z : List Int} (h : tabB n l = true) (h2 : inB (z.length : Int) 1 4 = true) : imgB n l z = rngB n z := by simp [imgB, h, h2]
end Go.Proofs.YtmgdglghjlggnaaGreat
namespace Go.Proofs.YtmgdglghjlggnaaGreat
open Go.RowKit
set_option linter.unusedVariables false
/-- the letters a .. d alone -/
def LW (v : List UInt8) : Prop := ∀ y ∈ v, 97 ≤ y.toNat ∧ y.toNat ≤ 100
theorem LW.app {u v : List UInt8} (hu : LW u) (hv : LW v) : LW (u ++ v) := fun y hy => by
  rcases List.mem_append.1 hy with h | h
  · exact hu y h
  · exact hv y h
/-- the number of a word: its letters as the digits 1 to 4 in base 5 -/
def rkL : List UInt8 → Nat → Nat
  | [], a => a
  | y :: v, a => rkL v (a * 5 + (y.toNat - 96))
def rk (v : List UInt8) : Nat := rkL v 0
theorem rkL_add : ∀ (v : List UInt8) (a : Nat), rkL v a = a * 5 ^ v.length + rk v
  | [], a => by simp [rkL, rk]
  | y :: v, a => by
    unfold rk
    simp only [rkL]
    rw [rkL_add v, rkL_add v (0 * 5 + _)]
    rw [List.length_cons, Nat.pow_succ, Nat.add_mul, Nat.zero_mul, Nat.zero_add, Nat.mul_comm (5 ^ v.length) 5, ← Nat.mul_assoc]
    omega
theorem rk_app (u v : List UInt8) : rk (u ++ v) = rk u * 5 ^ v.length + rk v := by
  have h : ∀ (u : List UInt8) (a : Nat), rkL (u ++ v) a = rkL v (rkL u a) := fun u => by
    induction u with
    | nil => intro a; rfl
    | cons y u ih => intro a; exact ih _
  unfold rk
  rw [h, rkL_add]
  rfl
theorem rk_cons (y : UInt8) (v : List UInt8) : rk (y :: v) = (y.toNat - 96) * 5 ^ v.length + rk v := by
  have h := rk_app [y] v
  have e : rk [y] = y.toNat - 96 := by simp [rk, rkL]
  rw [e] at h
  exact h
theorem rk_lt : ∀ {v : List UInt8}, LW v → rk v < 5 ^ v.length
  | [], _ => by simp [rk, rkL]
  | y :: v, h => by
    have ih := rk_lt (v := v) (fun z hz => h z (List.mem_cons_of_mem _ hz))
    have h1 := h y List.mem_cons_self
    rw [rk_cons, List.length_cons, Nat.pow_succ]
    have h2 : (y.toNat - 96) * 5 ^ v.length ≤ 4 * 5 ^ v.length := Nat.mul_le_mul_right _ (by omega)
    omega
theorem rk_ge {y : UInt8} {v : List UInt8} (h : LW (y :: v)) : 5 ^ v.length ≤ rk (y :: v) := by
  have h1 := h y List.mem_cons_self
  rw [rk_cons]
  have h2 : 1 * 5 ^ v.length ≤ (y.toNat - 96) * 5 ^ v.length := Nat.mul_le_mul_right _ (by omega)
  omega
theorem rk_lex : ∀ {u v : List UInt8}, LW u → LW v → u.length = v.length → u < v → rk u < rk v
  | [], [], _, _, _, h => absurd h (List.lt_irrefl _)
  | [], _ :: _, _, _, h, _ => by simp at h
  | _ :: _, [], _, _, h, _ => by simp at h
  | a :: u, b :: v, hu, hv, hl, h => by
    have hl2 : u.length = v.length := by simpa using hl
    have hu2 : LW u := fun z hz => hu z (List.mem_cons_of_mem _ hz)
    have hv2 : LW v := fun z hz => hv z (List.mem_cons_of_mem _ hz)
    have ha := hu a List.mem_cons_self
    have hb := hv b List.mem_cons_self
    rw [rk_cons, rk_cons, hl2]
    rcases List.cons_lt_cons_iff.1 h with h1 | ⟨rfl, h1⟩
    · have h2 := UInt8.lt_iff_toNat_lt.1 h1
      have h3 := rk_lt hu2
      rw [hl2] at h3
      have h4 : (a.toNat - 96 + 1) * 5 ^ v.length ≤ (b.toNat - 96) * 5 ^ v.length := Nat.mul_le_mul_right _ (by omega)
      rw [Nat.add_mul] at h4
      omega
    · have := rk_lex hu2 hv2 hl2 h1
      omega
theorem rk_less {u v : List UInt8} (hu : LW u) (hv : LW v) (h : ltW u v = true) : rk u < rk v := by
  unfold ltW at h
  rcases of_decide_eq_true h with h | ⟨h1, h2⟩
  · cases v with
    | nil => simp at h
    | cons y v =>
      have h1 := rk_lt hu
      have h2 := rk_ge hv
      have h3 : 5 ^ u.length ≤ 5 ^ v.length := Nat.pow_le_pow_right (by omega) (by simp at h; omega)
      omega
  · exact rk_lex hu hv h1 h2
theorem rk_swap {u x y v : List UInt8} (hx : LW x) (hy : LW y) (h : ltW y x = true) : rk (u ++ (y ++ v)) < rk (u ++ (x ++ v)) := by
  have hlen : y.length ≤ x.length := by
    unfold ltW at h
    rcases of_decide_eq_true h with h | ⟨h, _⟩ <;> omega
  have h1 := rk_less hy hx h
  rw [rk_app u (y ++ v), rk_app u (x ++ v), rk_app y v, rk_app x v, List.length_append, List.length_append, Nat.pow_add, Nat.pow_add]
  have h2 : 5 ^ y.length ≤ 5 ^ x.length := Nat.pow_le_pow_right (by omega) hlen
  have h3 : rk u * (5 ^ y.length * 5 ^ v.length) ≤ rk u * (5 ^ x.length * 5 ^ v.length) := Nat.mul_le_mul_left _ (Nat.mul_le_mul_right _ h2)
  have h4 : (rk y + 1) * 5 ^ v.length ≤ rk x * 5 ^ v.length := Nat.mul_le_mul_right _ h1
  have h5 : 1 ≤ 5 ^ v.length := Nat.one_le_pow _ _ (by omega)
  rw [Nat.add_mul, Nat.one_mul] at h4
  omega
theorem rk_top {v : List UInt8} (h : LW v) (hl : v.length ≤ 16) : rk v < 152587890625 := by
  have h1 := rk_lt h
  have h2 : 5 ^ v.length ≤ 5 ^ 16 := Nat.pow_le_pow_right (by omega) hl
  have h3 : (5 : Nat) ^ 16 = 152587890625 := by decide
  omega
/-- l lies in w at the place i -/
def preAt (w : ByteArray) (i : Nat) (l : ByteArray) : Bool := l.data.toList.isPrefixOf (w.data.toList.drop i)
theorem preAt_fits {w l : ByteArray} {i : Nat} (h : preAt w i l = true) (hl : 0 < l.size) : i + l.size ≤ w.size := by
  have h1 := (List.isPrefixOf_iff_prefix.1 h).length_le
  have h2 : l.data.toList.length = l.size := rfl
  have h3 : w.data.toList.length = w.size := rfl
  rw [List.length_drop] at h1
  omega
/-- the steps with a rule at a place (the first k rules) -/
def stAt (R : List RulD) (w : ByteArray) (i k : Nat) : List (Nat × Nat) := ((List.range k).filter fun r => preAt w i (nthR R r).1).map fun r => (r, i)
/-- the steps at the places before i, and with the rules before k at i -/
def stTo (R : List RulD) (w : ByteArray) (i k : Nat) : List (Nat × Nat) := ((List.range i).flatMap fun j => stAt R w j R.length) ++ stAt R w i k
/-- all steps, by place and then by rule -/
def stepsF (R : List RulD) (w : ByteArray) : List (Nat × Nat) := (List.range w.size).flatMap fun j => stAt R w j R.length
theorem stAt_zero (R : List RulD) (w : ByteArray) (i : Nat) : stAt R w i 0 = [] := rfl
theorem stTo_yes {R : List RulD} {w : ByteArray} {i k : Nat} (h : preAt w i (nthR R k).1 = true) : stTo R w i (k + 1) = stTo R w i k ++ [(k, i)] := by
  unfold stTo stAt
  rw [List.range_succ, List.filter_append, List.map_append, List.append_assoc]
  simp [h]
theorem stTo_no {R : List RulD} {w : ByteArray} {i k : Nat} (h : preAt w i (nthR R k).1 = false) : stTo R w i (k + 1) = stTo R w i k := by
  unfold stTo stAt
  rw [List.range_succ, List.filter_append, List.map_append]
  simp [h]
theorem stTo_next (R : List RulD) (w : ByteArray) (i : Nat) : stTo R w i R.length = stTo R w (i + 1) 0 := by
  unfold stTo
  rw [stAt_zero, List.append_nil, List.range_succ, List.flatMap_append]
  simp
theorem stTo_done (R : List RulD) (w : ByteArray) : stTo R w w.size 0 = stepsF R w := by
  unfold stTo stepsF
  rw [stAt_zero, List.append_nil]
theorem mem_stepsF {R : List RulD} {w : ByteArray} {s : Nat × Nat} : s ∈ stepsF R w ↔ s.2 < w.size ∧ s.1 < R.length ∧ preAt w s.2 (nthR R s.1).1 = true := by
  unfold stepsF stAt
  simp only [List.mem_flatMap, List.mem_range, List.mem_map, List.mem_filter]
  constructor
  · rintro ⟨i, hi, r, ⟨hr, hp⟩, rfl⟩
    exact ⟨hi, hr, hp⟩
  · rintro ⟨h1, h2, h3⟩
    exact ⟨s.2, h1, s.1, ⟨h2, h3⟩, rfl⟩
theorem stepsF_len (R : List RulD) (w : ByteArray) : (stepsF R w).length ≤ w.size * R.length := by
  unfold stepsF
  rw [List.length_flatMap]
  have key : ∀ n, ((List.range n).map fun j => (stAt R w j R.length).length).sum ≤ n * R.length := fun n => by
    induction n with
    | zero => simp
    | succ n ih =>
      rw [List.range_succ, List.map_append, List.sum_append]
      have h1 : (stAt R w n R.length).length ≤ R.length := by
        unfold stAt
        rw [List.length_map]
        have := List.length_filter_le (fun r => preAt w n (nthR R r).1) (List.range R.length)
        simpa using this
      simp only [List.map_cons, List.map_nil, List.sum_cons, List.sum_nil, Nat.add_zero]
      rw [Nat.succ_mul]
      omega
  exact key w.size
/-- a part of a word replaced -/
def replF (w : ByteArray) (i l : Nat) (by_ : ByteArray) : ByteArray := w.extract 0 i ++ by_ ++ w.extract (i + l) w.size
theorem replF_size {w by_ : ByteArray} {i l : Nat} (h : i + l ≤ w.size) : (replF w i l by_).size = w.size - l + by_.size := by
  unfold replF
  simp only [ByteArray.size_append, ByteArray.size_extract]
  omega
theorem extract_lt (v : ByteArray) (i j : Nat) : (v.extract i j).data.toList = (v.data.toList.take j).drop i := by
  rw [ByteArray.data_extract, Array.toList_extract, List.extract_eq_take_drop, List.drop_take]
theorem replF_list (w : ByteArray) (i l : Nat) (by_ : ByteArray) : (replF w i l by_).data.toList = w.data.toList.take i ++ (by_.data.toList ++ w.data.toList.drop (i + l)) := by
  unfold replF
  rw [ByteArray.data_append, ByteArray.data_append, Array.toList_append, Array.toList_append, extract_lt, extract_lt, List.drop_zero, List.append_assoc]
  have h : w.data.toList.length = w.size := rfl
  rw [List.take_of_length_le (Nat.le_of_eq h)]
/-- the word behind a step -/
def applyF (R : List RulD) (w : ByteArray) (s : Nat × Nat) : ByteArray := replF w s.2 (nthR R s.1).1.size (nthR R s.1).2
theorem split_at {w l : ByteArray} {i : Nat} (h : preAt w i l = true) : w.data.toList = w.data.toList.take i ++ (l.data.toList ++ w.data.toList.drop (i + l.size)) := by
  obtain ⟨t, ht⟩ := List.isPrefixOf_iff_prefix.1 h
  have h2 : l.data.toList.length = l.size := rfl
  have h3 : w.data.toList.drop (i + l.size) = t := by
    rw [← List.drop_drop, ← ht, ← h2, List.drop_left]
  rw [h3, ht, List.take_append_drop]
/-- what a word is that a system takes -/
structure WdP (w : ByteArray) : Prop where
  len : w.size ≤ 16
  let4 : LW w.data.toList
theorem wdP_of {k : Int} {w : ByteArray} (h : wordOkB k w = true) : WdP w := by
  unfold wordOkB allB at h
  simp only [Bool.and_eq_true, List.all_eq_true, decide_eq_true_eq] at h
  refine ⟨h.2.1, fun y hy => ?_⟩
  have h1 := inB_bounds h.1
  have h2 := letB_true (h.2.2 y hy)
  omega
theorem lw_of {k : Int} {w : ByteArray} (h : wordOkB k w = true) : LW w.data.toList := (wdP_of h).let4
/-- a step of an ordered system makes a word less -/
theorem step_less {k : Int} {R : List RulD} (hs : sysP k R) {w : ByteArray} {s : Nat × Nat} (hm : s ∈ stepsF R w) : rk (applyF R w s).data.toList < rk w.data.toList := by
  obtain ⟨h1, h2, h3⟩ := mem_stepsF.1 hm
  have hr := nthR_mem h2
  have hp := hs.1.2 _ hr
  have hl := hs.2 _ hr
  unfold applyF
  rw [replF_list]
  conv => rhs; rw [split_at h3]
  exact rk_swap (lw_of hp.1.1.1) (lw_of hp.1.1.2) hl
theorem step_size {k : Int} {R : List RulD} (hs : sysP k R) {w : ByteArray} {s : Nat × Nat} (hm : s ∈ stepsF R w) : (applyF R w s).size ≤ w.size ∧ s.2 + (nthR R s.1).1.size ≤ w.size := by
  obtain ⟨h1, h2, h3⟩ := mem_stepsF.1 hm
  have hr := nthR_mem h2
  have hp := hs.1.2 _ hr
  have hl := hs.2 _ hr
  have hf := preAt_fits h3 (by have := hp.2; omega)
  have hle : (nthR R s.1).2.size ≤ (nthR R s.1).1.size := by
    unfold lessS ltW at hl
    have e1 : (blW (nthR R s.1).1).length = (nthR R s.1).1.size := rfl
    have e2 : (blW (nthR R s.1).2).length = (nthR R s.1).2.size := rfl
    rcases of_decide_eq_true hl with h | ⟨h, _⟩ <;> omega
  refine ⟨?_, hf⟩
  unfold applyF
  rw [replF_size hf]
  omega
/-- letters of the first k -/
def okLt (k : Int) (v : List UInt8) : Prop := ∀ y ∈ v, letB k y = true
theorem wordOk_iff {k : Int} {w : ByteArray} : wordOkB k w = true ↔ (1 ≤ k ∧ k ≤ 4) ∧ w.size ≤ 16 ∧ okLt k w.data.toList := by
  unfold wordOkB allB okLt
  rw [Bool.and_eq_true, Bool.and_eq_true, List.all_eq_true, decide_eq_true_eq]
  have h : inB k 1 4 = true ↔ 1 ≤ k ∧ k ≤ 4 := by simp [inB]
  rw [h]
theorem step_word {k : Int} {R : List RulD} (hs : sysP k R) {w : ByteArray} (hw : wordOkB k w = true) {s : Nat × Nat} (hm : s ∈ stepsF R w) : wordOkB k (applyF R w s) = true := by
  obtain ⟨h1, h2, h3⟩ := mem_stepsF.1 hm
  have hp := hs.1.2 _ (nthR_mem h2)
  obtain ⟨a1, a2, a3⟩ := wordOk_iff.1 hw
  obtain ⟨b1, b2, b3⟩ := wordOk_iff.1 hp.1.1.2
  refine wordOk_iff.2 ⟨a1, Nat.le_trans (step_size hs hm).1 a2, fun y hy => ?_⟩
  unfold applyF at hy
  rw [replF_list] at hy
  rcases List.mem_append.1 hy with hy | hy
  · exact a3 y ((List.take_sublist _ _).subset hy)
  rcases List.mem_append.1 hy with hy | hy
  · exact b3 y hy
  · exact a3 y ((List.drop_sublist _ _).subset hy)
/-- x is what the first steps lead to from w -/
inductive NormIs (R : List RulD) : ByteArray → ByteArray → Prop
  | done {w : ByteArray} : (stepsF R w).head? = none → NormIs R w w
  | step {w x : ByteArray} {s : Nat × Nat} : (stepsF R w).head? = some s → NormIs R (applyF R w s) x → NormIs R w x
theorem NormIs.uniq {R : List RulD} {w x y : ByteArray} (a : NormIs R w x) (b : NormIs R w y) : x = y := by
  induction a with
  | done h =>
    cases b with
    | done => rfl
    | step h' _ => rw [h] at h'; cases h'
  | step h _ ih =>
    cases b with
    | done h' => rw [h] at h'; cases h'
    | step h' b' =>
      rw [h] at h'
      cases h'
      exact ih b'
theorem head_mem {l : List (Nat × Nat)} {s : Nat × Nat} (h : l.head? = some s) : s ∈ l := by
  cases l with
  | nil => cases h
  | cons a l => cases h; exact List.mem_cons_self
theorem NormIs.ex {k : Int} {R : List RulD} (hs : sysP k R) : ∀ (n : Nat) (w : ByteArray), rk w.data.toList < n → wordOkB k w = true → ∃ x, NormIs R w x ∧ wordOkB k x = true
  | 0, w, h, _ => by omega
  | n + 1, w, h, hw => by
    cases hh : (stepsF R w).head? with
    | none => exact ⟨w, .done hh, hw⟩
    | some s =>
      have hm := head_mem hh
      have h1 := step_less hs hm
      obtain ⟨x, hx, hx2⟩ := NormIs.ex hs n (applyF R w s) (by omega) (step_word hs hw hm)
      exact ⟨x, .step hh hx, hx2⟩
theorem NormIs.word {k : Int} {R : List RulD} (hs : sysP k R) {w x : ByteArray} (h : NormIs R w x) (hw : wordOkB k w = true) : wordOkB k x = true := by
  obtain ⟨y, h1, h2⟩ := NormIs.ex hs _ w (Nat.lt_succ_self _) hw
  rw [h.uniq h1]; exact h2
end Go.Proofs.YtmgdglghjlggnaaGreat
namespace Go.Proofs.YtmgdglghjlggnaaGreat
open Go.RowKit
set_option linter.unusedVariables false
/-- a text of one byte -/
def oneC (x : Int) : ByteArray := ⟨#[UInt8.ofNat x.toNat]⟩
theorem convC (w : World) (x : Int) :
    (convert 22 9 (.slice (some ⟨w.heap.size, 0, none⟩) 1 1)).run Tryz.prog (w.alloc (.cells #[.int .u8 x] 5)) = .ok (.string (oneC x)) (w.alloc (.cells #[.int .u8 x] 5)) :=
  run_convert_bytes_arg (P := Tryz.prog) (w.alloc (.cells #[.int .u8 x] 5)) 22 5 Tryz.underlying22 Tryz.underlying5 w.heap.size 0 1 1 [x] rfl (fun i hi => by
    obtain rfl : i = 0 := by omega
    simp) 9 Tryz.underlying9
/-- the letter of a number -/
def letterN (x : Nat) : ByteArray := oneC (97 + (x : Int))
theorem letterN_size (x : Nat) : (letterN x).size = 1 := rfl
theorem letterOf_any (x : Nat) (w : World) (hx : x < 26) : Calls Tryz.prog 37 #[.int .i64 (x : Nat)] w fun e w' => e = .returned (.string (letterN x)) ∧ Below w.heap.size w w' := by
  have kc := convC
  have hu : IntKind.u8.wrap (97 + (x : Int)) = 97 + (x : Int) := by simp [IntKind.wrap, IntKind.signed, IntKind.bits]; omega
  have HL : Hid (oneC (97 + (x : Int)) = letterN x) := Lib.hid rfl
  go_enter Tryz.func37, Tryz.ntmps37
  go_wp2_with fail
  go_ret
  exact ⟨rfl, (Below.refl _ _).alloc (Nat.le_refl _) _⟩
end Go.Proofs.YtmgdglghjlggnaaGreat
