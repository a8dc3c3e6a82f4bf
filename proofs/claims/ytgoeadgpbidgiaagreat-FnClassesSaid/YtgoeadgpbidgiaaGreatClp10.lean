/-
  LongestReduced and CountAll of the program.
-/
import Derived.Test.YtgoeadgpbidgiaaGreatClp09
import Derived.Test.YtgoeadgpbidgiaaGreatClp04
import Derived.Test.YtgoeadgpbidgiaaGreatClp01
import Derived.Lib.Itoa
import Derived.Lib.ItoaNum
import Derived.Laws.BytesArg
import Derived.Deep.RegionWith
import Derived.Test.YtgoeadgpbidgiaaGreatClp08
import Derived.Maps.OwnSet
import Derived.Laws.EntriesVeiled
namespace Go.Proofs.YtgoeadgpbidgiaaGreat
open Go.RowKit
set_option linter.unusedVariables false
def keyV (V : WayD) : List Value := V.map fun p => .string p.1
def cntV (V : WayD) : List Value := V.map fun p => .int .i64 (p.2 : Int)
theorem keyV_len (V : WayD) : (keyV V).length = V.length := by simp [keyV]
theorem cntV_len (V : WayD) : (cntV V).length = V.length := by simp [cntV]
/-- ends and numbers that are being built -/
def Ways (w wr : World) (v u : Value) (V : WayD) : Prop := TwoB w wr v (keyV V) u (cntV V)
def nthW (V : WayD) (i : Nat) : ByteArray × Nat := V.getD i (⟨#[]⟩, 0)
theorem nthW_lt {V : WayD} {i : Nat} (h : i < V.length) : nthW V i = V[i] := by simp [nthW, List.getD_eq_getElem?_getD, h]
/-- the ends and the numbers lie in two slices -/
def WaysIn (w : World) (a a2 : Option Addr) (W : WayD) : Prop := CellsIn w a (keyV W) ∧ CellsIn w a2 (cntV W)
theorem WaysIn.later {w w' : World} {a a2 : Option Addr} {W : WayD} (h : WaysIn w a a2 W) (hb : Below w.heap.size w w') : WaysIn w' a a2 W := ⟨h.1.later hb, h.2.later hb⟩
theorem cells_at {w : World} {a : Option Addr} {xs : List Value} (h : CellsIn w a xs) {i : Nat} {x : Value} (hi : xs[i]? = some x) : ∃ b off, a = some ⟨b, off, none⟩ ∧ w.cell? ⟨b, off + i, none⟩ = some x := by
  obtain ⟨hl, rfl⟩ := List.getElem?_eq_some_iff.1 hi
  rcases h with h | ⟨b, off, ha, hc⟩
  · rw [h] at hl; simp at hl
  · exact ⟨b, off, ha, hc i hl⟩
theorem WaysIn.at {w : World} {a a2 : Option Addr} {W : WayD} (h : WaysIn w a a2 W) {i : Nat} (hi : i < W.length) :
    ∃ b off b2 off2, a = some ⟨b, off, none⟩ ∧ a2 = some ⟨b2, off2, none⟩ ∧ w.cell? ⟨b, off + i, none⟩ = some (.string (nthW W i).1) ∧ w.cell? ⟨b2, off2 + i, none⟩ = some (.int .i64 ((nthW W i).2 : Int)) := by
  obtain ⟨b, off, ha, h1⟩ := cells_at h.1 (i := i) (x := .string (nthW W i).1) (by simp [keyV, hi, nthW_lt hi])
  obtain ⟨b2, off2, ha2, h2⟩ := cells_at h.2 (i := i) (x := .int .i64 ((nthW W i).2 : Int)) (by simp [cntV, hi, nthW_lt hi])
  exact ⟨b, off, b2, off2, ha, ha2, h1, h2⟩
theorem Ways.later {w wr wr' : World} {v u : Value} {V : WayD} (h : Ways w wr v u V) (hb : Below wr.heap.size wr wr') : Ways w wr' v u V := TwoB.later h hb
theorem Ways.form {w wr : World} {v u : Value} {V : WayD} (h : Ways w wr v u V) : ∃ a c a2 c2, v = .slice a V.length c ∧ u = .slice a2 V.length c2 := by
  obtain ⟨a, c, hv⟩ := owns_form h.1.1
  obtain ⟨a2, c2, hu⟩ := owns_form h.2.1.1
  rw [keyV_len] at hv
  rw [cntV_len] at hu
  exact ⟨a, c, a2, c2, hv, hu⟩
theorem Ways.read {w wr : World} {v u : Value} {V : WayD} (h : Ways w wr v u V) {i : Nat} (hi : i < V.length) : ∃ g c g2 c2, v = .slice (some ⟨g, 0, none⟩) V.length c ∧ u = .slice (some ⟨g2, 0, none⟩) V.length c2 ∧
    wr.cell? ⟨g, i, none⟩ = some (.string (nthW V i).1) ∧ wr.cell? ⟨g2, i, none⟩ = some (.int .i64 ((nthW V i).2 : Int)) ∧ wr.frozen? ⟨g2, i, none⟩ = false := by
  obtain ⟨g, c, hv⟩ := owns_slot h.1.1 (by rw [keyV_len]; omega)
  obtain ⟨g2, c2, hu⟩ := owns_slot h.2.1.1 (by rw [cntV_len]; omega)
  rw [keyV_len] at hv
  rw [cntV_len] at hu
  subst hv hu
  refine ⟨g, c, g2, c2, rfl, rfl, ?_, ?_, by have h2 := h.2.1.1; rw [cntV_len] at h2; exact h2.frozenAt i⟩
  · have h1 := h.1.1
    rw [keyV_len] at h1
    rw [World.ownsRow.cellAt h1 i (by omega)]; simp [keyV, hi, nthW_lt hi]
  · have h1 := h.2.1.1
    rw [cntV_len] at h1
    rw [World.ownsRow.cellAt h1 i (by omega)]; simp [cntV, hi, nthW_lt hi]
theorem Ways.drewN {w wr : World} {v u : Value} {V : WayD} (h : Ways w wr v u V) (n : Nat) : Ways w (wr.drewN n) v u V := h.later ⟨rfl, rfl, rfl, Nat.le_refl _, fun _ _ => rfl⟩
theorem Ways.out {w wr : World} {v u : Value} {V : WayD} (h : Ways w wr v u V) : ∃ a c a2 c2, v = .slice a V.length c ∧ u = .slice a2 V.length c2 ∧ WaysIn wr a a2 V ∧ (∀ x, a = some x → w.heap.size ≤ x.block ∧ x.block < wr.heap.size) ∧ ∀ x, a2 = some x → w.heap.size ≤ x.block ∧ x.block < wr.heap.size := by
  obtain ⟨a, c, a2, c2, rfl, rfl⟩ := h.form
  exact ⟨a, c, a2, c2, rfl, rfl, ⟨owns_cells h.1.1, owns_cells h.2.1.1⟩, fun x hx => by subst hx; exact h.1.1.lt x.block rfl, fun x hx => by subst hx; exact h.2.1.1.lt x.block rfl⟩
end Go.Proofs.YtgoeadgpbidgiaaGreat
namespace Go.Proofs.YtgoeadgpbidgiaaGreat
open Go.RowKit
set_option linter.unusedVariables false
/-- a text of one byte -/
def oneB (x : Int) : ByteArray := ⟨#[UInt8.ofNat x.toNat]⟩
theorem conv_one (w : World) (x : Int) :
    (convert 22 9 (.slice (some ⟨w.heap.size, 0, none⟩) 1 1)).run Tryz.prog (w.alloc (.cells #[.int .u8 x] 5)) = .ok (.string (oneB x)) (w.alloc (.cells #[.int .u8 x] 5)) :=
  run_convert_bytes_arg (P := Tryz.prog) (w.alloc (.cells #[.int .u8 x] 5)) 22 5 Tryz.underlying22 Tryz.underlying5 w.heap.size 0 1 1 [x] rfl (fun i hi => by
    obtain rfl : i = 0 := by omega
    simp) 9 Tryz.underlying9
theorem conv_at (w : World) (g : Nat) (x : Int) (h : w.cell? ⟨g, 0, none⟩ = some (.int .u8 x)) :
    (convert 22 9 (.slice (some ⟨g, 0, none⟩) 1 1)).run Tryz.prog w = .ok (.string (oneB x)) w :=
  run_convert_bytes_arg (P := Tryz.prog) w 22 5 Tryz.underlying22 Tryz.underlying5 g 0 1 1 [x] rfl (fun i hi => by
    obtain rfl : i = 0 := by omega
    exact h) 9 Tryz.underlying9
theorem conv_drew (w : World) (x : Int) :
    (convert 22 9 (.slice (some ⟨w.heap.size, 0, none⟩) 1 1)).run Tryz.prog (w.alloc (.cells #[.int .u8 x] 5)).drew = .ok (.string (oneB x)) (w.alloc (.cells #[.int .u8 x] 5)).drew := conv_at _ _ _ (by simp)
theorem last_digit (m : Nat) : oneB (IntKind.u8.wrap (IntKind.i64.wrap (48 + (m : Int).tmod 10))) = ⟨#[UInt8.ofNat (48 + m % 10)]⟩ := by
  have h1 : (m : Int).tmod 10 = ((m % 10 : Nat) : Int) := by rw [Int.tmod_eq_emod_of_nonneg (by omega)]; simp
  have h2 : IntKind.i64.wrap (48 + ((m % 10 : Nat) : Int)) = ((48 + m % 10 : Nat) : Int) := by
    simp [IntKind.wrap, IntKind.signed, IntKind.bits]; omega
  have h3 : IntKind.u8.wrap ((48 + m % 10 : Nat) : Int) = ((48 + m % 10 : Nat) : Int) := by
    simp [IntKind.wrap, IntKind.signed, IntKind.bits]; omega
  rw [h1, h2, h3]; rfl
theorem wrap_id {x : Int} (h0 : -9223372036854775808 ≤ x) (h1 : x ≤ 9223372036854775807) : IntKind.i64.wrap x = x := by
  simp [IntKind.wrap, IntKind.signed, IntKind.bits]; omega
theorem oneB_size (x : Int) : (oneB x).size = 1 := rfl
theorem oneB_app (x : Int) (t : List UInt8) : oneB x ++ ⟨t.toArray⟩ = ⟨(UInt8.ofNat x.toNat :: t).toArray⟩ := by ext1; simp [oneB]
theorem nDigits_le : ∀ (k n : Nat), n < 10 ^ (k + 1) → Lib.nDigits n ≤ k + 1
  | 0, n, h => by rw [Lib.nDigits_small (by omega)]; omega
  | k + 1, n, h => by
    by_cases h1 : n < 10
    · rw [Lib.nDigits_small h1]; omega
    · rw [Lib.nDigits_big h1]
      have := nDigits_le k (n / 10) (by rw [Nat.pow_succ] at h; omega)
      omega
theorem decDigits_len {n : Nat} (h : n ≤ 9223372036854775808) : (Lib.decDigits n).length ≤ 20 := by
  rw [Lib.decDigits_length]; exact nDigits_le 19 n (by omega)
theorem decDigits_big {k : Nat} (h : 9 < k) : Lib.decDigits k = Lib.decDigits (k / 10) ++ [UInt8.ofNat (48 + k % 10)] := by
  rw [Lib.decDigits, dif_neg (by omega)]
theorem decDigits_small {u : Nat} (h : u < 10) : Lib.decDigits u = [UInt8.ofNat (48 + u)] := Lib.decDigits_one h
theorem itoa_nat (n : Nat) : Lib.itoa (n : Int) = Lib.decDigits n := by unfold Lib.itoa; rw [if_neg (by omega)]; rfl
theorem itoa_neg {n : Nat} (h : 1 ≤ n) : Lib.itoa (-(n : Int)) = 45 :: Lib.decDigits n := by unfold Lib.itoa; rw [if_pos (by omega)]; simp
set_option maxRecDepth 20000 in
set_option maxHeartbeats 800000 in
theorem fmtIntNat_any (n : Nat) (w : World) (hn : n ≤ 9223372036854775807) :
    Calls Tryz.prog 92 #[.int .i64 n] w fun e w' => e = .returned (.string ⟨(Lib.itoa n).toArray⟩) ∧ Below w.heap.size w w' := by
  have kc := conv_one
  go_enter Tryz.func92, Tryz.ntmps92
  go_wp2_with fail
  go_loopw [0, 3] (fun v s wr => ∃ (k : Nat) (t : List UInt8), v = .int .i64 k ∧ s = .string ⟨t.toArray⟩ ∧ k ≤ n ∧ Lib.decDigits n = Lib.decDigits k ++ t ∧ t.length ≤ 20 ∧ Below w.heap.size w wr) (fun v _ _ => (intOf v).toNat)
  case atStart => exact ⟨n, [], rfl, rfl, Nat.le_refl _, by simp, by simp, Below.refl _ _⟩
  case round =>
    obtain ⟨k, t, rfl, rfl, hk, hd, ht, hbw⟩ := hrel
    have HD := Lib.hid hd
    have hdl := decDigits_len (n := n) (by omega)
    have hos := oneB_size
    rw [hd, List.length_append] at hdl
    clear hd ht
    by_cases hlt : 9 < k
    · have hb := decDigits_big hlt
      have hl1 : (Lib.decDigits k).length = (Lib.decDigits (k / 10)).length + 1 := by rw [hb]; simp
      have HB := Lib.hid hb
      clear hb
      go_wp2_with fail
      go_roundw
      case rel =>
        refine ⟨k / 10, UInt8.ofNat (48 + k % 10) :: t, by simp, ?_, by omega, ?_, ?_, hbw.alloc hbw.size _⟩
        · rw [oneB_app, show (48 + (k : Int) % 10).toNat = 48 + k % 10 by omega]
        · rw [HD.out, HB.out]; simp
        · simp; omega
      case measure => simp [intOf]; omega
    · have hb := decDigits_small (u := k) (by omega)
      have F : Hid (oneB (48 + (k : Int)) ++ ⟨t.toArray⟩ = ⟨(Lib.itoa n).toArray⟩) := Lib.hid (by
        rw [oneB_app, itoa_nat, HD.out, hb, show (48 + (k : Int)).toNat = 48 + k by omega]; rfl)
      clear hb
      go_wp2_with fail
      go_ret
      exact ⟨ret_str F.out, hbw.alloc hbw.size _⟩
set_option maxRecDepth 20000 in
set_option maxHeartbeats 800000 in
theorem fmtIntNeg_any : ∀ (N m : Nat) (w : World), m ≤ N → 1 ≤ m → m ≤ 9223372036854775808 →
    Calls Tryz.prog 92 #[.int .i64 (-(m : Int))] w fun e w' => e = .returned (.string ⟨(Lib.itoa (-(m : Int))).toArray⟩) ∧ Below w.heap.size w w'
  | 0, m, w, h, h1, _ => by omega
  | N + 1, m, w, h, h1, hm => by
    have kc := conv_one
    have hos := oneB_size
    have hdl := decDigits_len (n := m) hm
    by_cases hlt : m < 10
    · have hq : Int.tdiv (-(m : Int)) 10 = 0 := by rw [Int.neg_tdiv]; simp; omega
      have F : Hid ((⟨#[45]⟩ : ByteArray) ++ oneB (48 + (m : Int)) = ⟨(Lib.itoa (-(m : Int))).toArray⟩) := Lib.hid (by
        rw [itoa_neg h1, decDigits_small hlt, show (48 + (m : Int)) = ((48 + m : Nat) : Int) by simp]; rfl)
      go_enter Tryz.func92, Tryz.ntmps92
      go_wp2_with fail
      go_ret
      exact ⟨ret_str F.out, (Below.refl _ _).alloc (Nat.le_refl _) _⟩
    · have hih : ∀ w, Calls Tryz.prog 92 #[.int .i64 (-((m : Int) / 10))] w fun e w' => e = .returned (.string ⟨(45 :: Lib.decDigits (m / 10)).toArray⟩) ∧ Below w.heap.size w w' := fun w => by
        have := fmtIntNeg_any N (m / 10) w (by omega) (by omega) (by omega)
        rw [itoa_neg (by omega)] at this
        simpa using this
      have HIH := fun w => Lib.hid (hih w)
      have hl10 := decDigits_len (n := m / 10) (by omega)
      have kd := conv_drew
      have F : Hid ((⟨(45 :: Lib.decDigits (m / 10)).toArray⟩ : ByteArray) ++ oneB (IntKind.u8.wrap (IntKind.i64.wrap (48 + (m : Int).tmod 10))) = ⟨(Lib.itoa (-(m : Int))).toArray⟩) := Lib.hid (by
        rw [last_digit, itoa_neg h1, decDigits_big (k := m) (by omega)]; ext1; simp)
      have F2 : Hid ((⟨(45 :: Lib.decDigits (m / 10)).toArray⟩ : ByteArray) ++ oneB (48 + (m : Int) % 10) = ⟨(Lib.itoa (-(m : Int))).toArray⟩) := Lib.hid (by
        rw [show oneB (48 + (m : Int) % 10) = ⟨#[UInt8.ofNat (48 + m % 10)]⟩ by unfold oneB; rw [show (48 + (m : Int) % 10).toNat = 48 + m % 10 by omega], itoa_neg h1, decDigits_big (k := m) (by omega)]; ext1; simp)
      have hl11 : ¬ 9223372036854775807 < (Lib.decDigits (m / 10)).length + 1 + 1 := by omega
      clear hih
      go_enter Tryz.func92, Tryz.ntmps92
      go_wp2_with fail
      go_region_with (go_at_call 92; rw [wrap_id (by omega) (by omega)]; refine (HIH _).out.mono ?_; rintro e w2 ⟨rfl, hb2⟩; (try have kc2 := conv_at w2 w.heap.size _ ((hb2.cell (by simp)).trans (by simp; rfl))); have hk : Below w.heap.size w w2 := Below.now (by repeat (first | exact Below.refl _ _ | refine Below.drew ?_ | refine Below.alloc ?_ (by simp; try omega) _)) hb2; clear hb2)
      all_goals
        go_wp2_with fail
        go_ret
        exact ⟨ret_str (by first | exact F.out | exact F2.out), by repeat (first | exact hk | refine Below.drew ?_ | refine Below.alloc ?_ (by have := hk.size; simp; try omega) _)⟩
theorem specFormatInt_any (n : Int) (w : World) (h0 : -9223372036854775808 ≤ n) (h1 : n ≤ 9223372036854775807) :
    Calls Tryz.prog 92 #[.int .i64 n] w fun e w' => e = .returned (.string ⟨(Lib.itoa n).toArray⟩) ∧ Below w.heap.size w w' := by
  by_cases h : 0 ≤ n
  · obtain ⟨k, rfl⟩ : ∃ k : Nat, n = (k : Int) := ⟨n.toNat, by omega⟩
    exact fmtIntNat_any k w (by omega)
  · obtain ⟨k, rfl⟩ : ∃ k : Nat, n = -(k : Int) := ⟨(-n).toNat, by omega⟩
    exact fmtIntNeg_any k k w (Nat.le_refl _) (by omega) (by omega)
end Go.Proofs.YtgoeadgpbidgiaaGreat
namespace Go.Proofs.YtgoeadgpbidgiaaGreat
open Go.RowKit Go.ChangeShapes Go.WideShapes Go.ChangeAt
set_option linter.unusedVariables false
end Go.Proofs.YtgoeadgpbidgiaaGreat
namespace Go.Proofs.YtgoeadgpbidgiaaGreat
open Go.RowKit
set_option linter.unusedVariables false
/-- the numeral of an integer -/
def numB (n : Int) : ByteArray := ⟨(Lib.itoa n).toArray⟩
theorem itoa_len {n : Int} (h0 : -9223372036854775808 ≤ n) (h1 : n ≤ 9223372036854775807) : (numB n).size ≤ 21 := by
  show (Lib.itoa n).toArray.size ≤ 21
  rw [List.size_toArray]
  unfold Lib.itoa
  split
  · have := decDigits_len (n := n.natAbs) (by omega); simp; omega
  · have := decDigits_len (n := n.toNat) (by omega); omega
end Go.Proofs.YtgoeadgpbidgiaaGreat
namespace Go.Proofs.YtgoeadgpbidgiaaGreat
open Go.RowKit
set_option linter.unusedVariables false
theorem CellsIn.grownC {w w' : World} {r : Option Nat} {a : Option Addr} {xs : List Value} (h : CellsIn w a xs) (hg : w.grownBy w' r) (hne : ∀ x, a = some x → some x.block ≠ r) : CellsIn w' a xs := by
  rcases h with h | ⟨b, off, ha, hc⟩
  · exact .inl h
  · refine .inr ⟨b, off, ha, fun i hi => ?_⟩
    have h1 := hc i hi
    rw [World.cell?_of_block (hg.block b (World.block_lt_of_cell? w _ h1) (hne _ ha))]
    exact h1
/-- a slice lies away from another one -/
def Away (w : World) (a : Option Addr) (v : Value) : Prop := ∀ x, a = some x → x.block < w.heap.size ∧ some x.block ≠ v.ownBlock
theorem Away.append {wr w' : World} {a : Option Addr} {v v' : Value} {y : Value} {T : TypeId} (h : Away wr a v) (hg : (wr.alloc (.cells #[y] T)).grownBy w' v.ownBlock) (ho : v'.ownBlock = v.ownBlock ∨ v'.ownBlock = some (wr.alloc (.cells #[y] T)).heap.size) : Away w' a v' := fun x hx => by
  obtain ⟨h1, h2⟩ := h x hx
  have hs := hg.size
  simp at hs
  refine ⟨by omega, ?_⟩
  rcases ho with h3 | h3
  · rw [h3]; exact h2
  · rw [h3]
    simp
    omega
def zVals (l : List Int) : List Value := l.map (Value.int .i64)
theorem zVals_app (l : List Int) (y : Int) : zVals (l ++ [y]) = zVals l ++ [.int .i64 y] := by simp [zVals]
theorem sys_sizes {k : Int} {R : List RulD} (h : sysP k R) : R.length ≤ 12 ∧ (∀ j, j < R.length → (nthR R j).1.size ≤ 8 ∧ (nthR R j).2.size ≤ 8) ∧ (1 ≤ k ∧ k ≤ 4) :=
  ⟨h.1.1.2, fun j hj => (h.1.2 _ (nthR_mem hj)).1.2, h.1.1.1⟩
end Go.Proofs.YtgoeadgpbidgiaaGreat
namespace Go.Proofs.YtgoeadgpbidgiaaGreat
open Go.RowKit Go.Maps Go.WideMaps
set_option linter.unusedVariables false
theorem wpList_insert_ownG {H : Type} {P : Program} (w : World) {ops : Array Oper} {rest : List Oper} {o : Oper} {a : Act} {Q : Exit → Act → World → Prop}
    (hg : o.guard = none) (m x v : Operand) (t : TypeId) (hop : o.op = Op.insert t m x v)
    (k e : TypeId) (K : Keyed P k) (ht : P.underlying t = some (.map k e)) (R : Value → Option (DataW H × List MemPlace)) (b n : Nat) (D : DataW H)
    (hm : a.eval m = .map (some b)) (hown : w.ownsMap P k R b n D) (hn : n < maxLen) (key val : Value) (kl : Lit) (hx : a.eval x = key) (hv : a.eval v = val) (hkey : keyOf P k key = some kl)
    (d : DataW H) (ps : List MemPlace) (hval : R val = some (d, ps))
    (hK : ∀ w', w'.ownsMap P k R b (n + 1) (D.put kl d) → w.grownBy w' (some b) → wpList P ops Q rest (a.put o.dst undef) w') :
    wpList P ops Q (o :: rest) a w := by
  refine wpList_plain hg fun K' hK' => ?_
  obtain ⟨w', hrun, r1, r2⟩ := hown.update K ht hn hkey hval
  unfold Oper.wp
  simp [execOp, hop, hm, hx, hv, hrun, Result.andThen]
  exact hK' _ _ (hK w' r1 r2)
theorem keySG : Keyed Tryz.prog 9 := string_keyed Tryz.underlying9
theorem keyOkG (s : ByteArray) (h : s.size ≤ maxLen) : keyOf Tryz.prog 9 (.string s) = some (keyL s) := keyOf_string_mk Tryz.underlying9 h
theorem zeroIntG (w : World) : (zeroValue 3).run Tryz.prog w = .ok (.int .i64 0) w := by kernel_rfl
abbrev OwnM (w : World) (b m : Nat) (D : DataW Unit) : Prop := w.ownsMap Tryz.prog 9 (plainElem (H := Unit) Tryz.prog 3) b m D
theorem belowGrown {w w' : World} (h : Below w.heap.size w w') : w.grownBy w' none := ⟨h.os, h.tape, h.output, h.size, fun k hk _ => h.block k hk⟩
theorem own_ne_map {w : World} {base : Nat} {T : TypeId} {size : Nat} {v : Value} {n : Nat} {xs : List Value} {b m : Nat} {D : DataW Unit} (h : w.ownsRow base T size v n xs) (hm : OwnM w b m D) : some b ≠ v.ownBlock := fun e => by
  obtain ⟨es, clock, hb, _⟩ := hm
  rcases h.2 with ⟨rfl, _⟩ | ⟨g, cap, cur, rfl, _, hg, _⟩
  · cases e
  · simp only [Value.ownBlock, Option.some.injEq] at e
    subst e
    rw [hb] at hg; cases hg
theorem own_ne_iter {w : World} {base : Nat} {T : TypeId} {size : Nat} {v : Value} {n : Nat} {xs : List Value} {b r m : Nat} {D : DataW Unit} {left : Lit → Bool} {cnt : Nat} (h : w.ownsRow base T size v n xs) (hm : w.ranges Tryz.prog 9 (plainElem (H := Unit) Tryz.prog 3) b r m D left cnt) : some r ≠ v.ownBlock := fun e => by
  obtain ⟨_, _, _, _, _, _, _, _, _, hit, _⟩ := hm
  rcases h.2 with ⟨rfl, _⟩ | ⟨g, cap, cur, rfl, _, hg, _⟩
  · cases e
  · simp only [Value.ownBlock, Option.some.injEq] at e
    subst e
    rw [hit] at hg; cases hg
theorem bldMap {T : TypeId} {w wr wr' : World} {v : Value} {n : Nat} {xs : List Value} {b : Nat} (h : Bld T 1 w wr v n xs) (hg : wr.grownBy wr' (some b)) (hne : some b ≠ v.ownBlock) (hb : w.heap.size ≤ b) : Bld T 1 w wr' v n xs :=
  keptB h hg (fun k hk e => hne (by rw [hk]; exact e)) (fun k hk => by cases hk; exact hb)
theorem invKG (key : Value) (kl : Lit) (h : keyOf Tryz.prog 9 key = some kl) : ∃ x, key = Value.string x := by
  obtain ⟨s, h1, _⟩ := string_of_keyOf Tryz.underlying9 h
  exact ⟨s, h1⟩
theorem invVG (v : Value) (y : DataW Unit × List MemPlace) (h : plainElem (H := Unit) Tryz.prog 3 v = some y) : ∃ c, v = Value.int .i64 c := by
  obtain ⟨c, h1, _⟩ := plainElem_int_inv Tryz.underlying3 h
  exact ⟨c, h1⟩
theorem wf64 {c : Nat} (h : c ≤ 34359738368) : (Lit.int .i64 (c : Int)).wf = true := by
  have h1 : IntKind.i64.min = -9223372036854775808 := by decide
  have h2 : IntKind.i64.max = 9223372036854775807 := by decide
  simp only [Lit.wf, h1, h2, Bool.and_eq_true, decide_eq_true_eq]; omega
set_option maxRecDepth 100000 in
set_option maxHeartbeats 4000000 in
theorem growth_any (kn nn : Nat) (R : List RulD) (a : Option Addr) (cap : Nat) (w : World) (hl : RulesIn w a R) (hlen : R.length ≤ 2 ^ 40) (hsp : sysP (kn : Int) R) (hnn : nn ≤ 16) :
    Calls Tryz.prog 23 #[.agg #[.int .i64 (kn : Nat), .slice a R.length cap], .int .i64 (nn : Nat)] w (RetSl 3 1 (growL R kn nn).length (zVals (growL R kn nn)) w) := by
  obtain ⟨h12, hsz, hk1, hk4⟩ := sys_sizes hsp
  have hkn : kn ≤ 4 := by omega
  have hz : SzR R := fun j hj => by have := hsz j hj; unfold maxLen; omega
  have HL := Lib.hid hl
  have HN := Lib.hid (fun W h => newReader_any (kn : Nat) R a cap W h hlen hz)
  have hk7 : keepR R ≤ 8 := by
    have key : ∀ j, j ≤ R.length → lsTo R j ≤ 8 := fun j => by
      induction j with
      | zero => intro _; exact Nat.zero_le _
      | succ j ih =>
        intro h
        have h1 := ih (by omega)
        have h2 := (hsz j (by omega)).1
        show max _ _ ≤ _
        omega
    have h1 := key R.length (Nat.le_refl _)
    unfold keepR lsL
    omega
  have HK7 := Lib.hid hk7
  have hmm := @run_makeMap Tryz.prog
  have hb0 := alloc_belowS w (.cells #[.int .i64 (kn : Nat), .slice a R.length cap] 25)
  have hbx := alloc_at w (.cells #[.int .i64 (kn : Nat), .slice a R.length cap] 25)
  have hk0 := keyOkG ⟨#[]⟩ (by decide)
  clear hl hz hk7 hsp hsz
  go_enter Tryz.func23, Tryz.ntmps23
  go_wp2_with fail
  refine (HN.out _ (HL.out.later hb0)).mono ?_
  rintro e w5 ⟨p, rfl, hrd, hp, hb5⟩
  have HB5 := Lib.hid (Below.now hb0 hb5)
  have hs5 : w.heap.size < w5.heap.size := by have := hb5.size; simp at this; omega
  have HBX : Hid (∀ W2, Below w5.heap.size w5 W2 → W2.cell? ⟨w.heap.size, 0, none⟩ = some (.int .i64 (kn : Nat))) := Lib.hid (fun W2 hW2 => (sys_cells ((hW2.block w.heap.size hs5).trans ((hb5.block w.heap.size (by simp)).trans hbx))).1)
  have HRD := Lib.hid hrd
  clear hrd hp hb5 hb0 hbx HN
  go_wp2_with (first
    | (refine wpList_insert_ownG _ rfl _ _ _ 95 rfl 9 3 keySG Tryz.underlying95 (plainElem (H := Unit) Tryz.prog 3) w5.heap.size 0 (.map []) rfl (World.ownsMap_made _ _ _ _) (by decide) _ _ _ rfl rfl hk0 _ [] (plainElem_int Tryz.underlying3 (by decide)) ?_; intro w6 hown6 hgrow6)
    | go_in)
  have HB6 : Hid (Below w5.heap.size w5 w6) := Lib.hid ((alloc_belowS w5 (.map #[] 0)).grown hgrow6 (by simp) (fun j hj => by cases hj; exact Nat.le_refl _))
  have HO6 : Hid (OwnM w6 w5.heap.size 1 (DataW.put (.map []) (keyL ⟨#[]⟩) (.lit (.int .i64 1)))) := Lib.hid hown6
  have HR6 : Hid (RepM (DataW.put (.map []) (keyL ⟨#[]⟩) (.lit (.int .i64 1))) [(⟨#[]⟩, 1)]) := Lib.hid (RepM.nil.new 1 (fun p hp => (by cases hp)))
  have h65 := HB6.out.size
  have hl6 := hown6.lt
  have HL6 : Hid (Bld 3 1 w5 (w6.alloc (.cells #[.int .i64 1] 3)) (.slice (some ⟨w6.heap.size, 0, none⟩) 1 1) 1 (zVals (growL R kn 0))) := Lib.hid
    ⟨World.ownsRow_lit w6 (base := w5.heap.size) #[.int .i64 1] 1 h65 (by unfold maxLen; omega) (by simp), HB6.out.alloc h65 _⟩
  have HO6a : Hid (OwnM (w6.alloc (.cells #[.int .i64 1] 3)) w5.heap.size 1 (DataW.put (.map []) (keyL ⟨#[]⟩) (.lit (.int .i64 1)))) := Lib.hid (HO6.out.alloc _)
  have HWS := Lib.hid (WayAt.start R kn)
  clear hown6 hgrow6 hk0 hl6
  go_wp2_with fail
  go_loopw [6, 7, 21] (fun vm vo vi wr => ∃ (i : Nat) (W : WayD) (b m : Nat) (D : DataW Unit), i ≤ nn ∧ vi = .int .i64 (i : Nat) ∧ vm = .map (some b) ∧ WayAt R kn i W ∧ RepM D W ∧ OwnM wr b m D ∧ w5.heap.size ≤ b ∧ Bld 3 1 w5 wr vo (i + 1) (zVals (growL R kn i))) (fun _ _ vi _ => nn - (intOf vi).toNat)
  case atStart => exact ⟨0, _, _, _, _, Nat.zero_le _, rfl, rfl, HWS.out, HR6.out, HO6a.out, Nat.le_refl _, HL6.out⟩
  case round =>
    clear HB6 HO6 HR6 HL6 HO6a HWS h65
    obtain ⟨i, W, b, m, D, hi, rfl, rfl, hwa, hrep, hom, hb5b, hbd⟩ := hrel
    obtain ⟨go, co, rfl⟩ := owns_slot hbd.1 (by omega)
    have HWA := Lib.hid hwa
    have HREP := Lib.hid hrep
    have HOM := Lib.hid hom
    have HB := Lib.hid hbd
    clear hwa hrep hom hbd
    by_cases hlt : i < nn
    · have HOMa := Lib.hid (World.ownsMap.alloc HOM.out (.map #[] 0))
      have HO2 : Hid (OwnM (wr.alloc (.map #[] 0)) wr.heap.size 0 (.map [])) := Lib.hid (World.ownsMap_made _ _ _ _)
      have HBa := Lib.hid (HB.out.later (alloc_belowS wr (.map #[] 0)))
      have hbwr := HOM.out.lt
      have hw5r := HB.out.2.size
      have HRS : Hid (doneW (Maps.has D) W = []) := Lib.hid (doneW_start HREP.out)
      go_wp2_with (first
        | (at_range; refine wpList_range_own _ rfl _ 95 rfl 9 3 keySG Tryz.underlying95 _ b m _ rfl HOMa.out ?_; intro w8 hrg8 hg8 hs8)
        | go_in)
      have hs8' : w8.heap.size = wr.heap.size + 1 + 1 := by rw [hs8]; simp
      have hrr : (wr.alloc (.map #[] 0)).heap.size = wr.heap.size + 1 := by simp
      rw [hrr] at hrg8 ⊢
      have HRG8 := Lib.hid hrg8
      have HO8 : Hid (OwnM w8 wr.heap.size 0 (.map [])) := Lib.hid (HO2.out.kept hg8 (by simp))
      have HB8 : Hid (Bld 3 1 w5 w8 (.slice (some ⟨go, 0, none⟩) (i + 1) co) (i + 1) (zVals (growL R kn i))) := Lib.hid (keptB HBa.out hg8 (fun k hk e => (by cases e)) (fun k hk => (by cases hk)))
      clear hrg8 hg8 hs8 HO2 HOMa HBa HOM HB
      go_frame
      generalize hb2 : wr.heap.size = b2 at *
      have hbb2 : b < b2 := hbwr
      clear hb2 hbwr hs8' hrr
      generalize hW : wr = wr0 at *
      clear hW
      go_loopw [9] (fun vs wr2 => ∃ (left : Lit → Bool) (cnt m2 : Nat) (V : WayD) (D2 : DataW Unit), vs = .int .i64 ((wsum R kn 0 V : Nat) : Int) ∧ wr2.ranges Tryz.prog 9 (plainElem (H := Unit) Tryz.prog 3) b (b2 + 1) m D left cnt ∧ OwnM wr2 b2 m2 D2 ∧ m2 ≤ wsum R kn 0 V ∧ RepM D2 V ∧ WayG R kn (doneW left W) 0 ⟨#[]⟩ 0 V ∧ Bld 3 1 w5 wr2 (.slice (some ⟨go, 0, none⟩) (i + 1) co) (i + 1) (zVals (growL R kn i)))
        (fun _ wr2 => wr2.rangeLeft b (b2 + 1))
      case atStart => exact ⟨_, _, 0, [], .map [], rfl, HRG8.out, HO8.out, Nat.zero_le _, RepM.nil, by rw [HRS.out]; exact WayG.start _ _ _ _, HB8.out⟩
      case round =>
        clear HRG8 HO8 HB8 HRS
        obtain ⟨left, cnt, m2, V, D2, rfl, hrg, hom2, hm2, hrep2, hwg, hbd⟩ := hrel
        have HRG := Lib.hid hrg
        have HO2 := Lib.hid hom2
        have HP2 := Lib.hid hrep2
        have HWG := Lib.hid hwg
        have HB := Lib.hid hbd
        have hsum : wsum R kn 0 V ≤ 17179869184 := by
          have h1 := hwg.le0 hkn HWA.out
          have h2 := pow16 (show i + 1 ≤ 17 by omega)
          omega
        clear hrg hom2 hrep2 hwg hbd
        go_wp2_with (first
          | (at_next; refine wpList_next_ranges _ rfl _ rfl 9 keySG (plainElem (H := Unit) Tryz.prog 3) Value.string (Value.int .i64) invKG invVG b (b2 + 1) m _ _ _ rfl HRG.out ?_ ?_)
          | go_in)
        · intro _ hl0
          have HWN := Lib.hid (HWG.out.done HWA.out hl0)
          have HSU : Hid (((wsum R kn 0 V : Nat) : Int) = ((paths R kn (i + 1) ⟨#[]⟩ : Nat) : Int)) := Lib.hid (by rw [HWN.out.eq 0, Nat.add_zero])
          clear hl0
          generalize wsum R kn 0 V = su at *
          have HOA : Hid (Bld 3 1 w5 (wr.alloc (.cells #[.int .i64 (su : Int)] 3)) (.slice (some ⟨go, 0, none⟩) (i + 1) co) (i + 1) (zVals (growL R kn i))) := Lib.hid (HB.out.later (alloc_belowS _ _))
          have HO2a := Lib.hid (World.ownsMap.alloc HO2.out (.cells #[.int .i64 (su : Int)] 3))
          have HN1 : Hid ([Value.int .i64 (su : Int)].length = 1 * 1) := Lib.hid rfl
          have HN2 : Hid (∀ u ∈ [Value.int .i64 (su : Int)], u.oneCell' = true) := Lib.hid (fun u hu => by rw [List.mem_singleton.1 hu]; rfl)
          go_wp2_with (at_builtin; refine wpList_appM rfl (.tmp 54) (.tmp 56) rfl Tryz.underlying29 Tryz.infoInt rfl (by decide) rfl HOA.out rfl (Src.lit _) HN1.out HN2.out ?a1 ?a2 ?a3)
          case a1 => unfold maxLen; omega
          case a2 => omega
          intro v4 w4 hb4 hg4 ho4
          have HB4 : Hid (Bld 3 1 w5 w4 v4 (i + 1 + 1) (zVals (growL R kn (i + 1)))) := Lib.hid (by
            rw [growL_succ, zVals_app, ← HSU.out]; exact hb4)
          have HO4 : Hid (OwnM w4 b2 m2 D2) := Lib.hid (HO2a.out.kept hg4 (own_ne_map HOA.out.1 HO2a.out))
          clear hb4 hg4 ho4
          go_wp2_with fail
          go_roundw
          case rel => exact ⟨i + 1, V, b2, m2, D2, by omega, by go_num, rfl, HWN.out, HP2.out, HO4.out, by omega, HB4.out⟩
          case measure => simp [intOf]; omega
        · intro x c kl yd yp w9 cnt9 hkey hlk hv hat hrg9 hlt9 hg9 hs9 hen
          obtain ⟨s', hs', hkl, _⟩ := string_of_keyOf Tryz.underlying9 hkey
          cases hs'
          obtain ⟨c', hc', hy, _⟩ := plainElem_int_inv Tryz.underlying3 hv
          cases hc'
          cases hy
          subst hkl
          obtain ⟨j, hj, hje, hjc⟩ : ∃ j, ∃ hj : j < W.length, W[j].1 = x ∧ (W[j].2 : Int) = c := by
            rcases HREP.out.look x with ⟨j, hj, h1, h2⟩ | ⟨h1, h2⟩
            · have h3 := (h2 (.lit (.bool true))).symm.trans (hat (.lit (.bool true)))
              simp only [DataW.lit.injEq, Lit.int.injEq, true_and] at h3
              exact ⟨j, hj, h1, h3⟩
            · have h3 := (h2 (.lit (.bool true))).symm.trans (hat (.lit (.bool true)))
              simp at h3
          subst hje hjc
          have HAP := HREP.out.1
          have hesz : W[j].1.size ≤ 8 := by
            have h1 := HWA.out.short _ (List.getElem_mem hj)
            have h2 := HK7.out
            omega
          have HCP : Hid (1 ≤ W[j].2) := Lib.hid (HWA.out.pos _ (List.getElem_mem hj))
          have hcb : W[j].2 ≤ 17179869184 := by
            have h2 := wsum_take_le R kn 0 W (j + 1)
            rw [wsum_take _ _ _ _ hj, paths0] at h2
            have h4 := HWA.out.eq 0
            have h5 := paths_le (R := R) hkn (i + 0) ⟨#[]⟩
            have h6 := pow16 (show i + 0 ≤ 17 by omega)
            omega
          have HROW : Hid (∀ V, WayG R kn (doneW left W) kn W[j].1 W[j].2 V → WayG R kn (doneW (fun z => left z && !z.sameKey (keyL W[j].1)) W) 0 ⟨#[]⟩ 0 V) := Lib.hid (fun V h => h.row HAP hj hlk _ _)
          have HLE : Hid (∀ V x, x ≤ kn → WayG R kn (doneW left W) x W[j].1 W[j].2 V → wsum R kn 0 V ≤ 17179869184) := Lib.hid (fun V x hx h => by
            have h1 := WayG.le hkn HAP HWA.out hj hlk hx h
            have h2 := pow16 (show i + 1 ≤ 17 by omega)
            omega)
          have HWJ : Hid (WayG R kn (doneW left W) 0 W[j].1 W[j].2 V) := Lib.hid HWG.out.other
          have HRG9 : Hid (w9.ranges Tryz.prog 9 (plainElem (H := Unit) Tryz.prog 3) b (b2 + 1) m D (fun z => left z && !z.sameKey (keyL W[j].1)) cnt9) := Lib.hid hrg9
          have HO9 : Hid (OwnM w9 b2 m2 D2) := Lib.hid (HO2.out.kept hg9 (by simp))
          have HB9 : Hid (Bld 3 1 w5 w9 (.slice (some ⟨go, 0, none⟩) (i + 1) co) (i + 1) (zVals (growL R kn i))) := Lib.hid (bldMap HB.out hg9 (own_ne_iter HB.out.1 HRG.out) (by omega))
          have HLO := Lib.hid HRG.out.left_eq
          have hkb := HBX.out w9 HB9.out.2
          clear hrg9 hat hlk hkey hv hg9 hs9 HAP HO2 HB HWG HRG
          generalize (fun z => left z && !z.sameKey (keyL W[j].1)) = lf at *
          generalize W[j].1 = e at *
          generalize W[j].2 = cn at *
          go_wp2_with fail
          generalize hW : wr = wr1 at *
          have HWR := Lib.hid hW
          clear hW
          go_loopw [9, 33] (fun vs vx wr => ∃ (x m2 : Nat) (V : WayD) (D2 : DataW Unit), x ≤ kn ∧ vx = .int .i64 (x : Nat) ∧ vs = .int .i64 ((wsum R kn 0 V : Nat) : Int) ∧ wr.ranges Tryz.prog 9 (plainElem (H := Unit) Tryz.prog 3) b (b2 + 1) m D lf cnt9 ∧ OwnM wr b2 m2 D2 ∧ m2 ≤ wsum R kn 0 V ∧ RepM D2 V ∧ WayG R kn (doneW left W) x e cn V ∧ Bld 3 1 w5 wr (.slice (some ⟨go, 0, none⟩) (i + 1) co) (i + 1) (zVals (growL R kn i))) (fun _ vx _ => kn - (intOf vx).toNat)
          case atStart => exact ⟨0, m2, V, D2, Nat.zero_le _, rfl, rfl, HRG9.out, HO9.out, hm2, HP2.out, HWJ.out, HB9.out⟩
          case round =>
            clear HRG9 HO9 HWJ HB9 HP2 hm2 hsum hkb hen
            obtain ⟨x, m2, V, D2, hx, rfl, rfl, hrg, hom2, hm2, hrep2, hwg, hbd⟩ := hrel
            have HRG := Lib.hid hrg
            have HO2 := Lib.hid hom2
            have HP2 := Lib.hid hrep2
            have HWG := Lib.hid hwg
            have HB := Lib.hid hbd
            have hsum : wsum R kn 0 V ≤ 17179869184 := HLE.out V x hx hwg
            clear hrg hom2 hrep2 hwg hbd
            by_cases hlx : x < kn
            · have HNX := Lib.hid (fun W2 h1 h2 => readerNext_any (kn : Nat) R p e x a cap W2 h1 hlen h2 (by omega) (by omega) (by have := HK7.out; omega))
              go_wp2_with fail
              refine (HNX.out _ (HL.out.later (Below.now HB5.out HB.out.2)) (HRD.out.later HB.out.2)).mono ?_
              rintro e9 w10 (⟨hok, rfl, hb10⟩ | ⟨hok, rfl, hb10⟩)
              · have HOK := Lib.hid hok
                have hg10 := belowGrown hb10
                have HRG1 := Lib.hid (HRG.out.kept hg10 (by simp) (by simp))
                have HO1 : Hid (OwnM w10 b2 m2 D2) := Lib.hid (HO2.out.kept hg10 (by simp))
                have HB1 := Lib.hid (HB.out.later hb10)
                have hns : (nxtX R e x).size ≤ 8 := by have h1 := cutR_size R (e ++ letterN x); have h2 := HK7.out; have h3 : (nxtX R e x).size ≤ keepR R := h1; omega
                have hkn2 := keyOkG (nxtX R e x) (by unfold maxLen; omega)
                clear hok hb10 hg10 HNX HRG HO2 HB
                have HWO := Lib.hid (fun a ha h => WayG.old (a := a) HWG.out HOK.out ha h)
                have HWN := Lib.hid (WayG.new HWG.out HOK.out HCP.out)
                have HLK := Lib.hid (HP2.out.look (nxtX R e x))
                generalize nxtX R e x = nx at *
                go_wp2_with (first
                  | (at_lookup; refine wpList_lookup_own_int _ rfl _ _ 95 rfl 9 3 .i64 keySG Tryz.underlying95 Tryz.underlying3 (zeroIntG _) b2 m2 D2 rfl HO1.out _ _ rfl hkn2 ?k4)
                  | go_in)
                intro c0 hat0 hwc0
                rcases HLK.out with ⟨aa, haa, he1, hat1⟩ | ⟨hno, hat1⟩
                · have hc0 : c0 = (V[aa].2 : Int) := by
                    have h := (hat1 (.lit (.int .i64 0))).symm.trans hat0
                    simp only [DataW.lit.injEq, Lit.int.injEq, true_and] at h
                    exact h.symm
                  have hva : V[aa].2 ≤ 17179869184 := by
                    have h2 := wsum_take_le R kn 0 V (aa + 1)
                    rw [wsum_take _ _ _ _ haa, paths0] at h2
                    omega
                  have HV3 := Lib.hid (HWO.out aa haa he1)
                  have HP3 : Hid (RepM (D2.put (keyL nx) (.lit (.int .i64 ((V[aa].2 + cn : Nat) : Int)))) (addW V aa cn)) := Lib.hid (by rw [← he1]; exact HP2.out.old haa cn)
                  have HS3 : Hid (wsum R kn 0 (addW V aa cn) = wsum R kn 0 V + cn) := Lib.hid (by rw [wsum_add haa, paths0, Nat.mul_one])
                  subst hc0
                  clear hat0 hat1 he1 HWO HWN HLK hwc0
                  generalize addW V aa cn = V3 at *
                  generalize V[aa].2 = va at *
                  have hcc : (va : Int) + (cn : Int) = ((va + cn : Nat) : Int) := by omega
                  have HWF := Lib.hid (plainElem_int (H := Unit) Tryz.underlying3 (wf64 (show va + cn ≤ 34359738368 by omega)))
                  rw [← hcc] at HWF HP3
                  clear hcc
                  have hmx : m2 < maxLen := by unfold maxLen; omega
                  go_wp2_with (first
                    | (at_mapUpdate; (refine wpList_mapUpdate_own _ rfl _ _ _ 95 rfl 9 3 keySG Tryz.underlying95 (plainElem (H := Unit) Tryz.prog 3) b2 m2 D2 rfl HO1.out hmx _ _ _ rfl rfl hkn2 _ [] HWF.out ?_); intro w11 hown11 hgr11)
                    | go_in)
                  have HB11 : Hid (Bld 3 1 w5 w11 (.slice (some ⟨go, 0, none⟩) (i + 1) co) (i + 1) (zVals (growL R kn i))) := Lib.hid (bldMap HB1.out hgr11 (own_ne_map HB1.out.1 HO1.out) (by omega))
                  have HRG11 := Lib.hid (HRG1.out.kept hgr11 (by simp; omega) (by simp))
                  have HO11 := Lib.hid hown11
                  have hcp := HCP.out
                  clear hown11 hgr11 hmx hkn2
                  go_wp2_with fail
                  go_roundw
                  case rel => exact ⟨x + 1, m2 + 1, V3, _, by omega, by go_num, by rw [HS3.out]; go_num, HRG11.out, HO11.out, by rw [HS3.out]; omega, HP3.out, HV3.out, HB11.out⟩
                  case measure => simp [intOf]; omega
                · have hc0 : c0 = 0 := by
                    have h := (hat1 (.lit (.int .i64 0))).symm.trans hat0
                    simp only [DataW.lit.injEq, Lit.int.injEq, true_and] at h
                    exact h.symm
                  have HP3 := Lib.hid (HP2.out.new cn hno)
                  have HS3 : Hid (wsum R kn 0 (V ++ [(nx, cn)]) = wsum R kn 0 V + cn) := Lib.hid (by rw [wsum_app, wsum_one, paths0, Nat.mul_one])
                  subst hc0
                  clear hat0 hat1 hno HWO HLK hwc0
                  generalize V ++ [(nx, cn)] = V3 at *
                  have HWF := Lib.hid (plainElem_int (H := Unit) Tryz.underlying3 (wf64 (show cn ≤ 34359738368 by omega)))
                  have hmx : m2 < maxLen := by unfold maxLen; omega
                  go_wp2_with (first
                    | (at_mapUpdate; (refine wpList_mapUpdate_own _ rfl _ _ _ 95 rfl 9 3 keySG Tryz.underlying95 (plainElem (H := Unit) Tryz.prog 3) b2 m2 D2 rfl HO1.out hmx _ _ _ rfl rfl hkn2 _ [] HWF.out ?_); intro w11 hown11 hgr11)
                    | go_in)
                  have HB11 : Hid (Bld 3 1 w5 w11 (.slice (some ⟨go, 0, none⟩) (i + 1) co) (i + 1) (zVals (growL R kn i))) := Lib.hid (bldMap HB1.out hgr11 (own_ne_map HB1.out.1 HO1.out) (by omega))
                  have HRG11 := Lib.hid (HRG1.out.kept hgr11 (by simp; omega) (by simp))
                  have HO11 := Lib.hid hown11
                  have hcp := HCP.out
                  clear hown11 hgr11 hmx hkn2
                  go_wp2_with fail
                  go_roundw
                  case rel => exact ⟨x + 1, m2 + 1, V3, _, by omega, by go_num, by rw [HS3.out]; go_num, HRG11.out, HO11.out, by rw [HS3.out]; omega, HP3.out, HWN.out, HB11.out⟩
                  case measure => simp [intOf]; omega
              · have F := Lib.hid (HWG.out.no hok)
                have hg10 := belowGrown hb10
                have HRG1 := Lib.hid (HRG.out.kept hg10 (by simp) (by simp))
                have HO1 : Hid (OwnM w10 b2 m2 D2) := Lib.hid (HO2.out.kept hg10 (by simp))
                have HB1 := Lib.hid (HB.out.later hb10)
                clear hok hb10 hg10 HNX
                go_wp2_with fail
                go_roundw
                case rel => exact ⟨x + 1, m2, V, D2, by omega, by go_num, rfl, HRG1.out, HO1.out, hm2, HP2.out, F.out, HB1.out⟩
                case measure => simp [intOf]; omega
            · obtain rfl : x = kn := by omega
              have F := Lib.hid (HROW.out V HWG.out)
              go_wp2_with fail
              go_roundw
              case rel => exact ⟨lf, cnt9, m2, V, D2, rfl, HRG.out, HO2.out, hm2, HP2.out, F.out, HB.out⟩
              case measure => rw [HRG.out.left_eq, HWR.out, HLO.out]; exact hlt9
    · obtain rfl : i = nn := by omega
      have F : Hid (RetSl 3 1 (growL R kn i).length (zVals (growL R kn i)) w (.returned (.slice (some ⟨go, 0, none⟩) (i + 1) co)) wr) := Lib.hid (by
        have h := (HB.out.since HB5.out).ret
        rw [growL_len]; exact h)
      go_wp2_with fail
      go_ret
      exact F.out
end Go.Proofs.YtgoeadgpbidgiaaGreat
namespace Go.Proofs.YtgoeadgpbidgiaaGreat
open Go.RowKit Go.Maps Go.WideMaps
set_option linter.unusedVariables false
end Go.Proofs.YtgoeadgpbidgiaaGreat
namespace Go.Proofs.YtgoeadgpbidgiaaGreat
open Go.RowKit Go.Maps Go.WideMaps
set_option linter.unusedVariables false
end Go.Proofs.YtgoeadgpbidgiaaGreat
namespace Go.Proofs.YtgoeadgpbidgiaaGreat
open Go.RowKit Go.Maps Go.WideMaps
set_option linter.unusedVariables false
end Go.Proofs.YtgoeadgpbidgiaaGreat
namespace Go.Proofs.YtgoeadgpbidgiaaGreat
open Go.RowKit
set_option linter.unusedVariables false
/-- what LongestReduced is -/
def LngIs (k : Int) (R : List RulD) (h : Int) : Prop := (¬ sysP k R ∧ h = -1) ∨ (sysP k R ∧ HtIs R k.toNat ⟨#[]⟩ h)
theorem LngIs.uniq {k : Int} {R : List RulD} {h h' : Int} (a : LngIs k R h) (b : LngIs k R h') : h = h' := by
  rcases a with ⟨a1, a2⟩ | ⟨a1, a2⟩ <;> rcases b with ⟨b1, b2⟩ | ⟨b1, b2⟩
  · rw [a2, b2]
  · exact absurd b1 a1
  · exact absurd a1 b1
  · exact a2.uniq b2
/-- the words of less than j letters -/
def pSum (R : List RulD) (k j : Nat) : Nat := ((List.range j).map fun m => paths R k m ⟨#[]⟩).sum
theorem pSum_succ (R : List RulD) (k j : Nat) : pSum R k (j + 1) = pSum R k j + paths R k j ⟨#[]⟩ := by
  unfold pSum; rw [List.range_succ, List.map_append, List.sum_append]; simp
theorem pSum_mono (R : List RulD) (k : Nat) {i j : Nat} (h : i ≤ j) : pSum R k i ≤ pSum R k j := by
  induction h with
  | refl => exact Nat.le_refl _
  | step _ ih => rw [pSum_succ]; omega
theorem pSum_at (R : List RulD) (k : Nat) {i j : Nat} (h : i < j) : paths R k i ⟨#[]⟩ ≤ pSum R k j := by
  have h1 := pSum_mono R k (show i + 1 ≤ j from h)
  rw [pSum_succ] at h1; omega
/-- what CountAll is -/
def CntIs (k : Int) (R : List RulD) (c : Int) : Prop := ∃ h, LngIs k R h ∧ ((h < 0 ∧ c = -1) ∨ (0 ≤ h ∧ c = ((pSum R k.toNat (h.toNat + 1) : Nat) : Int)))
theorem CntIs.uniq {k : Int} {R : List RulD} {c c' : Int} (a : CntIs k R c) (b : CntIs k R c') : c = c' := by
  obtain ⟨h, a1, a2⟩ := a
  obtain ⟨h', b1, b2⟩ := b
  obtain rfl := a1.uniq b1
  rcases a2 with ⟨a2, a3⟩ | ⟨a2, a3⟩ <;> rcases b2 with ⟨b2, b3⟩ | ⟨b2, b3⟩
  · rw [a3, b3]
  · omega
  · omega
  · rw [a3, b3]
end Go.Proofs.YtgoeadgpbidgiaaGreat
