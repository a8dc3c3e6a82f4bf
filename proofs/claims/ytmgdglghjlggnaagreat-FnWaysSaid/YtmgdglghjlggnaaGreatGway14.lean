/-
  PairsOf of the reference.
-/
import Derived.Test.YtmgdglghjlggnaaGreatGway03
import Derived.Test.YtmgdglghjlggnaaGreatGway01
import Derived.Lib.Itoa
import Derived.Lib.ItoaNum
import Derived.Laws.BytesArg
import Derived.Deep.RegionWith
import Derived.Test.YtmgdglghjlggnaaGreatGway04
import Derived.Test.YtmgdglghjlggnaaGreatGway13
import Derived.Test.YtmgdglghjlggnaaGreatGway12
import Derived.Deep.RegionHeld3
import Derived.Deep.DeepCutAuto
namespace Go.Proofs.YtmgdglghjlggnaaGreat
open Go.RowKit
set_option linter.unusedVariables false
/-- a text of one byte -/
def oneB (x : Int) : ByteArray := ⟨#[UInt8.ofNat x.toNat]⟩
theorem conv_one (w : World) (x : Int) :
    (convert 22 9 (.slice (some ⟨w.heap.size, 0, none⟩) 1 1)).run Tryz.prog (w.alloc (.cells #[.int .u8 x] 5)) = .ok (.string (oneB x)) (w.alloc (.cells #[.int .u8 x] 5)) :=
  run_convert_bytes_arg (P := Tryz.prog) (w.alloc (.cells #[.int .u8 x] 5)) 22 5 Tryz.underlying22 Tryz.underlying5 w.heap.size 0 1 1 [x] rfl (fun i hi => by
    obtain rfl : i = 0 := by omega
    simp) 9 Tryz.underlying9
theorem conv_at (w : World) (g : Nat) (x : Int) (h : w.cell? ⟨g, 0, none⟩ = some (.int .u8 x)) :
    (convert 22 9 (.slice (some ⟨g, 0, none⟩) 1 1)).run Tryz.prog w = .ok (.string (oneB x)) w :=
  run_convert_bytes_arg (P := Tryz.prog) w 22 5 Tryz.underlying22 Tryz.underlying5 g 0 1 1 [x] rfl (fun i hi => by
    obtain rfl : i = 0 := by omega
    exact h) 9 Tryz.underlying9
theorem conv_drew (w : World) (x : Int) :
    (convert 22 9 (.slice (some ⟨w.heap.size, 0, none⟩) 1 1)).run Tryz.prog (w.alloc (.cells #[.int .u8 x] 5)).drew = .ok (.string (oneB x)) (w.alloc (.cells #[.int .u8 x] 5)).drew := conv_at _ _ _ (by simp)
theorem last_digit (m : Nat) : oneB (IntKind.u8.wrap (IntKind.i64.wrap (48 + (m : Int).tmod 10))) = ⟨#[UInt8.ofNat (48 + m % 10)]⟩ := by
  have h1 : (m : Int).tmod 10 = ((m % 10 : Nat) : Int) := by rw [Int.tmod_eq_emod_of_nonneg (by omega)]; simp
  have h2 : IntKind.i64.wrap (48 + ((m % 10 : Nat) : Int)) = ((48 + m % 10 : Nat) : Int) := by
    simp [IntKind.wrap, IntKind.signed, IntKind.bits]; omega
  have h3 : IntKind.u8.wrap ((48 + m % 10 : Nat) : Int) = ((48 + m % 10 : Nat) : Int) := by
    simp [IntKind.wrap, IntKind.signed, IntKind.bits]; omega
  rw [h1, h2, h3]; rfl
theorem wrap_id {x : Int} (h0 : -9223372036854775808 ≤ x) (h1 : x ≤ 9223372036854775807) : IntKind.i64.wrap x = x := by
  simp [IntKind.wrap, IntKind.signed, IntKind.bits]; omega
theorem oneB_size (x : Int) : (oneB x).size = 1 := rfl
theorem oneB_app (x : Int) (t : List UInt8) : oneB x ++ ⟨t.toArray⟩ = ⟨(UInt8.ofNat x.toNat :: t).toArray⟩ := by ext1; simp [oneB]
theorem nDigits_le : ∀ (k n : Nat), n < 10 ^ (k + 1) → Lib.nDigits n ≤ k + 1
  | 0, n, h => by rw [Lib.nDigits_small (by omega)]; omega
  | k + 1, n, h => by
    by_cases h1 : n < 10
    · rw [Lib.nDigits_small h1]; omega
    · rw [Lib.nDigits_big h1]
      have := nDigits_le k (n / 10) (by rw [Nat.pow_succ] at h; omega)
      omega
theorem decDigits_len {n : Nat} (h : n ≤ 9223372036854775808) : (Lib.decDigits n).length ≤ 20 := by
  rw [Lib.decDigits_length]; exact nDigits_le 19 n (by omega)
theorem decDigits_big {k : Nat} (h : 9 < k) : Lib.decDigits k = Lib.decDigits (k / 10) ++ [UInt8.ofNat (48 + k % 10)] := by
  rw [Lib.decDigits, dif_neg (by omega)]
theorem decDigits_small {u : Nat} (h : u < 10) : Lib.decDigits u = [UInt8.ofNat (48 + u)] := Lib.decDigits_one h
theorem itoa_nat (n : Nat) : Lib.itoa (n : Int) = Lib.decDigits n := by unfold Lib.itoa; rw [if_neg (by omega)]; rfl
theorem itoa_neg {n : Nat} (h : 1 ≤ n) : Lib.itoa (-(n : Int)) = 45 :: Lib.decDigits n := by unfold Lib.itoa; rw [if_pos (by omega)]; simp
set_option maxRecDepth 20000 in
set_option maxHeartbeats 800000 in
theorem fmtIntNat_any (n : Nat) (w : World) (hn : n ≤ 9223372036854775807) :
    Calls Tryz.prog 92 #[.int .i64 n] w fun e w' => e = .returned (.string ⟨(Lib.itoa n).toArray⟩) ∧ Below w.heap.size w w' := by
  have kc := conv_one
  go_enter Tryz.func92, Tryz.ntmps92
  go_wp2_with fail
  go_loopw [0, 3] (fun v s wr => ∃ (k : Nat) (t : List UInt8), v = .int .i64 k ∧ s = .string ⟨t.toArray⟩ ∧ k ≤ n ∧ Lib.decDigits n = Lib.decDigits k ++ t ∧ t.length ≤ 20 ∧ Below w.heap.size w wr) (fun v _ _ => (intOf v).toNat)
  case atStart => exact ⟨n, [], rfl, rfl, Nat.le_refl _, by simp, by simp, Below.refl _ _⟩
  case round =>
    obtain ⟨k, t, rfl, rfl, hk, hd, ht, hbw⟩ := hrel
    have HD := Lib.hid hd
    have hdl := decDigits_len (n := n) (by omega)
    have hos := oneB_size
    rw [hd, List.length_append] at hdl
    clear hd ht
    by_cases hlt : 9 < k
    · have hb := decDigits_big hlt
      have hl1 : (Lib.decDigits k).length = (Lib.decDigits (k / 10)).length + 1 := by rw [hb]; simp
      have HB := Lib.hid hb
      clear hb
      go_wp2_with fail
      go_roundw
      case rel =>
        refine ⟨k / 10, UInt8.ofNat (48 + k % 10) :: t, by simp, ?_, by omega, ?_, ?_, hbw.alloc hbw.size _⟩
        · rw [oneB_app, show (48 + (k : Int) % 10).toNat = 48 + k % 10 by omega]
        · rw [HD.out, HB.out]; simp
        · simp; omega
      case measure => simp [intOf]; omega
    · have hb := decDigits_small (u := k) (by omega)
      have F : Hid (oneB (48 + (k : Int)) ++ ⟨t.toArray⟩ = ⟨(Lib.itoa n).toArray⟩) := Lib.hid (by
        rw [oneB_app, itoa_nat, HD.out, hb, show (48 + (k : Int)).toNat = 48 + k by omega]; rfl)
      clear hb
      go_wp2_with fail
      go_ret
      exact ⟨ret_str F.out, hbw.alloc hbw.size _⟩
set_option maxRecDepth 20000 in
set_option maxHeartbeats 800000 in
theorem fmtIntNeg_any : ∀ (N m : Nat) (w : World), m ≤ N → 1 ≤ m → m ≤ 9223372036854775808 →
    Calls Tryz.prog 92 #[.int .i64 (-(m : Int))] w fun e w' => e = .returned (.string ⟨(Lib.itoa (-(m : Int))).toArray⟩) ∧ Below w.heap.size w w'
  | 0, m, w, h, h1, _ => by omega
  | N + 1, m, w, h, h1, hm => by
    have kc := conv_one
    have hos := oneB_size
    have hdl := decDigits_len (n := m) hm
    by_cases hlt : m < 10
    · have hq : Int.tdiv (-(m : Int)) 10 = 0 := by rw [Int.neg_tdiv]; simp; omega
      have F : Hid ((⟨#[45]⟩ : ByteArray) ++ oneB (48 + (m : Int)) = ⟨(Lib.itoa (-(m : Int))).toArray⟩) := Lib.hid (by
        rw [itoa_neg h1, decDigits_small hlt, show (48 + (m : Int)) = ((48 + m : Nat) : Int) by simp]; rfl)
      go_enter Tryz.func92, Tryz.ntmps92
      go_wp2_with fail
      go_ret
      exact ⟨ret_str F.out, (Below.refl _ _).alloc (Nat.le_refl _) _⟩
    · have hih : ∀ w, Calls Tryz.prog 92 #[.int .i64 (-((m : Int) / 10))] w fun e w' => e = .returned (.string ⟨(45 :: Lib.decDigits (m / 10)).toArray⟩) ∧ Below w.heap.size w w' := fun w => by
        have := fmtIntNeg_any N (m / 10) w (by omega) (by omega) (by omega)
        rw [itoa_neg (by omega)] at this
        simpa using this
      have HIH := fun w => Lib.hid (hih w)
      have hl10 := decDigits_len (n := m / 10) (by omega)
      have kd := conv_drew
      have F : Hid ((⟨(45 :: Lib.decDigits (m / 10)).toArray⟩ : ByteArray) ++ oneB (IntKind.u8.wrap (IntKind.i64.wrap (48 + (m : Int).tmod 10))) = ⟨(Lib.itoa (-(m : Int))).toArray⟩) := Lib.hid (by
        rw [last_digit, itoa_neg h1, decDigits_big (k := m) (by omega)]; ext1; simp)
      have F2 : Hid ((⟨(45 :: Lib.decDigits (m / 10)).toArray⟩ : ByteArray) ++ oneB (48 + (m : Int) % 10) = ⟨(Lib.itoa (-(m : Int))).toArray⟩) := Lib.hid (by
        rw [show oneB (48 + (m : Int) % 10) = ⟨#[UInt8.ofNat (48 + m % 10)]⟩ by unfold oneB; rw [show (48 + (m : Int) % 10).toNat = 48 + m % 10 by omega], itoa_neg h1, decDigits_big (k := m) (by omega)]; ext1; simp)
      have hl11 : ¬ 9223372036854775807 < (Lib.decDigits (m / 10)).length + 1 + 1 := by omega
      clear hih
      go_enter Tryz.func92, Tryz.ntmps92
      go_wp2_with fail
      go_region_with (go_at_call 92; rw [wrap_id (by omega) (by omega)]; refine (HIH _).out.mono ?_; rintro e w2 ⟨rfl, hb2⟩; (try have kc2 := conv_at w2 w.heap.size _ ((hb2.cell (by simp)).trans (by simp; rfl))); have hk : Below w.heap.size w w2 := Below.now (by repeat (first | exact Below.refl _ _ | refine Below.drew ?_ | refine Below.alloc ?_ (by simp; try omega) _)) hb2; clear hb2)
      all_goals
        go_wp2_with fail
        go_ret
        exact ⟨ret_str (by first | exact F.out | exact F2.out), by repeat (first | exact hk | refine Below.drew ?_ | refine Below.alloc ?_ (by have := hk.size; simp; try omega) _)⟩
theorem specFormatInt_any (n : Int) (w : World) (h0 : -9223372036854775808 ≤ n) (h1 : n ≤ 9223372036854775807) :
    Calls Tryz.prog 92 #[.int .i64 n] w fun e w' => e = .returned (.string ⟨(Lib.itoa n).toArray⟩) ∧ Below w.heap.size w w' := by
  by_cases h : 0 ≤ n
  · obtain ⟨k, rfl⟩ : ∃ k : Nat, n = (k : Int) := ⟨n.toNat, by omega⟩
    exact fmtIntNat_any k w (by omega)
  · obtain ⟨k, rfl⟩ : ∃ k : Nat, n = -(k : Int) := ⟨(-n).toNat, by omega⟩
    exact fmtIntNeg_any k k w (Nat.le_refl _) (by omega) (by omega)
end Go.Proofs.YtmgdglghjlggnaaGreat
namespace Go.Proofs.YtmgdglghjlggnaaGreat
open Go.RowKit Go.ChangeShapes Go.WideShapes Go.ChangeAt
set_option linter.unusedVariables false
end Go.Proofs.YtmgdglghjlggnaaGreat
namespace Go.Proofs.YtmgdglghjlggnaaGreat
open Go.RowKit
set_option linter.unusedVariables false
/-- the numeral of an integer -/
def numB (n : Int) : ByteArray := ⟨(Lib.itoa n).toArray⟩
theorem itoa_len {n : Int} (h0 : -9223372036854775808 ≤ n) (h1 : n ≤ 9223372036854775807) : (numB n).size ≤ 21 := by
  show (Lib.itoa n).toArray.size ≤ 21
  rw [List.size_toArray]
  unfold Lib.itoa
  split
  · have := decDigits_len (n := n.natAbs) (by omega); simp; omega
  · have := decDigits_len (n := n.toNat) (by omega); omega
end Go.Proofs.YtmgdglghjlggnaaGreat
namespace Go.Proofs.YtmgdglghjlggnaaGreat
open Go.RowKit
set_option linter.unusedVariables false
theorem CellsIn.grownC {w w' : World} {r : Option Nat} {a : Option Addr} {xs : List Value} (h : CellsIn w a xs) (hg : w.grownBy w' r) (hne : ∀ x, a = some x → some x.block ≠ r) : CellsIn w' a xs := by
  rcases h with h | ⟨b, off, ha, hc⟩
  · exact .inl h
  · refine .inr ⟨b, off, ha, fun i hi => ?_⟩
    have h1 := hc i hi
    rw [World.cell?_of_block (hg.block b (World.block_lt_of_cell? w _ h1) (hne _ ha))]
    exact h1
/-- a slice lies away from another one -/
def Away (w : World) (a : Option Addr) (v : Value) : Prop := ∀ x, a = some x → x.block < w.heap.size ∧ some x.block ≠ v.ownBlock
theorem Away.append {wr w' : World} {a : Option Addr} {v v' : Value} {y : Value} {T : TypeId} (h : Away wr a v) (hg : (wr.alloc (.cells #[y] T)).grownBy w' v.ownBlock) (ho : v'.ownBlock = v.ownBlock ∨ v'.ownBlock = some (wr.alloc (.cells #[y] T)).heap.size) : Away w' a v' := fun x hx => by
  obtain ⟨h1, h2⟩ := h x hx
  have hs := hg.size
  simp at hs
  refine ⟨by omega, ?_⟩
  rcases ho with h3 | h3
  · rw [h3]; exact h2
  · rw [h3]
    simp
    omega
theorem sys_sizes {k : Int} {R : List RulD} (h : sysP k R) : R.length ≤ 12 ∧ (∀ j, j < R.length → (nthR R j).1.size ≤ 8 ∧ (nthR R j).2.size ≤ 8) ∧ (1 ≤ k ∧ k ≤ 4) :=
  ⟨h.1.1.2, fun j hj => (h.1.2 _ (nthR_mem hj)).1.2, h.1.1.1⟩
end Go.Proofs.YtmgdglghjlggnaaGreat
namespace Go.Proofs.YtmgdglghjlggnaaGreat
open Go.RowKit
set_option linter.unusedVariables false
theorem Tryz.infoPair : (Tryz.prog.info? 138).map (fun i => (i.zero, i.size, i.bytes)) = some (some (.agg #[.string ⟨#[]⟩, .int .i64 0, .int .i64 0, .int .i64 0, .int .i64 0]), 5, 48) := by kernel_rfl
/-- pairs of the first q places -/
def inTo (R : List RulD) (i j : Nat) (S : List Nat) (q : Nat) : List PairD := (S.take q).map (inP R i j)
def acTo (R : List RulD) (i j : Nat) (S : List Nat) (q : Nat) : List PairD := (S.take q).map (acP R i j)
theorem inTo_len (R : List RulD) (i j : Nat) (S : List Nat) (q : Nat) : (inTo R i j S q).length ≤ S.length := by unfold inTo; rw [List.length_map, List.length_take]; omega
theorem acTo_len (R : List RulD) (i j : Nat) (S : List Nat) (q : Nat) : (acTo R i j S q).length ≤ S.length := by unfold acTo; rw [List.length_map, List.length_take]; omega
theorem inTo_succ (R : List RulD) (i j : Nat) {S : List Nat} {q : Nat} (h : q < S.length) : inTo R i j S (q + 1) = inTo R i j S q ++ [inP R i j S[q]] := by
  unfold inTo; rw [List.take_succ_eq_append_getElem h, List.map_append]; rfl
theorem acTo_succ (R : List RulD) (i j : Nat) {S : List Nat} {q : Nat} (h : q < S.length) : acTo R i j S (q + 1) = acTo R i j S q ++ [acP R i j S[q]] := by
  unfold acTo; rw [List.take_succ_eq_append_getElem h, List.map_append]; rfl
theorem cells_prV (l : List PairD) (p : PairD) : cellsL prV (l ++ [p]) = cellsL prV l ++ [.string p.1, .int .i64 (p.2.1 : Nat), .int .i64 0, .int .i64 (p.2.2.1 : Nat), .int .i64 (p.2.2.2 : Nat)] := by rw [cellsL_app, cellsL_one]; rfl
/-- the Left of a rule in memory -/
theorem left_at {w : World} {a : Option Addr} {R : List RulD} (h : RulesIn w a R) {r : Nat} (hr : r < R.length) : ∃ b off, a = some ⟨b, off, none⟩ ∧ ∀ W, Below w.heap.size w W → ∀ i, i < R.length → W.cell? ⟨b, off + i * 2, none⟩ = some (.string (nthR R i).1) := by
  obtain ⟨b, off, e, hlt, hc⟩ := h.cell hr
  exact ⟨b, off, e, fun W hW i hi => by rw [hW.cell (World.block_lt_of_cell? w _ (hc i hi).1)]; exact (hc i hi).1⟩
set_option maxRecDepth 100000 in
set_option maxHeartbeats 2000000 in
theorem l05Inside_any (k : Int) (R : List RulD) (a : Option Addr) (cap : Nat) (i j : Nat) (w : World) (hl : RulesIn w a R) (hi : i < R.length) (hj : j < R.length) (h8 : ∀ r, (nthR R r).1.size ≤ 8) (hp : ∀ r, r < R.length → 0 < (nthR R r).1.size) (h12 : R.length ≤ 12) :
    Calls Tryz.prog 118 #[.agg #[.int .i64 k, .slice a R.length cap], .int .i64 (i : Nat), .int .i64 (j : Nat)] w (RetSl 138 5 (inF R i j).length (cellsL prV (inF R i j)) w) := by
  obtain ⟨b, off, rfl, hc⟩ := left_at hl hi
  have HC := Lib.hid hc
  have hb1 := alloc_belowS w (.cells #[.int .i64 k, .slice (some ⟨b, off, none⟩) R.length cap] 67)
  have HBX := Lib.hid (fun W2 (h : Below (w.alloc (.cells #[.int .i64 k, .slice (some ⟨b, off, none⟩) R.length cap] 67)).heap.size (w.alloc (.cells #[.int .i64 k, .slice (some ⟨b, off, none⟩) R.length cap] 67)) W2) => box_two h)
  clear hl hc
  by_cases hij : i = j
  · have HF : Hid (inF R i j = []) := Lib.hid (by unfold inF; rw [if_pos hij])
    have hb2 : ((i : Int) == (j : Int)) = true := by rw [hij, beq_self_eq_true]
    have HB1 := Lib.hid hb1
    clear hij
    go_enter Tryz.func118, Tryz.ntmps118
    go_wp2_with fail
    go_ret
    rw [HF.out]
    have F := ((Bld.empty 138 5 _).since HB1.out).ret
    have e1 : (w.alloc (.cells #[.int .i64 k, .slice (some ⟨b, off, none⟩) R.length cap] 67)).heap.size = w.heap.size + 1 := by simp
    rw [e1] at F
    exact F
  · have HF : Hid (inF R i j = inTo R i j (placesF (nthR R i).1 (nthR R j).1) (placesF (nthR R i).1 (nthR R j).1).length) := Lib.hid (by unfold inF inTo; rw [if_neg hij, List.take_length])
    have hb2 : ((i : Int) == (j : Int)) = false := by rw [beq_eq_false_iff_ne]; omega
    have HPL := Lib.hid (fun W => specPlacesOf_any (nthR R i).1 (nthR R j).1 W (hp j hj) (by have := h8 i; omega) (by have := h8 j; omega))
    have hSl : (placesF (nthR R i).1 (nthR R j).1).length ≤ 8 := Nat.le_trans (placeTo_len _ _ _) (h8 i)
    have HW1 := Lib.hid hb1
    clear hij h8 hp
    go_enter Tryz.func118, Tryz.ntmps118
    go_wp2_with fail
    have HB0 : Hid (Bld 138 5 (w.alloc (.cells #[.int .i64 k, .slice (some ⟨b, off, none⟩) R.length cap] 67)) ((w.alloc (.cells #[.int .i64 k, .slice (some ⟨b, off, none⟩) R.length cap] 67)).alloc (.cells #[] 138)) (.slice (some ⟨(w.alloc (.cells #[.int .i64 k, .slice (some ⟨b, off, none⟩) R.length cap] 67)).heap.size, 0, none⟩) 0 0) 0 (cellsL prV [])) := Lib.hid (Bld.empty 138 5 _)
    have e1 : (w.alloc (.cells #[.int .i64 k, .slice (some ⟨b, off, none⟩) R.length cap] 67)).heap.size = w.heap.size + 1 := by simp
    rw [e1] at HB0
    generalize hW1 : w.alloc (.cells #[.int .i64 k, .slice (some ⟨b, off, none⟩) R.length cap] 67) = w1 at *
    have hb3 := alloc_belowS w1 (.cells #[] 138)
    obtain ⟨w2, hw2⟩ : ∃ w2, w2 = w1.alloc (.cells #[] 138) := ⟨_, rfl⟩
    rw [← hw2] at hb3 HB0 ⊢
    have HW2 := Lib.hid hb3
    have HS2 : Hid (∀ W, Below w2.heap.size w2 W → W.cell? ⟨w.heap.size, 1, none⟩ = some (.slice (some ⟨b, off, none⟩) R.length cap) ∧ W.cell? ⟨b, off + i * 2, none⟩ = some (.string (nthR R i).1) ∧ W.cell? ⟨b, off + j * 2, none⟩ = some (.string (nthR R j).1)) := Lib.hid (fun W hW => ⟨(HBX.out W (Below.now hb3 hW)).2, HC.out W (Below.now HW1.out (Below.now hb3 hW)) i hi, HC.out W (Below.now HW1.out (Below.now hb3 hW)) j hj⟩)
    have HSC : Hid (∀ W, Below w1.heap.size w1 W → W.cell? ⟨w.heap.size, 1, none⟩ = some (.slice (some ⟨b, off, none⟩) R.length cap) ∧ W.cell? ⟨b, off + i * 2, none⟩ = some (.string (nthR R i).1)) := Lib.hid (fun W hW => ⟨(HBX.out W hW).2, HC.out W (Below.now HW1.out hW) i hi⟩)
    have hs12 : w1.heap.size = w.heap.size + 1 := by rw [← hW1]; simp
    have hs22 : w2.heap.size = w1.heap.size + 1 := by rw [hw2]; simp
    obtain ⟨r0, r1, r2⟩ := HS2.out w2 (Below.refl _ _)
    clear hb1 hb3 hw2 e1 hW1 HBX
    generalize hLi : (nthR R i).1 = Li at *
    generalize hLj : (nthR R j).1 = Lj at *
    generalize hS : placesF Li Lj = S at *
    go_cut [27, 28, 29] (fun v u z wx => ∃ a2 c2, v = .slice a2 S.length c2 ∧ u = .int .i64 (S.length : Nat) ∧ z = .int .i64 0 ∧ RowsIn nV wx a2 S ∧ Below w2.heap.size w2 wx ∧ ∀ x, a2 = some x → w2.heap.size ≤ x.block ∧ x.block < wx.heap.size)
    case first =>
      go_region_held3 (fun w' => w'.cell? ⟨w.heap.size, 1, none⟩ = some (.slice (some ⟨b, off, none⟩) R.length cap) ∧ w'.cell? ⟨b, off + i * 2, none⟩ = some (.string Li) ∧ w'.cell? ⟨b, off + j * 2, none⟩ = some (.string Lj)) (go_keep) (first
        | (go_at_call 124; refine (HPL.out _).mono ?_; rintro e w6 ⟨a6, c6, rfl, ho6, hb6⟩; have K6 : Hid (Below w2.heap.size w2 w6) := Lib.hid (Below.now (by repeat (first | exact Below.refl _ _ | refine Below.drew ?_ | refine below_drewN ?_ _)) hb6); have I6 := Lib.hid (owns_rows ho6); have R6 : Hid (∀ x, a6 = some x → w2.heap.size ≤ x.block ∧ x.block < w6.heap.size) := Lib.hid (fun x hx => by have h := ho6.lt x.block (by rw [hx]; rfl); simp at h; omega); have t0 := (HS2.out w6 K6.out).1; have t1 := (HS2.out w6 K6.out).2.1; have t2 := (HS2.out w6 K6.out).2.2; clear hb6 ho6))
      all_goals
        go_wp2_with fail
        go_meet
        exact ⟨_, _, rfl, rfl, rfl, I6.out, K6.out, R6.out⟩
    case rest =>
      obtain ⟨a2, c2, rfl, rfl, rfl, hin, hbc, hba⟩ := hcut
      have HB1 : Hid (Bld 138 5 w1 wc (.slice (some ⟨w.heap.size + 1, 0, none⟩) 0 0) (inTo R i j S 0).length (cellsL prV (inTo R i j S 0))) := Lib.hid (HB0.out.later hbc)
      have HI : Hid (RowsIn nV wc a2 S) := Lib.hid hin
      have HA1 : Hid (Away wc a2 (.slice (some ⟨w.heap.size + 1, 0, none⟩) 0 0)) := Lib.hid (fun x hx => by
        obtain ⟨h1, h2⟩ := hba x hx
        exact ⟨h2, fun e => by have e2 : x.block = w.heap.size + 1 := Option.some.inj e; omega⟩)
      clear hin hbc r0 r1 r2 HS2 HB0 HPL hba
      go_wp2_with fail
      go_loopw [7, 29] (fun vo vq wr => ∃ q : Nat, q ≤ S.length ∧ vq = .int .i64 (q : Nat) ∧ Bld 138 5 w1 wr vo (inTo R i j S q).length (cellsL prV (inTo R i j S q)) ∧ Hid (RowsIn nV wr a2 S) ∧ Hid (Away wr a2 vo)) (fun _ vq _ => S.length - (intOf vq).toNat)
      case atStart => exact ⟨0, Nat.zero_le _, rfl, HB1.out, HI, HA1⟩
      case round =>
        clear HB1 HI HA1
        obtain ⟨q, hq, rfl, hbd, HI, HAW⟩ := hrel
        obtain ⟨ao, co, rfl⟩ := owns_form hbd.1
        have HB := Lib.hid hbd
        have hil := inTo_len R i j S q
        by_cases hlt : q < S.length
        · obtain ⟨b2, off2, rfl, hb2, hcs⟩ := RowsIn.cell nV_len (by omega) HI.out hlt
          have c0 : wr.cell? ⟨b2, off2 + q, none⟩ = some (.int .i64 (S[q] : Nat)) := by have h := hcs q hlt 0 _ rfl; rw [Nat.mul_one] at h; exact h
          obtain ⟨s0, s1⟩ := HSC.out wr hbd.2
          have HNX := Lib.hid (inTo_succ R i j hlt)
          have HPI : Hid (inP R i j S[q] = (Li, i, j, S[q])) := Lib.hid (by unfold inP; rw [hLi])
          rw [HPI.out] at HNX
          clear hcs hbd
          generalize S[q] = z at *
          have HB2 := Lib.hid (HB.out.later (alloc_belowS wr (.cells #[.string Li, .int .i64 (i : Nat), .int .i64 0, .int .i64 (j : Nat), .int .i64 (z : Nat)] 138)))
          have HN1 : Hid ([Value.string Li, .int .i64 (i : Nat), .int .i64 0, .int .i64 (j : Nat), .int .i64 (z : Nat)].length = 1 * 5) := Lib.hid rfl
          have HN2 : Hid (∀ u ∈ [Value.string Li, .int .i64 (i : Nat), .int .i64 0, .int .i64 (j : Nat), .int .i64 (z : Nat)], u.oneCell' = true) := Lib.hid (fun u hu => by simp at hu; rcases hu with rfl | rfl | rfl | rfl | rfl <;> rfl)
          generalize hX : inTo R i j S q = X at *
          clear hX
          go_wp2_with (at_builtin; refine wpList_appM rfl (.tmp 33) (.tmp 46) rfl Tryz.underlying115 Tryz.infoPair rfl (by decide) rfl HB2.out rfl (Src.lit _) HN1.out HN2.out ?a1 ?a2 ?a3)
          case a1 => unfold maxLen; omega
          case a2 => omega
          intro v4 w4 hb4 hg4 ho4
          have HB4 : Hid (Bld 138 5 w1 w4 v4 (inTo R i j S (q + 1)).length (cellsL prV (inTo R i j S (q + 1)))) := Lib.hid (by
            rw [HNX.out, List.length_append, cells_prV]; exact hb4)
          have HG4 := Lib.hid ((World.grownBy_alloc wr _ (Value.slice ao X.length co).ownBlock).trans hg4)
          have HI4 : Hid (RowsIn nV w4 (some ⟨b2, off2, none⟩) S) := Lib.hid (CellsIn.grownC HI.out HG4.out (fun x hx => (HAW.out x hx).2))
          have HA4 : Hid (Away w4 (some ⟨b2, off2, none⟩) v4) := Lib.hid (fun x hx => by
            obtain ⟨h1, h2⟩ := HAW.out x hx
            refine ⟨Nat.lt_of_lt_of_le h1 HG4.out.size, fun e => ?_⟩
            rcases ho4 with h | h
            · exact h2 (e.trans h)
            · have e3 := e.trans h
              have e4 := Option.some.inj e3
              have e5 := (alloc_belowS wr (.cells #[.string Li, .int .i64 (i : Nat), .int .i64 0, .int .i64 (j : Nat), .int .i64 (z : Nat)] 138)).size
              first | omega | (simp at e4; omega))
          obtain ⟨a4, c4, hv4⟩ := owns_form HB4.out.1
          subst hv4
          clear hb4 hg4 ho4
          go_wp2_with fail
          go_roundw
          case rel => exact ⟨q + 1, by omega, by go_num, HB4.out, HI4, HA4⟩
          case measure => simp [intOf]; omega
        · obtain rfl : q = S.length := by omega
          have F : Hid (RetSl 138 5 (inF R i j).length (cellsL prV (inF R i j)) w (.returned (.slice ao (inTo R i j S S.length).length co)) wr) := Lib.hid (by
            rw [HF.out]
            exact (HB.out.since HW1.out).ret)
          clear hbd
          go_wp2_with fail
          go_ret
          exact F.out
/-- what across adds -/
theorem acP_eq {R : List RulD} {i j n : Nat} {Li Lj : ByteArray} (h1 : (nthR R i).1 = Li) (h2 : (nthR R j).1 = Lj) : acP R i j n = (Li ++ Lj.extract n Lj.size, i, j, Li.size - n) := by unfold acP; rw [h1, h2]
set_option maxRecDepth 100000 in
set_option maxHeartbeats 2000000 in
theorem l05Across_any (k : Int) (R : List RulD) (a : Option Addr) (cap : Nat) (i j : Nat) (w : World) (hl : RulesIn w a R) (hi : i < R.length) (hj : j < R.length) (h8 : ∀ r, (nthR R r).1.size ≤ 8) (h12 : R.length ≤ 12) :
    Calls Tryz.prog 119 #[.agg #[.int .i64 k, .slice a R.length cap], .int .i64 (i : Nat), .int .i64 (j : Nat)] w (RetSl 138 5 (acF R i j).length (cellsL prV (acF R i j)) w) := by
  obtain ⟨b, off, rfl, hc⟩ := left_at hl hi
  have HC := Lib.hid hc
  have hb1 := alloc_belowS w (.cells #[.int .i64 k, .slice (some ⟨b, off, none⟩) R.length cap] 67)
  have HBX := Lib.hid (fun W2 (h : Below (w.alloc (.cells #[.int .i64 k, .slice (some ⟨b, off, none⟩) R.length cap] 67)).heap.size (w.alloc (.cells #[.int .i64 k, .slice (some ⟨b, off, none⟩) R.length cap] 67)) W2) => box_two h)
  have HF : Hid (acF R i j = acTo R i j (overF (nthR R i).1 (nthR R j).1) (overF (nthR R i).1 (nthR R j).1).length) := Lib.hid (by unfold acF acTo; rw [List.take_length])
  have h8i := h8 i
  have h8j := h8 j
  have HPL := Lib.hid (fun W => specOverlapsOf_any (nthR R i).1 (nthR R j).1 W (by omega) (by omega))
  have hSl : (overF (nthR R i).1 (nthR R j).1).length ≤ 8 := Nat.le_trans (overTo_len _ _ _) (by omega)
  have HMEM : Hid (∀ n ∈ overF (nthR R i).1 (nthR R j).1, n < (nthR R i).1.size ∧ n < (nthR R j).1.size) := Lib.hid (fun n h => (mem_over.1 h).1)
  have HW1 := Lib.hid hb1
  clear hl hc h8
  go_enter Tryz.func119, Tryz.ntmps119
  have s0 := fun o => HC.out _ (Below.now HW1.out (alloc_belowS _ o)) i hi
  have s1 := fun o => HC.out _ (Below.now HW1.out (alloc_belowS _ o)) j hj
  go_wp2_with fail
  have HB0 : Hid (Bld 138 5 (w.alloc (.cells #[.int .i64 k, .slice (some ⟨b, off, none⟩) R.length cap] 67)) ((w.alloc (.cells #[.int .i64 k, .slice (some ⟨b, off, none⟩) R.length cap] 67)).alloc (.cells #[] 138)) (.slice (some ⟨(w.alloc (.cells #[.int .i64 k, .slice (some ⟨b, off, none⟩) R.length cap] 67)).heap.size, 0, none⟩) 0 0) 0 (cellsL prV [])) := Lib.hid (Bld.empty 138 5 _)
  have e1 : (w.alloc (.cells #[.int .i64 k, .slice (some ⟨b, off, none⟩) R.length cap] 67)).heap.size = w.heap.size + 1 := by simp
  rw [e1] at HB0
  clear s0 s1
  generalize hW1 : w.alloc (.cells #[.int .i64 k, .slice (some ⟨b, off, none⟩) R.length cap] 67) = w1 at *
  have hb3 := alloc_belowS w1 (.cells #[] 138)
  obtain ⟨w2, hw2⟩ : ∃ w2, w2 = w1.alloc (.cells #[] 138) := ⟨_, rfl⟩
  rw [← hw2] at hb3 HB0 ⊢
  have hs12 : w1.heap.size = w.heap.size + 1 := by rw [← hW1]; simp
  have hs22 : w2.heap.size = w1.heap.size + 1 := by rw [hw2]; simp
  clear hb1 hb3 hw2 e1 hW1 HBX
  generalize hLi : (nthR R i).1 = Li at *
  generalize hLj : (nthR R j).1 = Lj at *
  generalize hS : overF Li Lj = S at *
  refine (HPL.out _).mono ?_
  rintro e wc ⟨a2, c2, rfl, ho6, hbc⟩
  have hba : ∀ x, a2 = some x → w2.heap.size ≤ x.block ∧ x.block < wc.heap.size := fun x hx => ho6.lt x.block (by rw [hx]; rfl)
  have hin := owns_rows ho6
  have HB1 : Hid (Bld 138 5 w1 wc (.slice (some ⟨w.heap.size + 1, 0, none⟩) 0 0) (acTo R i j S 0).length (cellsL prV (acTo R i j S 0))) := Lib.hid (HB0.out.later hbc)
  have HI : Hid (RowsIn nV wc a2 S) := Lib.hid hin
  have HA1 : Hid (Away wc a2 (.slice (some ⟨w.heap.size + 1, 0, none⟩) 0 0)) := Lib.hid (fun x hx => by
    obtain ⟨h1, h2⟩ := hba x hx
    exact ⟨h2, fun e => by have e2 : x.block = w.heap.size + 1 := Option.some.inj e; omega⟩)
  clear hin hbc ho6 HB0 HPL hba
  go_wp2_with fail
  go_loopw [7, 29] (fun vo vq wr => ∃ q : Nat, q ≤ S.length ∧ vq = .int .i64 (q : Nat) ∧ Bld 138 5 w1 wr vo (acTo R i j S q).length (cellsL prV (acTo R i j S q)) ∧ Hid (RowsIn nV wr a2 S) ∧ Hid (Away wr a2 vo)) (fun _ vq _ => S.length - (intOf vq).toNat)
  case atStart => exact ⟨0, Nat.zero_le _, rfl, HB1.out, HI, HA1⟩
  case round =>
    clear HB1 HI HA1
    obtain ⟨q, hq, rfl, hbd, HI, HAW⟩ := hrel
    obtain ⟨ao, co, rfl⟩ := owns_form hbd.1
    have HB := Lib.hid hbd
    have hil := acTo_len R i j S q
    by_cases hlt : q < S.length
    · obtain ⟨b2, off2, rfl, hb2, hcs⟩ := RowsIn.cell nV_len (by omega) HI.out hlt
      have c0 : wr.cell? ⟨b2, off2 + q, none⟩ = some (.int .i64 (S[q] : Nat)) := by have h := hcs q hlt 0 _ rfl; rw [Nat.mul_one] at h; exact h
      have HNX := Lib.hid (acTo_succ R i j hlt)
      have hz := HMEM.out S[q] (List.getElem_mem hlt)
      rw [acP_eq hLi hLj] at HNX
      clear hcs hbd
      generalize S[q] = z at *
      have x1 : (Lj.extract z Lj.size).size = Lj.size - z := by rw [ByteArray.size_extract]; omega
      have x2 : ¬ 9223372036854775807 < Li.size + (Lj.extract z Lj.size).size := by omega
      have x3 : (z : Int) ≤ (Lj.size : Int) := by omega
      have x4 : z ≤ Lj.size := by omega
      have x5 : (Li.size : Int) - (z : Int) = ((Li.size - z : Nat) : Int) := by omega
      have x6 : IntKind.i64.wrap ((Li.size : Int) - (z : Int)) = ((Li.size - z : Nat) : Int) := by rw [IntWalk.i64_in _ (by omega)]; omega
      have HB2 := Lib.hid (HB.out.later (alloc_belowS wr (.cells #[.string (Li ++ Lj.extract z Lj.size), .int .i64 (i : Nat), .int .i64 0, .int .i64 (j : Nat), .int .i64 (Li.size - z : Nat)] 138)))
      have HN1 : Hid ([Value.string (Li ++ Lj.extract z Lj.size), .int .i64 (i : Nat), .int .i64 0, .int .i64 (j : Nat), .int .i64 (Li.size - z : Nat)].length = 1 * 5) := Lib.hid rfl
      have HN2 : Hid (∀ u ∈ [Value.string (Li ++ Lj.extract z Lj.size), .int .i64 (i : Nat), .int .i64 0, .int .i64 (j : Nat), .int .i64 (Li.size - z : Nat)], u.oneCell' = true) := Lib.hid (fun u hu => by simp at hu; rcases hu with rfl | rfl | rfl | rfl | rfl <;> rfl)
      generalize hX : acTo R i j S q = X at *
      clear hX
      go_wp2_with (at_builtin; refine wpList_appM rfl (.tmp 33) (.tmp 48) rfl Tryz.underlying115 Tryz.infoPair rfl (by decide) rfl HB2.out rfl (Src.lit _) HN1.out HN2.out ?a1 ?a2 ?a3)
      case a1 => unfold maxLen; omega
      case a2 => omega
      intro v4 w4 hb4 hg4 ho4
      have HB4 : Hid (Bld 138 5 w1 w4 v4 (acTo R i j S (q + 1)).length (cellsL prV (acTo R i j S (q + 1)))) := Lib.hid (by
        rw [HNX.out, List.length_append, cells_prV]; exact hb4)
      have HG4 := Lib.hid ((World.grownBy_alloc wr _ (Value.slice ao X.length co).ownBlock).trans hg4)
      have HI4 : Hid (RowsIn nV w4 (some ⟨b2, off2, none⟩) S) := Lib.hid (CellsIn.grownC HI.out HG4.out (fun x hx => (HAW.out x hx).2))
      have HA4 : Hid (Away w4 (some ⟨b2, off2, none⟩) v4) := Lib.hid (fun x hx => by
        obtain ⟨h1, h2⟩ := HAW.out x hx
        refine ⟨Nat.lt_of_lt_of_le h1 HG4.out.size, fun e => ?_⟩
        rcases ho4 with h | h
        · exact h2 (e.trans h)
        · have e3 := e.trans h
          have e4 := Option.some.inj e3
          have e5 := (alloc_belowS wr (.cells #[.string (Li ++ Lj.extract z Lj.size), .int .i64 (i : Nat), .int .i64 0, .int .i64 (j : Nat), .int .i64 (Li.size - z : Nat)] 138)).size
          first | omega | (simp at e4; omega))
      obtain ⟨a4, c4, hv4⟩ := owns_form HB4.out.1
      subst hv4
      clear hb4 hg4 ho4
      go_wp2_with fail
      go_roundw
      case rel => exact ⟨q + 1, by omega, by go_num, HB4.out, HI4, HA4⟩
      case measure => simp [intOf]; omega
    · obtain rfl : q = S.length := by omega
      have F : Hid (RetSl 138 5 (acF R i j).length (cellsL prV (acF R i j)) w (.returned (.slice ao (acTo R i j S S.length).length co)) wr) := Lib.hid (by
        rw [HF.out]
        exact (HB.out.since HW1.out).ret)
      clear hbd
      go_wp2_with fail
      go_ret
      exact F.out
end Go.Proofs.YtmgdglghjlggnaaGreat
namespace Go.Proofs.YtmgdglghjlggnaaGreat
open Go.RowKit
set_option linter.unusedVariables false
theorem cells_one {l : List PairD} : ∀ u ∈ cellsL prV l, u.oneCell' = true := fun u hu => by
  unfold cellsL at hu
  obtain ⟨p, _, hp⟩ := List.mem_flatMap.1 hu
  simp only [prV, List.mem_cons, List.not_mem_nil, or_false] at hp
  rcases hp with rfl | rfl | rfl | rfl | rfl <;> rfl
theorem cells_five (l : List PairD) : (cellsL prV l).length = l.length * 5 := cellsL_len prV_len l
theorem szR_of {k : Int} {R : List RulD} (hs : sysP k R) : SzR R := fun j hj => by have := (hs.1.2 _ (nthR_mem hj)).1.2; unfold maxLen; omega
set_option maxRecDepth 100000 in
set_option maxHeartbeats 2000000 in
theorem specPairsOf_any (k : Int) (R : List RulD) (a : Option Addr) (cap : Nat) (w : World) (hl : RulesIn w a R) (hs : sysP k R) :
    Calls Tryz.prog 112 #[.agg #[.int .i64 k, .slice a R.length cap]] w (RetSl 138 5 (pairsF R).length (cellsL prV (pairsF R)) w) := by
  have h12 : R.length ≤ 12 := hs.1.1.2
  have h8 := left8 hs
  have HL := Lib.hid hl
  have HSO := Lib.hid (fun W h => specSystemOk_any k R a cap W h (by omega) (szR_of hs))
  have HYES := Lib.hid hs
  have HA := Lib.hid (fun o => alloc_belowS w o)
  have HBX : Hid (∀ W2, Below (w.alloc (.cells #[.int .i64 k, .slice a R.length cap] 67)).heap.size (w.alloc (.cells #[.int .i64 k, .slice a R.length cap] 67)) W2 → W2.cell? ⟨w.heap.size, 0, none⟩ = some (.int .i64 k) ∧ W2.cell? ⟨w.heap.size, 1, none⟩ = some (.slice a R.length cap)) := Lib.hid (fun W2 h => box_two h)
  have hpos : ∀ r, r < R.length → 0 < (nthR R r).1.size := fun r hr => by have := (hs.1.2 _ (nthR_mem hr)).2; omega
  have HIN := Lib.hid (fun i j W h hi hj => l05Inside_any k R a cap i j W h hi hj h8 hpos h12)
  have HAC := Lib.hid (fun i j W h hi hj => l05Across_any k R a cap i j W h hi hj h8 h12)
  have HLN := Lib.hid (fun i j (hi : i ≤ 12) (hj : j ≤ 12) => pairTo_len h8 h12 (i := i) (j := j) hi hj)
  have HL1' := Lib.hid (fun i j => inF_len h8 i j)
  have HL2' := Lib.hid (fun i j => acF_len h8 i j)
  clear hl hs h8 hpos
  go_enter Tryz.func112, Tryz.ntmps112
  go_wp2_with fail
  refine (HSO.out _ (HL.out.later (HA.out _))).mono ?_
  rintro e w1 ⟨bb, hbb, rfl, hb1⟩
  obtain rfl := hbb.2 HYES.out
  have HW1 := Lib.hid (Below.now (HA.out _) hb1)
  have HBX1 : Hid (∀ W2, Below w1.heap.size w1 W2 → W2.cell? ⟨w.heap.size, 0, none⟩ = some (.int .i64 k) ∧ W2.cell? ⟨w.heap.size, 1, none⟩ = some (.slice a R.length cap)) := Lib.hid (fun W2 hW2 => HBX.out W2 (Below.now hb1 hW2))
  have HL1 := Lib.hid (HL.out.later (Below.now (HA.out _) hb1))
  have HB0 : Hid (Bld 138 5 w1 (w1.alloc (.cells #[] 138)) (.slice (some ⟨w1.heap.size, 0, none⟩) 0 0) (pairTo R 0 0).length (cellsL prV (pairTo R 0 0))) := Lib.hid (Bld.empty 138 5 w1)
  have s0 := fun o => (HBX1.out _ (alloc_belowS w1 o)).1
  have s1 := fun o => (HBX1.out _ (alloc_belowS w1 o)).2
  clear hbb hb1 HSO HBX
  go_wp2_with fail
  go_loopw [3, 13] (fun vo vi wr => ∃ i : Nat, i ≤ R.length ∧ vi = .int .i64 (i : Nat) ∧ Bld 138 5 w1 wr vo (pairTo R i 0).length (cellsL prV (pairTo R i 0))) (fun _ vi _ => R.length - (intOf vi).toNat)
  case atStart => exact ⟨0, Nat.zero_le _, rfl, HB0.out⟩
  case round =>
    clear HB0 s0 s1
    obtain ⟨i, hi, rfl, hbd⟩ := hrel
    obtain ⟨ao, co, rfl⟩ := owns_form hbd.1
    have HB := Lib.hid hbd
    obtain ⟨s0, s1⟩ := HBX1.out wr hbd.2
    clear hbd
    by_cases hlt : i < R.length
    · have HXT := Lib.hid (pairTo_next R i)
      go_wp2_with fail
      generalize hW : wr = wr0 at *
      clear hW s0 s1
      go_loopw [3, 19] (fun vo vj wr => ∃ j : Nat, j ≤ R.length ∧ vj = .int .i64 (j : Nat) ∧ Bld 138 5 w1 wr vo (pairTo R i j).length (cellsL prV (pairTo R i j))) (fun _ vj _ => R.length - (intOf vj).toNat)
      case atStart => exact ⟨0, Nat.zero_le _, rfl, HB.out⟩
      case round =>
        clear HB
        obtain ⟨j, hj, rfl, hbd⟩ := hrel
        obtain ⟨a2, c2, rfl⟩ := owns_form hbd.1
        have HB := Lib.hid hbd
        obtain ⟨s0, s1⟩ := HBX1.out wr hbd.2
        have hln := HLN.out i j (by omega) (by omega)
        by_cases hlr : j < R.length
        · have hl1 := HL1'.out i j
          have hl2 := HL2'.out i j
          have HC1 := Lib.hid (HIN.out i j wr (HL1.out.later hbd.2) hlt hlr)
          have HC2 := Lib.hid (fun W h => HAC.out i j W h hlt hlr)
          have HNX := Lib.hid (pairTo_step R i j)
          clear hbd
          generalize pairTo R i j = X at *
          generalize inF R i j = Y at *
          generalize acF R i j = Z at *
          go_wp2_with fail
          refine HC1.out.mono ?_
          rintro e w6 ⟨a6, c6, rfl, ho6, hb6⟩
          have HB6 := Lib.hid (HB.out.later hb6)
          have HS6 := Lib.hid (Src.of_owns ho6)
          have HN6 := Lib.hid (cells_five Y)
          have HO6 := Lib.hid (cells_one (l := Y))
          clear ho6 hb6 s0 s1
          go_wp2_with (at_builtin; refine wpList_appM rfl (.tmp 22) (.tmp 26) rfl Tryz.underlying115 Tryz.infoPair rfl (by decide) rfl HB6.out rfl HS6.out HN6.out HO6.out ?a1 ?a2 ?a3)
          case a1 => unfold maxLen; omega
          case a2 => omega
          intro v7 w7 hb7 hg7 ho7
          have HB7 : Hid (Bld 138 5 w1 w7 v7 (X ++ Y).length (cellsL prV (X ++ Y))) := Lib.hid (by
            rw [List.length_append, cellsL_app]; exact hb7)
          obtain ⟨a7, c7, hv7⟩ := owns_form HB7.out.1
          subst hv7
          have hlx : (X ++ Y).length ≤ 2504 := by rw [List.length_append]; omega
          obtain ⟨t0, t1⟩ := HBX1.out w7 HB7.out.2
          have HC3 := Lib.hid (HC2.out w7 (HL1.out.later HB7.out.2))
          clear hb7 hg7 ho7
          have HNY : Hid (pairTo R i (j + 1) = (X ++ Y) ++ Z) := Lib.hid (by rw [HNX.out, List.append_assoc])
          generalize X ++ Y = X2 at *
          go_wp2_with fail
          refine HC3.out.mono ?_
          rintro e w8 ⟨a8, c8, rfl, ho8, hb8⟩
          have HB8 := Lib.hid (HB7.out.later hb8)
          have HS8 := Lib.hid (Src.of_owns ho8)
          have HN8 := Lib.hid (cells_five Z)
          have HO8 := Lib.hid (cells_one (l := Z))
          clear ho8 hb8 t0 t1
          go_wp2_with (at_builtin; refine wpList_appM rfl (.tmp 28) (.tmp 32) rfl Tryz.underlying115 Tryz.infoPair rfl (by decide) rfl HB8.out rfl HS8.out HN8.out HO8.out ?b1 ?b2 ?b3)
          case b1 => unfold maxLen; omega
          case b2 => omega
          intro v9 w9 hb9 hg9 ho9
          have HB9 : Hid (Bld 138 5 w1 w9 v9 (pairTo R i (j + 1)).length (cellsL prV (pairTo R i (j + 1)))) := Lib.hid (by
            rw [HNY.out, List.length_append, cellsL_app]; exact hb9)
          obtain ⟨a9, c9, hv9⟩ := owns_form HB9.out.1
          subst hv9
          clear hb9 hg9 ho9
          go_wp2_with fail
          go_roundw
          case rel => exact ⟨j + 1, by omega, by go_num, HB9.out⟩
          case measure => simp [intOf]; omega
        · obtain rfl : j = R.length := by omega
          have HB2 : Hid (Bld 138 5 w1 wr (.slice a2 (pairTo R i R.length).length c2) (pairTo R (i + 1) 0).length (cellsL prV (pairTo R (i + 1) 0))) := Lib.hid (by rw [← HXT.out]; exact HB.out)
          clear hbd
          go_wp2_with fail
          go_roundw
          case rel => exact ⟨i + 1, by omega, by go_num, HB2.out⟩
          case measure => simp [intOf]; omega
    · obtain rfl : i = R.length := by omega
      have F : Hid (RetSl 138 5 (pairsF R).length (cellsL prV (pairsF R)) w (.returned (.slice ao (pairTo R R.length 0).length co)) wr) := Lib.hid (by
        rw [pairTo_done] at HB ⊢
        exact ((HB.out.since HW1.out).ret))
      go_wp2_with fail
      go_ret
      exact F.out
end Go.Proofs.YtmgdglghjlggnaaGreat
