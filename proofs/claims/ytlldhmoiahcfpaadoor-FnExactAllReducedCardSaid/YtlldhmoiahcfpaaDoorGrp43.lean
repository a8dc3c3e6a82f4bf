/-
  Marks of slices of strings.
-/
import Derived.Test.YtlldhmoiahcfpaaDoorGrp10
import Derived.Test.YtlldhmoiahcfpaaDoorGrp14
import Derived.Test.YtlldhmoiahcfpaaDoorGrp42
namespace Go.Proofs.YtlldhmoiahcfpaaDoor
open Go.RowKit
set_option linter.unusedVariables false
/-- the decimal digits of a number ahead of a text, by at most f steps -/
def digs : Nat → Nat → ByteArray → ByteArray
  | 0, _, s => s
  | f + 1, x, s => if x = 0 then s else digs f (x / 10) (oneC (48 + (x : Int) % 10) ++ s)
theorem digs_zero : ∀ (f : Nat) (s : ByteArray), digs f 0 s = s
  | 0, _ => rfl
  | f + 1, s => by simp [digs]
theorem digs_step {f x : Nat} {s : ByteArray} (h : 0 < x) : digs (f + 1) x s = digs f (x / 10) (oneC (48 + (x : Int) % 10) ++ s) := by simp only [digs, if_neg (show ¬ x = 0 by omega)]
/-- the mark of a number -/
def markS (K : Nat) : ByteArray := ⟨#[109]⟩ ++ digs 20 K ⟨#[]⟩
theorem oneC_len (x : Int) : (oneC x).size = 1 := rfl
set_option maxRecDepth 20000 in
set_option maxHeartbeats 1000000 in
theorem markText_all (K : Nat) (h1 : 1 ≤ K) (h9 : K ≤ 10000000) (w : World) :
    Calls Tryd.prog 33 #[.int .i64 (K : Nat)] w fun e w' => e = .returned (.string (markS K)) ∧ Below w.heap.size w w' := by
  have kc := convC
  go_enter Tryd.func33, Tryd.ntmps33
  go_wp2_with fail
  go_loopw [0, 3] (fun v s wr => ∃ (f x : Nat) (u : ByteArray), v = .int .i64 (x : Nat) ∧ s = .string u ∧ Hid (digs f x u = digs 20 K ⟨#[]⟩) ∧ x ≤ K ∧ x < 10 ^ f ∧ u.size + f = 20 ∧ Below w.heap.size w wr) (fun v _ _ => (intOf v).toNat)
  case atStart => exact ⟨20, K, ⟨#[]⟩, rfl, rfl, Lib.hid rfl, Nat.le_refl _, by omega, rfl, Below.refl _ _⟩
  case round =>
    obtain ⟨f, x, u, rfl, rfl, hd, hxk, hxf, huf, hbw⟩ := hrel
    by_cases h0 : 0 < x
    · obtain ⟨f, rfl⟩ : ∃ f', f = f' + 1 := ⟨f - 1, by cases f with | zero => simp at hxf; omega | succ f => rfl⟩
      have hx2 : x / 10 < 10 ^ f := by rw [Nat.pow_succ] at hxf; omega
      have hsum : ¬ 9223372036854775807 < (oneC (48 + (x : Int) % 10)).size + u.size := by rw [oneC_len]; omega
      have hq : ((x / 10 : Nat) : Int) = (x : Int) / 10 := by omega
      have HQ := Lib.hid hq
      have HD : Hid (digs f (x / 10) (oneC (48 + (x : Int) % 10) ++ u) = digs 20 K ⟨#[]⟩) := Lib.hid (by rw [← digs_step h0]; exact hd.out)
      have HX2 := Lib.hid hx2
      clear hq hx2 hxf
      go_wp2_with fail
      go_roundw
      case rel => exact ⟨f, x / 10, _, by rw [HQ.out], rfl, HD.out, by omega, HX2.out, by rw [ByteArray.size_append, oneC_len]; omega, hbw.alloc hbw.size _⟩
      case measure => simp [intOf]; omega
    · obtain rfl : x = 0 := by omega
      have HS : Hid (u = digs 20 K ⟨#[]⟩) := Lib.hid (by rw [← hd.out, digs_zero])
      have hsum : ¬ 9223372036854775807 < 1 + u.size := by omega
      clear hxf
      go_wp2_with fail
      go_ret
      exact ⟨ret_str (by unfold markS; rw [← HS.out]), hbw⟩
/-- the marks from k on -/
def markStrs (k n : Nat) : List ByteArray := (List.range n).map fun i => markS (k + i)
theorem markStrs_len (k n : Nat) : (markStrs k n).length = n := by simp [markStrs]
theorem markStrs_nth {k n j : Nat} (h : j < n) : nthS (markStrs k n) j = markS (k + j) := by rw [nthS_lt (by simpa [markStrs] using h)]; simp [markStrs]
theorem markStrs_at {k n j : Nat} (h : j < n) : (strVals (markStrs k n))[j]? = some (.string (markS (k + j))) := by simp [strVals, markStrs, h]
/-- a row that is being filled with what tgt says -/
def MarkT (T : TypeId) (w wr : World) (base : Nat) (a : Option Addr) (n cap : Nat) (tgt : List Value) (j : Nat) : Prop :=
  ∃ xs, wr.ownsRow base T 1 (.slice a n cap) n xs ∧ xs.take j = tgt.take j ∧ OnlyRow w a wr ∧ tgt.length = n
/-- what a function leaves that marks a slice -/
def MarkedT (T : TypeId) (w : World) (base : Nat) (a : Option Addr) (n cap k : Nat) (tgt : List Value) (e : Ending) (w' : World) : Prop :=
  e = .returned (.int .i64 ((k + n : Nat) : Int)) ∧ w'.ownsRow base T 1 (.slice a n cap) n tgt ∧ OnlyRow w a w'
theorem MarkT.start {T : TypeId} {w : World} {base : Nat} {a : Option Addr} {n cap : Nat} {xs tgt : List Value} (h : w.ownsRow base T 1 (.slice a n cap) n xs) (ht : tgt.length = n) : MarkT T w w base a n cap tgt 0 :=
  ⟨xs, h, by simp, ⟨rfl, rfl, rfl, Nat.le_refl _, fun _ _ _ => rfl⟩, ht⟩
theorem MarkT.addr {T : TypeId} {w wr : World} {base : Nat} {a : Option Addr} {n cap j : Nat} {tgt : List Value} (h : MarkT T w wr base a n cap tgt j) (hj : j < n) : ∃ g, a = some ⟨g, 0, none⟩ := by
  obtain ⟨xs, ho, _⟩ := h
  rcases ho.2 with ⟨hv, h0⟩ | ⟨g, cap', cur, hv, _⟩
  · omega
  · simp only [Value.slice.injEq] at hv
    exact ⟨g, hv.1⟩
theorem MarkT.cell {T : TypeId} {w wr : World} {base g n cap j : Nat} {tgt : List Value} (h : MarkT T w wr base (some ⟨g, 0, none⟩) n cap tgt j) (hj : j < n) : ∃ v, wr.cell? ⟨g, j, none⟩ = some v := by
  obtain ⟨xs, ho, _⟩ := h
  have h1 := ho.1
  exact ⟨xs[j]'(by omega), by rw [ho.cellAt j (by omega), List.getElem?_eq_getElem]⟩
theorem MarkT.frozen {T : TypeId} {w wr : World} {base g n cap j : Nat} {tgt : List Value} (h : MarkT T w wr base (some ⟨g, 0, none⟩) n cap tgt j) (i : Nat) : wr.frozen? ⟨g, i, none⟩ = false := by
  obtain ⟨xs, ho, _⟩ := h
  exact ho.frozenAt i
theorem MarkT.later {T : TypeId} {w wr wr' : World} {base n cap j : Nat} {a : Option Addr} {tgt : List Value} (h : MarkT T w wr base a n cap tgt j) (hb : Below wr.heap.size wr wr') : MarkT T w wr' base a n cap tgt j := by
  obtain ⟨xs, ho, ht, hr, hl⟩ := h
  exact ⟨xs, owns_later ho hb, ht, only_trans hr ⟨hb.os, hb.tape, hb.output, hb.size, fun k hk _ => hb.block k hk⟩, hl⟩
theorem MarkT.store {T : TypeId} {w wr : World} {base g n cap j : Nat} {tgt : List Value} {u : Value} (h : MarkT T w wr base (some ⟨g, 0, none⟩) n cap tgt j) (hj : j < n) (hu : tgt[j]? = some u) :
    MarkT T w (wr.setCell ⟨g, j, none⟩ u) base (some ⟨g, 0, none⟩) n cap tgt (j + 1) := by
  obtain ⟨xs, ho, ht, hr, hl⟩ := h
  have h1 := ho.1
  have hs := ho.stored j u
  obtain ⟨hu1, hu2⟩ := List.getElem?_eq_some_iff.1 hu
  refine ⟨_, hs.1, ?_, only_trans hr hs.2, hl⟩
  rw [← hu2]
  exact fill_step (by omega) ht hu1
theorem MarkT.done {T : TypeId} {w wr : World} {base : Nat} {a : Option Addr} {n cap j : Nat} {tgt : List Value} (k : Nat) (h : MarkT T w wr base a n cap tgt j) (hj : ¬ j < n) : MarkedT T w base a n cap k tgt (.returned (.int .i64 ((k + n : Nat) : Int))) wr := by
  obtain ⟨xs, ho, ht, hr, hl⟩ := h
  have h1 := ho.1
  have : xs = tgt := fill_done (by omega) ht (by omega)
  subst this
  exact ⟨rfl, ho, hr⟩
set_option maxRecDepth 20000 in
set_option maxHeartbeats 1000000 in
theorem markStringS_any (k n cap base : Nat) (a : Option Addr) (xs : List Value) (w : World) (ho : w.ownsRow base 9 1 (.slice a n cap) n xs) (hk : 1 ≤ k) (hn : k + n ≤ 10000000) :
    Calls Tryd.prog 14 #[.slice a n cap, .int .i64 (k : Nat)] w (MarkedT 9 w base a n cap k (strVals (markStrs k n))) := by
  have HM0 := Lib.hid (MarkT.start (tgt := strVals (markStrs k n)) ho (by simp [strVals, markStrs]))
  have HAT := Lib.hid (fun j (h : j < n) => markStrs_at (k := k) h)
  have HMT := Lib.hid (fun K h1 h2 W => markText_all K h1 h2 W)
  clear ho
  generalize strVals (markStrs k n) = tgt at *
  go_enter Tryd.func14, Tryd.ntmps14
  go_wp2_with fail
  go_loopw [1, 5] (fun c i wr => ∃ j : Nat, j ≤ n ∧ i = .int .i64 j ∧ c = .int .i64 ((k + j : Nat) : Int) ∧ MarkT 9 w wr base a n cap tgt j) (fun _ i _ => n - (intOf i).toNat)
  case atStart => exact ⟨0, Nat.zero_le _, rfl, rfl, HM0.out⟩
  case round =>
    clear HM0
    obtain ⟨j, hj, rfl, rfl, hm⟩ := hrel
    have HM := Lib.hid hm
    clear hm
    by_cases hlt : j < n
    · obtain ⟨g, rfl⟩ := HM.out.addr hlt
      have HC := Lib.hid (HMT.out (k + j) (by omega) (by omega))
      have HU := Lib.hid (HAT.out j hlt)
      generalize markS (k + j) = mk at *
      go_wp2_with fail
      refine (HC.out _).mono ?_
      rintro e w2 ⟨rfl, hb2⟩
      have hm2 := HM.out.later hb2
      obtain ⟨v, hv⟩ := hm2.cell hlt
      have hz := hm2.frozen j
      have HS := Lib.hid (hm2.store hlt HU.out)
      clear hm2 hb2
      go_wp2_with fail
      go_roundw
      case rel => exact ⟨j + 1, by omega, by go_num, by go_num, HS.out⟩
      case measure => simp [intOf]; omega
    · have HS := Lib.hid (HM.out.done k hlt)
      obtain rfl : j = n := by omega
      go_wp2_with fail
      go_ret
      exact HS.out
set_option maxRecDepth 20000 in
set_option maxHeartbeats 1000000 in
theorem heldStringS_any (k n cap : Nat) (a : Option Addr) (w : World) (hl : StrsIn w a (markStrs k n)) (hk : 1 ≤ k) (hn : k + n ≤ 10000000) :
    Calls Tryd.prog 15 #[.slice a n cap, .int .i64 (k : Nat)] w fun e w' => e = .returned (.int .i64 ((k + n : Nat) : Int)) ∧ Below w.heap.size w w' := by
  have HMT := Lib.hid (fun K h1 h2 W => markText_all K h1 h2 W)
  have HL := Lib.hid hl
  clear hl
  go_enter Tryd.func15, Tryd.ntmps15
  go_wp2_with fail
  go_loopw [1, 5] (fun c i wr => ∃ j : Nat, j ≤ n ∧ i = .int .i64 j ∧ c = .int .i64 ((k + j : Nat) : Int) ∧ Below w.heap.size w wr) (fun _ i _ => n - (intOf i).toNat)
  case atStart => exact ⟨0, Nat.zero_le _, rfl, rfl, Below.refl _ _⟩
  case round =>
    obtain ⟨j, hj, rfl, rfl, hbel⟩ := hrel
    by_cases hlt : j < n
    · obtain ⟨b, o, rfl, hb, hc⟩ := (HL.out.later hbel).cell (i := j) (by rw [markStrs_len]; exact hlt)
      have g1 := hc j (by rw [markStrs_len]; exact hlt)
      rw [markStrs_nth hlt] at g1
      have q1 : ∀ x', (wide wr x').cell? ⟨b, o + j, none⟩ = some (.string (markS (k + j))) := wide_cell g1
      have HC := Lib.hid (HMT.out (k + j) (by omega) (by omega))
      clear hc g1
      generalize markS (k + j) = mk at *
      go_wp2_with fail
      refine region_wide (by kernel_rfl) (by kernel_rfl) ?_
      repeat (quiet_step ((go_at_call 33; refine (HC.out _).mono ?_; rintro e w2 ⟨rfl, hb2⟩; exact ⟨rfl, wide_next hb2⟩)))
      refine wpQuiet_nil ?_
      rintro w4 ⟨x4, rfl⟩
      have hbel2 := Below.now hbel (below_wide wr x4)
      clear hbel q1
      go_wp2_with fail
      go_roundw
      case rel => exact ⟨j + 1, by omega, by go_num, by go_num, hbel2⟩
      case measure => simp [intOf]; omega
    · obtain rfl : j = n := by omega
      go_wp2_with fail
      go_ret
      exact ⟨rfl, hbel⟩
end Go.Proofs.YtlldhmoiahcfpaaDoor
