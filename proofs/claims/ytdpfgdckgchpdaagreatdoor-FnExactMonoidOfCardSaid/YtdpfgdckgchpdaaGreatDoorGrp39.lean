/-
  Marks of the rules of a system, whatever their number.
-/
import Derived.Test.YtdpfgdckgchpdaaGreatDoorGrp13
import Derived.Test.YtdpfgdckgchpdaaGreatDoorGrp05
import Derived.Test.YtdpfgdckgchpdaaGreatDoorGrp07
import Derived.Test.YtdpfgdckgchpdaaGreatDoorGrp26
namespace Go.Proofs.YtdpfgdckgchpdaaGreatDoor
open Go.RowKit
set_option linter.unusedVariables false
set_option maxHeartbeats 400000 in
/-- eqIntS of two slices that hold the same numbers -/
theorem eqIntS_same (l : List Int) (a1 a2 : Option Addr) (c1 c2 : Nat) (w : World) (h1 : IntsIn w a1 l) (h2 : IntsIn w a2 l) (hlen : l.length ≤ 2 ^ 47) :
    Calls Tryz.prog 67 #[.slice a1 l.length c1, .slice a2 l.length c2] w fun e w' => e = .returned (.bool true) ∧ Below w.heap.size w w' := by
  go_enter Tryz.func67, Tryz.ntmps67
  go_wp2
  go_loopw [5] (fun i wr => ∃ j : Nat, j ≤ l.length ∧ i = .int .i64 j ∧ Below w.heap.size w wr) (fun i _ => l.length - (intOf i).toNat)
  case atStart => exact ⟨0, Nat.zero_le _, rfl, Below.refl _ _⟩
  case round =>
    obtain ⟨j, hj, rfl, hbel⟩ := hrel
    by_cases hlt : j < l.length
    · obtain ⟨b1, o1, rfl, hb1, hc1⟩ := (h1.later hbel).cell hlt
      obtain ⟨b2, o2, rfl, hb2, hc2⟩ := (h2.later hbel).cell hlt
      have g1 := hc1 j hlt
      have g2 := hc2 j hlt
      clear hc1 hc2
      go_wp2
      go_quiet (fail)
      have hbel2 : Below w.heap.size w (wr.drewN nq) := below_drewN hbel _
      clear hbel g1 g2
      go_wp2
      go_roundw
      case rel => exact ⟨j + 1, by omega, by go_num, hbel2⟩
      case measure => simp [intOf]; omega
    · go_wp2
      go_ret
      exact ⟨rfl, hbel⟩
/-- marks: the numbers from k on -/
def markVals (k : Nat) (n : Nat) : List Int := (List.range n).map fun (i : Nat) => ((k + i : Nat) : Int)
theorem markVals_len (k n : Nat) : (markVals k n).length = n := by simp [markVals]
theorem markVals_at {k n j : Nat} (h : j < n) : ((markVals k n).map (Value.int .i64))[j]? = some (.int .i64 ((k + j : Nat) : Int)) := by simp [markVals, h]
theorem markVals_nth {k n j : Nat} (h : j < n) : nthZ (markVals k n) j = ((k + j : Nat) : Int) := by rw [nthZ_lt (by simpa [markVals] using h)]; simp [markVals]
/-- only the row of a slice has turned -/
def OnlyRow (w : World) (a : Option Addr) (w' : World) : Prop := w.grownBy w' (Value.slice a 0 0).ownBlock
/-- what a function leaves that marks a slice -/
def Marked (T : TypeId) (w : World) (base : Nat) (a : Option Addr) (n cap k : Nat) (e : Ending) (w' : World) : Prop :=
  e = .returned (.int .i64 ((k + n : Nat) : Int)) ∧ w'.ownsRow base T 1 (.slice a n cap) n ((markVals k n).map (Value.int .i64)) ∧ OnlyRow w a w'
/-- a row that is being marked -/
def Marking (T : TypeId) (w wr : World) (base : Nat) (a : Option Addr) (n cap k j : Nat) : Prop :=
  ∃ xs, wr.ownsRow base T 1 (.slice a n cap) n xs ∧ xs.take j = ((markVals k n).map (Value.int .i64)).take j ∧ OnlyRow w a wr
theorem Marking.start {T : TypeId} {w : World} {base : Nat} {a : Option Addr} {n cap k : Nat} {xs : List Value} (h : w.ownsRow base T 1 (.slice a n cap) n xs) : Marking T w w base a n cap k 0 :=
  ⟨xs, h, by simp, ⟨rfl, rfl, rfl, Nat.le_refl _, fun _ _ _ => rfl⟩⟩
theorem Marking.addr {T : TypeId} {w wr : World} {base : Nat} {a : Option Addr} {n cap k j : Nat} (h : Marking T w wr base a n cap k j) (hj : j < n) : ∃ g, a = some ⟨g, 0, none⟩ := by
  obtain ⟨xs, ho, _⟩ := h
  rcases ho.2 with ⟨hv, h0⟩ | ⟨g, cap', cur, hv, _⟩
  · omega
  · simp only [Value.slice.injEq] at hv
    exact ⟨g, hv.1⟩
theorem Marking.cell {T : TypeId} {w wr : World} {base g n cap k j : Nat} (h : Marking T w wr base (some ⟨g, 0, none⟩) n cap k j) (hj : j < n) : ∃ v, wr.cell? ⟨g, j, none⟩ = some v := by
  obtain ⟨xs, ho, _⟩ := h
  have h1 := ho.1
  exact ⟨xs[j]'(by omega), by rw [ho.cellAt j (by omega), List.getElem?_eq_getElem]⟩
theorem Marking.frozen {T : TypeId} {w wr : World} {base g n cap k j : Nat} (h : Marking T w wr base (some ⟨g, 0, none⟩) n cap k j) (i : Nat) : wr.frozen? ⟨g, i, none⟩ = false := by
  obtain ⟨xs, ho, _⟩ := h
  exact ho.frozenAt i
theorem only_trans {w w1 w2 : World} {a : Option Addr} (h : OnlyRow w a w1) (h' : OnlyRow w1 a w2) : OnlyRow w a w2 :=
  ⟨h'.os.trans h.os, h'.tape.trans h.tape, h'.output.trans h.output, Nat.le_trans h.size h'.size, fun k hk hne => (h'.block k (Nat.lt_of_lt_of_le hk h.size) hne).trans (h.block k hk hne)⟩
theorem Marking.store {T : TypeId} {w wr : World} {base g n cap k j : Nat} (h : Marking T w wr base (some ⟨g, 0, none⟩) n cap k j) (hj : j < n) :
    Marking T w (wr.setCell ⟨g, j, none⟩ (.int .i64 ((k + j : Nat) : Int))) base (some ⟨g, 0, none⟩) n cap k (j + 1) := by
  obtain ⟨xs, ho, ht, hr⟩ := h
  have h1 := ho.1
  have hs := ho.stored j (.int .i64 ((k + j : Nat) : Int))
  have hu := List.getElem?_eq_some_iff.1 (markVals_at (k := k) hj)
  obtain ⟨hu1, hu2⟩ := hu
  refine ⟨_, hs.1, ?_, only_trans hr hs.2⟩
  rw [← hu2]
  exact fill_step (by simp [markVals]; omega) ht hu1
theorem Marking.done {T : TypeId} {w wr : World} {base : Nat} {a : Option Addr} {n cap k j : Nat} (h : Marking T w wr base a n cap k j) (hj : ¬ j < n) : Marked T w base a n cap k (.returned (.int .i64 ((k + n : Nat) : Int))) wr := by
  obtain ⟨xs, ho, ht, hr⟩ := h
  have h1 := ho.1
  have : xs = (markVals k n).map (Value.int .i64) := fill_done (by simp [markVals]; omega) ht (by simp [markVals]; omega)
  subst this
  exact ⟨rfl, ho, hr⟩
set_option maxHeartbeats 400000 in
theorem markIntS_any (k n cap base : Nat) (a : Option Addr) (xs : List Value) (w : World) (ho : w.ownsRow base 3 1 (.slice a n cap) n xs) (hk : k ≤ 10000000) (hn : n ≤ 10000000) :
    Calls Tryz.prog 69 #[.slice a n cap, .int .i64 (k : Nat)] w (Marked 3 w base a n cap k) := by
  have HM := Marking.start (k := k) ho
  clear ho
  go_enter Tryz.func69, Tryz.ntmps69
  go_wp2
  go_loopw [1, 5] (fun c i wr => ∃ j : Nat, j ≤ n ∧ i = .int .i64 j ∧ c = .int .i64 ((k + j : Nat) : Int) ∧ Marking 3 w wr base a n cap k j) (fun _ i _ => n - (intOf i).toNat)
  case atStart => exact ⟨0, Nat.zero_le _, rfl, rfl, HM⟩
  case round =>
    clear HM
    obtain ⟨j, hj, rfl, rfl, HM⟩ := hrel
    by_cases hlt : j < n
    · obtain ⟨g, rfl⟩ := HM.addr hlt
      obtain ⟨v, hv⟩ := HM.cell hlt
      have hz := HM.frozen j
      have HS := Lib.hid (HM.store hlt)
      clear HM
      go_wp2
      go_roundw
      case rel => exact ⟨j + 1, by omega, by go_num, by go_num, HS.out⟩
      case measure => simp [intOf]; omega
    · have HS := Lib.hid (HM.done hlt)
      obtain rfl : j = n := by omega
      clear HM
      go_wp2
      go_ret
      exact HS.out
set_option maxHeartbeats 400000 in
theorem heldIntS_any (k n cap : Nat) (a : Option Addr) (w : World) (hl : IntsIn w a (markVals k n)) (hk : k ≤ 10000000) (hn : n ≤ 10000000) :
    Calls Tryz.prog 71 #[.slice a n cap, .int .i64 (k : Nat)] w fun e w' => e = .returned (.int .i64 ((k + n : Nat) : Int)) ∧ w = w' := by
  go_enter Tryz.func71, Tryz.ntmps71
  go_wp2
  go_loop [1, 5] (fun c i => ∃ j : Nat, j ≤ n ∧ i = .int .i64 j ∧ c = .int .i64 ((k + j : Nat) : Int)) (fun _ i => n - (intOf i).toNat)
  case atStart => exact ⟨0, Nat.zero_le _, rfl, rfl⟩
  case round =>
    obtain ⟨j, hj, rfl, rfl⟩ := hrel
    by_cases hlt : j < n
    · obtain ⟨b, o, rfl, hb, hc⟩ := hl.cell (i := j) (by rw [markVals_len]; exact hlt)
      have g1 := hc j (by rw [markVals_len]; exact hlt)
      rw [markVals_nth hlt] at g1
      clear hc hl
      go_wp2
      go_round
      case rel => exact ⟨j + 1, by omega, by go_num, by go_num⟩
      case measure => simp [intOf]; omega
    · obtain rfl : j = n := by omega
      go_wp2
      go_ret
      exact ⟨rfl, rfl⟩
end Go.Proofs.YtdpfgdckgchpdaaGreatDoor
namespace Go.Proofs.YtdpfgdckgchpdaaGreatDoor
open Go.RowKit
set_option linter.unusedVariables false
/-- the decimal digits of a number ahead of a text, by at most f steps -/
def digs : Nat → Nat → ByteArray → ByteArray
  | 0, _, s => s
  | f + 1, x, s => if x = 0 then s else digs f (x / 10) (oneC (48 + (x : Int) % 10) ++ s)
theorem digs_zero : ∀ (f : Nat) (s : ByteArray), digs f 0 s = s
  | 0, _ => rfl
  | f + 1, s => by simp [digs]
theorem digs_step {f x : Nat} {s : ByteArray} (h : 0 < x) : digs (f + 1) x s = digs f (x / 10) (oneC (48 + (x : Int) % 10) ++ s) := by simp only [digs, if_neg (show ¬ x = 0 by omega)]
/-- the mark of a number -/
def markS (K : Nat) : ByteArray := ⟨#[109]⟩ ++ digs 20 K ⟨#[]⟩
theorem oneC_len (x : Int) : (oneC x).size = 1 := rfl
set_option maxRecDepth 20000 in
set_option maxHeartbeats 1000000 in
theorem markText_all (K : Nat) (h1 : 1 ≤ K) (h9 : K ≤ 10000000) (w : World) :
    Calls Tryz.prog 70 #[.int .i64 (K : Nat)] w fun e w' => e = .returned (.string (markS K)) ∧ Below w.heap.size w w' := by
  have kc := convC
  go_enter Tryz.func70, Tryz.ntmps70
  go_wp2_with fail
  go_loopw [0, 3] (fun v s wr => ∃ (f x : Nat) (u : ByteArray), v = .int .i64 (x : Nat) ∧ s = .string u ∧ Hid (digs f x u = digs 20 K ⟨#[]⟩) ∧ x ≤ K ∧ x < 10 ^ f ∧ u.size + f = 20 ∧ Below w.heap.size w wr) (fun v _ _ => (intOf v).toNat)
  case atStart => exact ⟨20, K, ⟨#[]⟩, rfl, rfl, Lib.hid rfl, Nat.le_refl _, by omega, rfl, Below.refl _ _⟩
  case round =>
    obtain ⟨f, x, u, rfl, rfl, hd, hxk, hxf, huf, hbw⟩ := hrel
    by_cases h0 : 0 < x
    · obtain ⟨f, rfl⟩ : ∃ f', f = f' + 1 := ⟨f - 1, by cases f with | zero => simp at hxf; omega | succ f => rfl⟩
      have hx2 : x / 10 < 10 ^ f := by rw [Nat.pow_succ] at hxf; omega
      have hsum : ¬ 9223372036854775807 < (oneC (48 + (x : Int) % 10)).size + u.size := by rw [oneC_len]; omega
      have hq : ((x / 10 : Nat) : Int) = (x : Int) / 10 := by omega
      have HQ := Lib.hid hq
      have HD : Hid (digs f (x / 10) (oneC (48 + (x : Int) % 10) ++ u) = digs 20 K ⟨#[]⟩) := Lib.hid (by rw [← digs_step h0]; exact hd.out)
      have HX2 := Lib.hid hx2
      clear hq hx2 hxf
      go_wp2_with fail
      go_roundw
      case rel => exact ⟨f, x / 10, _, by rw [HQ.out], rfl, HD.out, by omega, HX2.out, by rw [ByteArray.size_append, oneC_len]; omega, hbw.alloc hbw.size _⟩
      case measure => simp [intOf]; omega
    · obtain rfl : x = 0 := by omega
      have HS : Hid (u = digs 20 K ⟨#[]⟩) := Lib.hid (by rw [← hd.out, digs_zero])
      have hsum : ¬ 9223372036854775807 < 1 + u.size := by omega
      clear hxf
      go_wp2_with fail
      go_ret
      exact ⟨ret_str (by unfold markS; rw [← HS.out]), hbw⟩
/-- the marks from k on -/
def markStrs (k n : Nat) : List ByteArray := (List.range n).map fun i => markS (k + i)
theorem markStrs_len (k n : Nat) : (markStrs k n).length = n := by simp [markStrs]
theorem markStrs_nth {k n j : Nat} (h : j < n) : nthS (markStrs k n) j = markS (k + j) := by rw [nthS_lt (by simpa [markStrs] using h)]; simp [markStrs]
theorem markStrs_at {k n j : Nat} (h : j < n) : (strVals (markStrs k n))[j]? = some (.string (markS (k + j))) := by simp [strVals, markStrs, h]
/-- a row that is being filled with what tgt says -/
def MarkT (T : TypeId) (w wr : World) (base : Nat) (a : Option Addr) (n cap : Nat) (tgt : List Value) (j : Nat) : Prop :=
  ∃ xs, wr.ownsRow base T 1 (.slice a n cap) n xs ∧ xs.take j = tgt.take j ∧ OnlyRow w a wr ∧ tgt.length = n
/-- what a function leaves that marks a slice -/
def MarkedT (T : TypeId) (w : World) (base : Nat) (a : Option Addr) (n cap k : Nat) (tgt : List Value) (e : Ending) (w' : World) : Prop :=
  e = .returned (.int .i64 ((k + n : Nat) : Int)) ∧ w'.ownsRow base T 1 (.slice a n cap) n tgt ∧ OnlyRow w a w'
theorem MarkT.start {T : TypeId} {w : World} {base : Nat} {a : Option Addr} {n cap : Nat} {xs tgt : List Value} (h : w.ownsRow base T 1 (.slice a n cap) n xs) (ht : tgt.length = n) : MarkT T w w base a n cap tgt 0 :=
  ⟨xs, h, by simp, ⟨rfl, rfl, rfl, Nat.le_refl _, fun _ _ _ => rfl⟩, ht⟩
theorem MarkT.addr {T : TypeId} {w wr : World} {base : Nat} {a : Option Addr} {n cap j : Nat} {tgt : List Value} (h : MarkT T w wr base a n cap tgt j) (hj : j < n) : ∃ g, a = some ⟨g, 0, none⟩ := by
  obtain ⟨xs, ho, _⟩ := h
  rcases ho.2 with ⟨hv, h0⟩ | ⟨g, cap', cur, hv, _⟩
  · omega
  · simp only [Value.slice.injEq] at hv
    exact ⟨g, hv.1⟩
theorem MarkT.cell {T : TypeId} {w wr : World} {base g n cap j : Nat} {tgt : List Value} (h : MarkT T w wr base (some ⟨g, 0, none⟩) n cap tgt j) (hj : j < n) : ∃ v, wr.cell? ⟨g, j, none⟩ = some v := by
  obtain ⟨xs, ho, _⟩ := h
  have h1 := ho.1
  exact ⟨xs[j]'(by omega), by rw [ho.cellAt j (by omega), List.getElem?_eq_getElem]⟩
theorem MarkT.frozen {T : TypeId} {w wr : World} {base g n cap j : Nat} {tgt : List Value} (h : MarkT T w wr base (some ⟨g, 0, none⟩) n cap tgt j) (i : Nat) : wr.frozen? ⟨g, i, none⟩ = false := by
  obtain ⟨xs, ho, _⟩ := h
  exact ho.frozenAt i
theorem MarkT.later {T : TypeId} {w wr wr' : World} {base n cap j : Nat} {a : Option Addr} {tgt : List Value} (h : MarkT T w wr base a n cap tgt j) (hb : Below wr.heap.size wr wr') : MarkT T w wr' base a n cap tgt j := by
  obtain ⟨xs, ho, ht, hr, hl⟩ := h
  exact ⟨xs, owns_later ho hb, ht, only_trans hr ⟨hb.os, hb.tape, hb.output, hb.size, fun k hk _ => hb.block k hk⟩, hl⟩
theorem MarkT.store {T : TypeId} {w wr : World} {base g n cap j : Nat} {tgt : List Value} {u : Value} (h : MarkT T w wr base (some ⟨g, 0, none⟩) n cap tgt j) (hj : j < n) (hu : tgt[j]? = some u) :
    MarkT T w (wr.setCell ⟨g, j, none⟩ u) base (some ⟨g, 0, none⟩) n cap tgt (j + 1) := by
  obtain ⟨xs, ho, ht, hr, hl⟩ := h
  have h1 := ho.1
  have hs := ho.stored j u
  obtain ⟨hu1, hu2⟩ := List.getElem?_eq_some_iff.1 hu
  refine ⟨_, hs.1, ?_, only_trans hr hs.2, hl⟩
  rw [← hu2]
  exact fill_step (by omega) ht hu1
theorem MarkT.done {T : TypeId} {w wr : World} {base : Nat} {a : Option Addr} {n cap j : Nat} {tgt : List Value} (k : Nat) (h : MarkT T w wr base a n cap tgt j) (hj : ¬ j < n) : MarkedT T w base a n cap k tgt (.returned (.int .i64 ((k + n : Nat) : Int))) wr := by
  obtain ⟨xs, ho, ht, hr, hl⟩ := h
  have h1 := ho.1
  have : xs = tgt := fill_done (by omega) ht (by omega)
  subst this
  exact ⟨rfl, ho, hr⟩
set_option maxRecDepth 20000 in
set_option maxHeartbeats 1000000 in
theorem markStringS_any (k n cap base : Nat) (a : Option Addr) (xs : List Value) (w : World) (ho : w.ownsRow base 9 1 (.slice a n cap) n xs) (hk : 1 ≤ k) (hn : k + n ≤ 10000000) :
    Calls Tryz.prog 20 #[.slice a n cap, .int .i64 (k : Nat)] w (MarkedT 9 w base a n cap k (strVals (markStrs k n))) := by
  have HM0 := Lib.hid (MarkT.start (tgt := strVals (markStrs k n)) ho (by simp [strVals, markStrs]))
  have HAT := Lib.hid (fun j (h : j < n) => markStrs_at (k := k) h)
  have HMT := Lib.hid (fun K h1 h2 W => markText_all K h1 h2 W)
  clear ho
  generalize strVals (markStrs k n) = tgt at *
  go_enter Tryz.func20, Tryz.ntmps20
  go_wp2_with fail
  go_loopw [1, 5] (fun c i wr => ∃ j : Nat, j ≤ n ∧ i = .int .i64 j ∧ c = .int .i64 ((k + j : Nat) : Int) ∧ MarkT 9 w wr base a n cap tgt j) (fun _ i _ => n - (intOf i).toNat)
  case atStart => exact ⟨0, Nat.zero_le _, rfl, rfl, HM0.out⟩
  case round =>
    clear HM0
    obtain ⟨j, hj, rfl, rfl, hm⟩ := hrel
    have HM := Lib.hid hm
    clear hm
    by_cases hlt : j < n
    · obtain ⟨g, rfl⟩ := HM.out.addr hlt
      have HC := Lib.hid (HMT.out (k + j) (by omega) (by omega))
      have HU := Lib.hid (HAT.out j hlt)
      generalize markS (k + j) = mk at *
      go_wp2_with fail
      refine (HC.out _).mono ?_
      rintro e w2 ⟨rfl, hb2⟩
      have hm2 := HM.out.later hb2
      obtain ⟨v, hv⟩ := hm2.cell hlt
      have hz := hm2.frozen j
      have HS := Lib.hid (hm2.store hlt HU.out)
      clear hm2 hb2
      go_wp2_with fail
      go_roundw
      case rel => exact ⟨j + 1, by omega, by go_num, by go_num, HS.out⟩
      case measure => simp [intOf]; omega
    · have HS := Lib.hid (HM.out.done k hlt)
      obtain rfl : j = n := by omega
      go_wp2_with fail
      go_ret
      exact HS.out
set_option maxRecDepth 20000 in
set_option maxHeartbeats 1000000 in
theorem heldStringS_any (k n cap : Nat) (a : Option Addr) (w : World) (hl : StrsIn w a (markStrs k n)) (hk : 1 ≤ k) (hn : k + n ≤ 10000000) :
    Calls Tryz.prog 22 #[.slice a n cap, .int .i64 (k : Nat)] w fun e w' => e = .returned (.int .i64 ((k + n : Nat) : Int)) ∧ Below w.heap.size w w' := by
  have HMT := Lib.hid (fun K h1 h2 W => markText_all K h1 h2 W)
  have HL := Lib.hid hl
  clear hl
  go_enter Tryz.func22, Tryz.ntmps22
  go_wp2_with fail
  go_loopw [1, 5] (fun c i wr => ∃ j : Nat, j ≤ n ∧ i = .int .i64 j ∧ c = .int .i64 ((k + j : Nat) : Int) ∧ Below w.heap.size w wr) (fun _ i _ => n - (intOf i).toNat)
  case atStart => exact ⟨0, Nat.zero_le _, rfl, rfl, Below.refl _ _⟩
  case round =>
    obtain ⟨j, hj, rfl, rfl, hbel⟩ := hrel
    by_cases hlt : j < n
    · obtain ⟨b, o, rfl, hb, hc⟩ := (HL.out.later hbel).cell (i := j) (by rw [markStrs_len]; exact hlt)
      have g1 := hc j (by rw [markStrs_len]; exact hlt)
      rw [markStrs_nth hlt] at g1
      have q1 : ∀ x', (wide wr x').cell? ⟨b, o + j, none⟩ = some (.string (markS (k + j))) := wide_cell g1
      have HC := Lib.hid (HMT.out (k + j) (by omega) (by omega))
      clear hc g1
      generalize markS (k + j) = mk at *
      go_wp2_with fail
      refine region_wide (by kernel_rfl) (by kernel_rfl) ?_
      repeat (quiet_step ((go_at_call 70; refine (HC.out _).mono ?_; rintro e w2 ⟨rfl, hb2⟩; exact ⟨rfl, wide_next hb2⟩)))
      refine wpQuiet_nil ?_
      rintro w4 ⟨x4, rfl⟩
      have hbel2 := Below.now hbel (below_wide wr x4)
      clear hbel q1
      go_wp2_with fail
      go_roundw
      case rel => exact ⟨j + 1, by omega, by go_num, by go_num, hbel2⟩
      case measure => simp [intOf]; omega
    · obtain rfl : j = n := by omega
      go_wp2_with fail
      go_ret
      exact ⟨rfl, hbel⟩
end Go.Proofs.YtdpfgdckgchpdaaGreatDoor
namespace Go.Proofs.YtdpfgdckgchpdaaGreatDoor
open Go.RowKit
set_option linter.unusedVariables false
/-- what toTable hands back -/
def RetTab (T : TypeId) (n : Int) (l : List Int) (w : World) (e : Ending) (w' : World) : Prop :=
  ∃ a cap, e = .returned (.agg #[.int .i64 n, .slice a l.length cap]) ∧ w'.ownsRow w.heap.size T 1 (.slice a l.length cap) l.length (l.map (Value.int .i64)) ∧ Below w.heap.size w w'
set_option maxHeartbeats 400000 in
theorem eqTable_same (n : Int) (l : List Int) (a1 a2 : Option Addr) (c1 c2 : Nat) (w : World) (h1 : IntsIn w a1 l) (h2 : IntsIn w a2 l) (hlen : l.length ≤ 2 ^ 47) :
    Calls Tryz.prog 16 #[.agg #[.int .i64 n, .slice a1 l.length c1], .agg #[.int .i64 n, .slice a2 l.length c2]] w fun e w' => e = .returned (.bool true) ∧ Below w.heap.size w w' := by
  have H1 := Lib.hid h1
  have H2 := Lib.hid h2
  clear h1 h2
  go_enter Tryz.func16, Tryz.ntmps16
  go_wp2_with fail
  have hbel : Below w.heap.size w ((w.alloc (.cells #[.int .i64 n, .slice a1 l.length c1] 35)).alloc (.cells #[.int .i64 n, .slice a2 l.length c2] 35)) := ((Below.refl _ _).alloc (Nat.le_refl _) _).alloc (by simp) _
  refine (eqIntS_same l a1 a2 c1 c2 _ (H1.out.later hbel) (H2.out.later hbel) hlen).mono ?_
  rintro e w2 ⟨rfl, hb2⟩
  have hbel2 := Below.now hbel hb2
  clear hbel hb2
  go_wp2_with fail
  go_ret
  exact ⟨rfl, hbel2⟩
set_option maxHeartbeats 400000 in
theorem markTable_any (n : Int) (len k cap base : Nat) (a : Option Addr) (xs : List Value) (w : World) (ho : w.ownsRow base 3 1 (.slice a len cap) len xs) (hk : k ≤ 10000000) (hn : len ≤ 10000000) :
    Calls Tryz.prog 19 #[.agg #[.int .i64 n, .slice a len cap], .int .i64 (k : Nat)] w fun e w' => e = .returned (.int .i64 ((k + len : Nat) : Int)) ∧ OnlyRow w a w' := by
  have HO := Lib.hid ho
  clear ho
  go_enter Tryz.func19, Tryz.ntmps19
  go_wp2_with fail
  refine (markIntS_any k len cap base a xs _ (HO.out.alloc _) hk hn).mono ?_
  rintro e w2 ⟨rfl, ho, hr⟩
  have hr2 : OnlyRow w a w2 := only_trans (World.grownBy_alloc w (.cells #[.int .i64 n, .slice a len cap] 35) _) hr
  clear ho hr
  go_wp2_with fail
  go_ret
  exact ⟨rfl, hr2⟩
theorem owns_only {w w' : World} {base : Nat} {T : TypeId} {size : Nat} {a a' : Option Addr} {n m cap : Nat} {xs : List Value} (h : w.ownsRow base T size (.slice a n cap) m xs) (hr : OnlyRow w a' w')
    (hne : ∀ x y, a = some x → a' = some y → x.block ≠ y.block) : w'.ownsRow base T size (.slice a n cap) m xs := by
  refine h.kept hr ?_
  cases a with
  | none => left; rfl
  | some x =>
    right
    cases a' with
    | none => simp [Value.ownBlock]
    | some y => simpa [Value.ownBlock] using hne x y rfl rfl
theorem below_only {B : Nat} {w w1 w' : World} {a : Option Addr} (h : Below B w w1) (hr : OnlyRow w1 a w') (hB : B ≤ w1.heap.size) (hlo : ∀ x, a = some x → B ≤ x.block) : Below B w w' :=
  h.grown hr hB (fun k hk => by
    cases a with
    | none => simp [Value.ownBlock] at hk
    | some x => simp only [Value.ownBlock, Option.some.injEq] at hk; rw [← hk]; exact hlo x rfl)
theorem owns_range {w : World} {base : Nat} {T : TypeId} {size : Nat} {a : Option Addr} {n m cap : Nat} {xs : List Value} (h : w.ownsRow base T size (.slice a n cap) m xs) : ∀ x, a = some x → base ≤ x.block ∧ x.block < w.heap.size := by
  rintro x rfl
  exact h.lt x.block rfl
end Go.Proofs.YtdpfgdckgchpdaaGreatDoor
namespace Go.Proofs.YtdpfgdckgchpdaaGreatDoor
open Go.RowKit
set_option linter.unusedVariables false
/-- a row of rules that is being marked -/
def MarkR (w : World) (base : Nat) (a : Option Addr) (n cap : Nat) (wr : World) : Prop := ∃ xs, wr.ownsRow base 60 2 (.slice a n cap) n xs ∧ OnlyRow w a wr
theorem MarkR.start {w : World} {base : Nat} {a : Option Addr} {n cap : Nat} {xs : List Value} (h : w.ownsRow base 60 2 (.slice a n cap) n xs) : MarkR w base a n cap w := ⟨xs, h, ⟨rfl, rfl, rfl, Nat.le_refl _, fun _ _ _ => rfl⟩⟩
theorem MarkR.addr {w wr : World} {base : Nat} {a : Option Addr} {n cap j : Nat} (h : MarkR w base a n cap wr) (hj : j < n) : ∃ g, a = some ⟨g, 0, none⟩ := by
  obtain ⟨xs, ho, _⟩ := h
  rcases ho.2 with ⟨hv, h0⟩ | ⟨g, cap', cur, hv, _⟩
  · omega
  · simp only [Value.slice.injEq] at hv
    exact ⟨g, hv.1⟩
theorem MarkR.cell {w wr : World} {base g n cap i : Nat} (h : MarkR w base (some ⟨g, 0, none⟩) n cap wr) (hi : i < n * 2) : ∃ v, wr.cell? ⟨g, i, none⟩ = some v := by
  obtain ⟨xs, ho, _⟩ := h
  have h1 := ho.1
  exact ⟨xs[i]'(by omega), by rw [ho.cellAt i (by omega), List.getElem?_eq_getElem]⟩
theorem MarkR.frozen {w wr : World} {base g n cap : Nat} (h : MarkR w base (some ⟨g, 0, none⟩) n cap wr) (i : Nat) : wr.frozen? ⟨g, i, none⟩ = false := by
  obtain ⟨xs, ho, _⟩ := h
  exact ho.frozenAt i
theorem MarkR.later {w wr wr' : World} {base n cap : Nat} {a : Option Addr} (h : MarkR w base a n cap wr) (hb : Below wr.heap.size wr wr') : MarkR w base a n cap wr' := by
  obtain ⟨xs, ho, hr⟩ := h
  exact ⟨xs, owns_later ho hb, only_trans hr ⟨hb.os, hb.tape, hb.output, hb.size, fun k hk _ => hb.block k hk⟩⟩
theorem MarkR.store {w wr : World} {base g n cap : Nat} (h : MarkR w base (some ⟨g, 0, none⟩) n cap wr) (i : Nat) (u : Value) : MarkR w base (some ⟨g, 0, none⟩) n cap (wr.setCell ⟨g, i, none⟩ u) := by
  obtain ⟨xs, ho, hr⟩ := h
  have hs := ho.stored i u
  exact ⟨_, hs.1, only_trans hr hs.2⟩
set_option maxRecDepth 20000 in
set_option maxHeartbeats 1000000 in
theorem markRuleS_any (k n cap base : Nat) (a : Option Addr) (xs : List Value) (w : World) (ho : w.ownsRow base 60 2 (.slice a n cap) n xs) (hk : 1 ≤ k) (hn : k + n * 2 ≤ 10000000) :
    Calls Tryz.prog 68 #[.slice a n cap, .int .i64 (k : Nat)] w fun e w' => e = .returned (.int .i64 ((k + n * 2 : Nat) : Int)) ∧ OnlyRow w a w' := by
  have HM0 := Lib.hid (MarkR.start ho)
  have HMT := Lib.hid (fun K h1 h2 W => markText_all K h1 h2 W)
  clear ho
  go_enter Tryz.func68, Tryz.ntmps68
  go_wp2_with fail
  go_loopw [1, 5] (fun c i wr => ∃ j : Nat, j ≤ n ∧ i = .int .i64 j ∧ c = .int .i64 ((k + j * 2 : Nat) : Int) ∧ MarkR w base a n cap wr) (fun _ i _ => n - (intOf i).toNat)
  case atStart => exact ⟨0, Nat.zero_le _, rfl, rfl, HM0.out⟩
  case round =>
    clear HM0
    obtain ⟨j, hj, rfl, rfl, hm⟩ := hrel
    have HM := Lib.hid hm
    clear hm
    by_cases hlt : j < n
    · obtain ⟨g, rfl⟩ := HM.out.addr hlt
      have HC := Lib.hid (HMT.out (k + j * 2) (by omega) (by omega))
      have HC2 := Lib.hid (HMT.out (k + j * 2 + 1) (by omega) (by omega))
      have e2 : ((k + j * 2 + 1 : Nat) : Int) = ((k + j * 2 : Nat) : Int) + 1 := by omega
      rw [e2] at HC2
      clear e2
      generalize markS (k + j * 2) = mk at *
      generalize markS (k + j * 2 + 1) = mk2 at *
      go_wp2_with fail
      refine (HC.out _).mono ?_
      rintro e w2 ⟨rfl, hb2⟩
      have hm2 := HM.out.later hb2
      obtain ⟨v, hv⟩ := hm2.cell (i := j * 2) (by omega)
      have hz := hm2.frozen (j * 2)
      have HS := Lib.hid (hm2.store (j * 2) (.string mk))
      clear hm2 hb2
      go_wp2_with fail
      clear hv hz
      generalize w2.setCell ⟨g, j * 2, none⟩ (.string mk) = w3 at *
      refine (HC2.out _).mono ?_
      rintro e w4 ⟨rfl, hb4⟩
      have hm4 := HS.out.later hb4
      obtain ⟨v4, hv4⟩ := hm4.cell (i := j * 2 + 1) (by omega)
      have hz4 := hm4.frozen (j * 2 + 1)
      have HS4 := Lib.hid (hm4.store (j * 2 + 1) (.string mk2))
      clear hm4 hb4
      go_wp2_with fail
      go_roundw
      case rel => exact ⟨j + 1, by omega, by go_num, by go_num, HS4.out⟩
      case measure => simp [intOf]; omega
    · obtain rfl : j = n := by omega
      obtain ⟨ys, ho, hr⟩ := HM.out
      have HR := Lib.hid hr
      clear ho hr
      go_wp2_with fail
      go_ret
      exact ⟨rfl, HR.out⟩
set_option maxHeartbeats 400000 in
theorem markSystem_any (n : Int) (len k cap base : Nat) (a : Option Addr) (xs : List Value) (w : World) (ho : w.ownsRow base 60 2 (.slice a len cap) len xs) (hk : 1 ≤ k) (hn : k + len * 2 ≤ 10000000) :
    Calls Tryz.prog 18 #[.agg #[.int .i64 n, .slice a len cap], .int .i64 (k : Nat)] w fun e w' => e = .returned (.int .i64 ((k + len * 2 : Nat) : Int)) ∧ OnlyRow w a w' := by
  have HO := Lib.hid ho
  clear ho
  go_enter Tryz.func18, Tryz.ntmps18
  go_wp2_with fail
  refine (markRuleS_any k len cap base a xs _ (HO.out.alloc _) hk hn).mono ?_
  rintro e w2 ⟨rfl, hr⟩
  have hr2 : OnlyRow w a w2 := only_trans (World.grownBy_alloc w (.cells #[.int .i64 n, .slice a len cap] 29) _) hr
  clear hr
  go_wp2_with fail
  go_ret
  exact ⟨rfl, hr2⟩
end Go.Proofs.YtdpfgdckgchpdaaGreatDoor
