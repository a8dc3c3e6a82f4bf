/-
  Marks of the rules of a system, whatever their number.
-/
import Derived.Test.YtlldhmoiahcfpaaDoorGrp42
import Derived.Test.YtlldhmoiahcfpaaDoorGrp43
import Derived.Test.YtlldhmoiahcfpaaDoorGrp44
namespace Go.Proofs.YtlldhmoiahcfpaaDoor
open Go.RowKit
set_option linter.unusedVariables false
/-- what toTable hands back -/
def RetTab (T : TypeId) (n : Int) (l : List Int) (w : World) (e : Ending) (w' : World) : Prop :=
  ∃ a cap, e = .returned (.agg #[.int .i64 n, .slice a l.length cap]) ∧ w'.ownsRow w.heap.size T 1 (.slice a l.length cap) l.length (l.map (Value.int .i64)) ∧ Below w.heap.size w w'
theorem owns_only {w w' : World} {base : Nat} {T : TypeId} {size : Nat} {a a' : Option Addr} {n m cap : Nat} {xs : List Value} (h : w.ownsRow base T size (.slice a n cap) m xs) (hr : OnlyRow w a' w')
    (hne : ∀ x y, a = some x → a' = some y → x.block ≠ y.block) : w'.ownsRow base T size (.slice a n cap) m xs := by
  refine h.kept hr ?_
  cases a with
  | none => left; rfl
  | some x =>
    right
    cases a' with
    | none => simp [Value.ownBlock]
    | some y => simpa [Value.ownBlock] using hne x y rfl rfl
theorem below_only {B : Nat} {w w1 w' : World} {a : Option Addr} (h : Below B w w1) (hr : OnlyRow w1 a w') (hB : B ≤ w1.heap.size) (hlo : ∀ x, a = some x → B ≤ x.block) : Below B w w' :=
  h.grown hr hB (fun k hk => by
    cases a with
    | none => simp [Value.ownBlock] at hk
    | some x => simp only [Value.ownBlock, Option.some.injEq] at hk; rw [← hk]; exact hlo x rfl)
theorem owns_range {w : World} {base : Nat} {T : TypeId} {size : Nat} {a : Option Addr} {n m cap : Nat} {xs : List Value} (h : w.ownsRow base T size (.slice a n cap) m xs) : ∀ x, a = some x → base ≤ x.block ∧ x.block < w.heap.size := by
  rintro x rfl
  exact h.lt x.block rfl
end Go.Proofs.YtlldhmoiahcfpaaDoor
namespace Go.Proofs.YtlldhmoiahcfpaaDoor
open Go.RowKit
set_option linter.unusedVariables false
/-- a row of rules that is being marked -/
def MarkR (w : World) (base : Nat) (a : Option Addr) (n cap : Nat) (wr : World) : Prop := ∃ xs, wr.ownsRow base 63 2 (.slice a n cap) n xs ∧ OnlyRow w a wr
theorem MarkR.start {w : World} {base : Nat} {a : Option Addr} {n cap : Nat} {xs : List Value} (h : w.ownsRow base 63 2 (.slice a n cap) n xs) : MarkR w base a n cap w := ⟨xs, h, ⟨rfl, rfl, rfl, Nat.le_refl _, fun _ _ _ => rfl⟩⟩
theorem MarkR.addr {w wr : World} {base : Nat} {a : Option Addr} {n cap j : Nat} (h : MarkR w base a n cap wr) (hj : j < n) : ∃ g, a = some ⟨g, 0, none⟩ := by
  obtain ⟨xs, ho, _⟩ := h
  rcases ho.2 with ⟨hv, h0⟩ | ⟨g, cap', cur, hv, _⟩
  · omega
  · simp only [Value.slice.injEq] at hv
    exact ⟨g, hv.1⟩
theorem MarkR.cell {w wr : World} {base g n cap i : Nat} (h : MarkR w base (some ⟨g, 0, none⟩) n cap wr) (hi : i < n * 2) : ∃ v, wr.cell? ⟨g, i, none⟩ = some v := by
  obtain ⟨xs, ho, _⟩ := h
  have h1 := ho.1
  exact ⟨xs[i]'(by omega), by rw [ho.cellAt i (by omega), List.getElem?_eq_getElem]⟩
theorem MarkR.frozen {w wr : World} {base g n cap : Nat} (h : MarkR w base (some ⟨g, 0, none⟩) n cap wr) (i : Nat) : wr.frozen? ⟨g, i, none⟩ = false := by
  obtain ⟨xs, ho, _⟩ := h
  exact ho.frozenAt i
theorem MarkR.later {w wr wr' : World} {base n cap : Nat} {a : Option Addr} (h : MarkR w base a n cap wr) (hb : Below wr.heap.size wr wr') : MarkR w base a n cap wr' := by
  obtain ⟨xs, ho, hr⟩ := h
  exact ⟨xs, owns_later ho hb, only_trans hr ⟨hb.os, hb.tape, hb.output, hb.size, fun k hk _ => hb.block k hk⟩⟩
theorem MarkR.store {w wr : World} {base g n cap : Nat} (h : MarkR w base (some ⟨g, 0, none⟩) n cap wr) (i : Nat) (u : Value) : MarkR w base (some ⟨g, 0, none⟩) n cap (wr.setCell ⟨g, i, none⟩ u) := by
  obtain ⟨xs, ho, hr⟩ := h
  have hs := ho.stored i u
  exact ⟨_, hs.1, only_trans hr hs.2⟩
set_option maxRecDepth 20000 in
set_option maxHeartbeats 1000000 in
theorem markRuleS_any (k n cap base : Nat) (a : Option Addr) (xs : List Value) (w : World) (ho : w.ownsRow base 63 2 (.slice a n cap) n xs) (hk : 1 ≤ k) (hn : k + n * 2 ≤ 10000000) :
    Calls Tryd.prog 32 #[.slice a n cap, .int .i64 (k : Nat)] w fun e w' => e = .returned (.int .i64 ((k + n * 2 : Nat) : Int)) ∧ OnlyRow w a w' := by
  have HM0 := Lib.hid (MarkR.start ho)
  have HMT := Lib.hid (fun K h1 h2 W => markText_all K h1 h2 W)
  clear ho
  go_enter Tryd.func32, Tryd.ntmps32
  go_wp2_with fail
  go_loopw [1, 5] (fun c i wr => ∃ j : Nat, j ≤ n ∧ i = .int .i64 j ∧ c = .int .i64 ((k + j * 2 : Nat) : Int) ∧ MarkR w base a n cap wr) (fun _ i _ => n - (intOf i).toNat)
  case atStart => exact ⟨0, Nat.zero_le _, rfl, rfl, HM0.out⟩
  case round =>
    clear HM0
    obtain ⟨j, hj, rfl, rfl, hm⟩ := hrel
    have HM := Lib.hid hm
    clear hm
    by_cases hlt : j < n
    · obtain ⟨g, rfl⟩ := HM.out.addr hlt
      have HC := Lib.hid (HMT.out (k + j * 2) (by omega) (by omega))
      have HC2 := Lib.hid (HMT.out (k + j * 2 + 1) (by omega) (by omega))
      have e2 : ((k + j * 2 + 1 : Nat) : Int) = ((k + j * 2 : Nat) : Int) + 1 := by omega
      rw [e2] at HC2
      clear e2
      generalize markS (k + j * 2) = mk at *
      generalize markS (k + j * 2 + 1) = mk2 at *
      go_wp2_with fail
      refine (HC.out _).mono ?_
      rintro e w2 ⟨rfl, hb2⟩
      have hm2 := HM.out.later hb2
      obtain ⟨v, hv⟩ := hm2.cell (i := j * 2) (by omega)
      have hz := hm2.frozen (j * 2)
      have HS := Lib.hid (hm2.store (j * 2) (.string mk))
      clear hm2 hb2
      go_wp2_with fail
      clear hv hz
      generalize w2.setCell ⟨g, j * 2, none⟩ (.string mk) = w3 at *
      refine (HC2.out _).mono ?_
      rintro e w4 ⟨rfl, hb4⟩
      have hm4 := HS.out.later hb4
      obtain ⟨v4, hv4⟩ := hm4.cell (i := j * 2 + 1) (by omega)
      have hz4 := hm4.frozen (j * 2 + 1)
      have HS4 := Lib.hid (hm4.store (j * 2 + 1) (.string mk2))
      clear hm4 hb4
      go_wp2_with fail
      go_roundw
      case rel => exact ⟨j + 1, by omega, by go_num, by go_num, HS4.out⟩
      case measure => simp [intOf]; omega
    · obtain rfl : j = n := by omega
      obtain ⟨ys, ho, hr⟩ := HM.out
      have HR := Lib.hid hr
      clear ho hr
      go_wp2_with fail
      go_ret
      exact ⟨rfl, HR.out⟩
set_option maxHeartbeats 400000 in
theorem markSystem_any (n : Int) (len k cap base : Nat) (a : Option Addr) (xs : List Value) (w : World) (ho : w.ownsRow base 63 2 (.slice a len cap) len xs) (hk : 1 ≤ k) (hn : k + len * 2 ≤ 10000000) :
    Calls Tryd.prog 13 #[.agg #[.int .i64 n, .slice a len cap], .int .i64 (k : Nat)] w fun e w' => e = .returned (.int .i64 ((k + len * 2 : Nat) : Int)) ∧ OnlyRow w a w' := by
  have HO := Lib.hid ho
  clear ho
  go_enter Tryd.func13, Tryd.ntmps13
  go_wp2_with fail
  refine (markRuleS_any k len cap base a xs _ (HO.out.alloc _) hk hn).mono ?_
  rintro e w2 ⟨rfl, hr⟩
  have hr2 : OnlyRow w a w2 := only_trans (World.grownBy_alloc w (.cells #[.int .i64 n, .slice a len cap] 29) _) hr
  clear hr
  go_wp2_with fail
  go_ret
  exact ⟨rfl, hr2⟩
end Go.Proofs.YtlldhmoiahcfpaaDoor
