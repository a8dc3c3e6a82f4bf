/-
  The laws' own helpers over tables.
-/
import Derived.Test.YtkkffaiacipibaaLawHelp
namespace Go.Proofs.Ytkkffaiacipibaa
open Go.RowKit
set_option linter.unusedVariables false
/-- what toTable hands back -/
def RetTab (T : TypeId) (n : Int) (l : List Int) (w : World) (e : Ending) (w' : World) : Prop :=
  ∃ a cap, e = .returned (.agg #[.int .i64 n, .slice a l.length cap]) ∧ w'.ownsRow w.heap.size T 1 (.slice a l.length cap) l.length (l.map (Value.int .i64)) ∧ Below w.heap.size w w'
set_option maxHeartbeats 400000 in
theorem toTable_any (n : Int) (l : List Int) (a : Option Addr) (cap : Nat) (w : World) (hl : IntsIn w a l) (hlen : l.length ≤ 2097152) :
    Calls Try.prog 19 #[.agg #[.int .i64 n, .slice a l.length cap]] w (RetTab 3 n l w) := by
  have HL := Lib.hid hl
  clear hl
  go_enter Try.func19, Try.ntmps19
  go_wp2_with fail
  refine (toIntS_any l a cap _ (HL.out.later (by repeat (first | exact Below.refl _ _ | refine Below.setCell ?_ (by simp) _ | refine Below.alloc ?_ (by simp; try omega) _))) hlen).mono ?_
  rintro e w2 ⟨a2, c2, rfl, ho, hb2⟩
  have hs := hb2.size
  have hsz : w.heap.size + 1 + 1 < w2.heap.size := by simp at hs; omega
  have h10 : w2.cell? ⟨w.heap.size + 1, 0, none⟩ = some (.int .i64 0) := by rw [hb2.cell (by simp; try omega)]; simp [go_sem]
  have h11 : w2.cell? ⟨w.heap.size + 1, 1, none⟩ = some (.slice none 0 0) := by rw [hb2.cell (by simp; try omega)]; simp [go_sem]
  have h20 : w2.cell? ⟨w.heap.size + 1 + 1, 0, none⟩ = some (.int .i64 n) := by rw [hb2.cell (by simp; try omega)]; simp [go_sem]
  have h21 : w2.cell? ⟨w.heap.size + 1 + 1, 1, none⟩ = some (.slice none 0 0) := by rw [hb2.cell (by simp; try omega)]; simp [go_sem]
  have f10 : w2.frozen? ⟨w.heap.size + 1, 0, none⟩ = false := by rw [hb2.frozen (by simp; try omega)]; simp [go_sem]
  have f11 : w2.frozen? ⟨w.heap.size + 1, 1, none⟩ = false := by rw [hb2.frozen (by simp; try omega)]; simp [go_sem]
  have f20 : w2.frozen? ⟨w.heap.size + 1 + 1, 0, none⟩ = false := by rw [hb2.frozen (by simp; try omega)]; simp [go_sem]
  have f21 : w2.frozen? ⟨w.heap.size + 1 + 1, 1, none⟩ = false := by rw [hb2.frozen (by simp; try omega)]; simp [go_sem]
  have hbel : Below w.heap.size w w2 := by
    refine Below.trans ?_ (hb2.mono (by simp; try omega))
    repeat (first | exact Below.refl _ _ | refine Below.alloc ?_ (by simp; try omega) _)
  have ho' : w2.ownsRow (w.heap.size + 1 + 1 + 1) 3 1 (.slice a2 l.length c2) l.length (l.map (Value.int .i64)) := by simpa using ho
  clear ho hb2 hs
  have HO := Lib.hid ho'
  clear ho'
  go_wp2_with fail
  refine bodyPost_ret (v := .agg #[.int .i64 n, .slice a2 l.length c2]) ?_ rfl ?_
  · simp [results, Try.results19, go_sem, h10, h11]
  · refine ⟨_, _, rfl, ?_, ?_⟩
    · exact owns_mono (ownsRow_setCell_below (ownsRow_setCell_below (ownsRow_setCell_below HO.out (by simp; try omega) _) (by simp; try omega) _) (by simp; try omega) _) (by omega)
    · exact ((hbel.setCell (by simp; try omega) _).setCell (by simp; try omega) _).setCell (by simp; try omega) _
set_option maxHeartbeats 400000 in
theorem szTable_any (n : Int) (len cap : Nat) (a : Option Addr) (left : Int) (w : World) (hn : len ≤ 9223372036854775807) (h0 : 0 ≤ left) (h1 : left ≤ 1048576) :
    Calls Try.prog 17 #[.agg #[.int .i64 n, .slice a len cap], .int .i64 left] w fun e w' => e = .returned (.int .i64 (if left < len then -1 else left - len)) ∧ Below w.heap.size w w' := by
  have HC := fun w => Lib.hid (szIntS_any len cap a left w hn h0 h1)
  by_cases hlt : left < (len : Int)
  · rw [if_pos hlt] at HC
    rw [if_pos hlt]
    go_enter Try.func17, Try.ntmps17
    go_wp2_with (go_at_call 53; refine (HC _).out.mono ?_; rintro e w' ⟨rfl, rfl⟩)
    go_ret
    exact ⟨rfl, (Below.refl _ _).alloc (Nat.le_refl _) _⟩
  · rw [if_neg hlt] at HC
    rw [if_neg hlt]
    go_enter Try.func17, Try.ntmps17
    go_wp2_with (go_at_call 53; refine (HC _).out.mono ?_; rintro e w' ⟨rfl, rfl⟩)
    go_ret
    exact ⟨rfl, (Below.refl _ _).alloc (Nat.le_refl _) _⟩
set_option maxHeartbeats 400000 in
theorem eqTable_same (n : Int) (l : List Int) (a1 a2 : Option Addr) (c1 c2 : Nat) (w : World) (h1 : IntsIn w a1 l) (h2 : IntsIn w a2 l) (hlen : l.length ≤ 2 ^ 47) :
    Calls Try.prog 21 #[.agg #[.int .i64 n, .slice a1 l.length c1], .agg #[.int .i64 n, .slice a2 l.length c2]] w fun e w' => e = .returned (.bool true) ∧ Below w.heap.size w w' := by
  have H1 := Lib.hid h1
  have H2 := Lib.hid h2
  clear h1 h2
  go_enter Try.func21, Try.ntmps21
  go_wp2_with fail
  have hbel : Below w.heap.size w ((w.alloc (.cells #[.int .i64 n, .slice a1 l.length c1] 27)).alloc (.cells #[.int .i64 n, .slice a2 l.length c2] 27)) := ((Below.refl _ _).alloc (Nat.le_refl _) _).alloc (by simp) _
  refine (eqIntS_same l a1 a2 c1 c2 _ (H1.out.later hbel) (H2.out.later hbel) hlen).mono ?_
  rintro e w2 ⟨rfl, hb2⟩
  have hbel2 := Below.now hbel hb2
  clear hbel hb2
  go_wp2_with fail
  go_ret
  exact ⟨rfl, hbel2⟩
set_option maxHeartbeats 400000 in
theorem markTable_any (n : Int) (len k cap base : Nat) (a : Option Addr) (xs : List Value) (w : World) (ho : w.ownsRow base 3 1 (.slice a len cap) len xs) (hk : k ≤ 10000000) (hn : len ≤ 10000000) :
    Calls Try.prog 27 #[.agg #[.int .i64 n, .slice a len cap], .int .i64 (k : Nat)] w fun e w' => e = .returned (.int .i64 ((k + len : Nat) : Int)) ∧ OnlyRow w a w' := by
  have HO := Lib.hid ho
  clear ho
  go_enter Try.func27, Try.ntmps27
  go_wp2_with fail
  refine (markIntS_any k len cap base a xs _ (HO.out.alloc _) hk hn).mono ?_
  rintro e w2 ⟨rfl, ho, hr⟩
  have hr2 : OnlyRow w a w2 := only_trans (World.grownBy_alloc w (.cells #[.int .i64 n, .slice a len cap] 27) _) hr
  clear ho hr
  go_wp2_with fail
  go_ret
  exact ⟨rfl, hr2⟩
theorem owns_only {w w' : World} {base : Nat} {T : TypeId} {size : Nat} {a a' : Option Addr} {n m cap : Nat} {xs : List Value} (h : w.ownsRow base T size (.slice a n cap) m xs) (hr : OnlyRow w a' w')
    (hne : ∀ x y, a = some x → a' = some y → x.block ≠ y.block) : w'.ownsRow base T size (.slice a n cap) m xs := by
  refine h.kept hr ?_
  cases a with
  | none => left; rfl
  | some x =>
    right
    cases a' with
    | none => simp [Value.ownBlock]
    | some y => simpa [Value.ownBlock] using hne x y rfl rfl
theorem below_only {B : Nat} {w w1 w' : World} {a : Option Addr} (h : Below B w w1) (hr : OnlyRow w1 a w') (hB : B ≤ w1.heap.size) (hlo : ∀ x, a = some x → B ≤ x.block) : Below B w w' :=
  h.grown hr hB (fun k hk => by
    cases a with
    | none => simp [Value.ownBlock] at hk
    | some x => simp only [Value.ownBlock, Option.some.injEq] at hk; rw [← hk]; exact hlo x rfl)
theorem owns_range {w : World} {base : Nat} {T : TypeId} {size : Nat} {a : Option Addr} {n m cap : Nat} {xs : List Value} (h : w.ownsRow base T size (.slice a n cap) m xs) : ∀ x, a = some x → base ≤ x.block ∧ x.block < w.heap.size := by
  rintro x rfl
  exact h.lt x.block rfl
end Go.Proofs.Ytkkffaiacipibaa
