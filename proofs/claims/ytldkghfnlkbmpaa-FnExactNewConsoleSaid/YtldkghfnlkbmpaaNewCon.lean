/-
  NewConsole of both sides, and the laws' helpers over a system of one rule.
-/
import Derived.Test.YtldkghfnlkbmpaaSortSp
import Derived.Test.YtldkghfnlkbmpaaRuleFns
namespace Go.Proofs.Ytldkghfnlkbmpaa
open Go.RowKit
set_option linter.unusedVariables false
theorem ruleAt_of_owns {W : World} {base g c : Nat} {x y : ByteArray} (h : W.ownsRow base 82 2 (.slice (some ⟨g, 0, none⟩) 1 c) 1 [.string x, .string y]) : RuleAt W g x y ∧ base ≤ g := by
  obtain ⟨_, h2⟩ := h
  rcases h2 with ⟨h2, _⟩ | ⟨g', cap, cur, hv, hb, hh, _, _, _, ht⟩
  · simp at h2
  · simp only [Value.slice.injEq, Option.some.injEq, Addr.mk.injEq] at hv
    obtain ⟨⟨rfl, _⟩, _, _⟩ := hv
    have hl : cur.toList = [.string x, .string y] ++ cur.toList.drop 2 := by
      rw [← ht]; exact (List.take_append_drop 2 cur.toList).symm
    refine ⟨⟨cur, hh, ?_, ?_⟩, hb⟩
    · rw [← Array.getElem?_toList, hl]; rfl
    · rw [← Array.getElem?_toList, hl]; rfl
theorem alloc_one (w : World) (vs : Array Value) (T : TypeId) : (w.alloc (.cells vs T)).heap[w.heap.size]? = some (.cells vs T (0, 0)) := by
  show (w.heap.push _)[w.heap.size]? = _
  exact Array.getElem?_push_size
/-- a system with its one rule, in memory of its own -/
def RetCon (w : World) (e : Ending) (w' : World) : Prop :=
  ∃ g c, e = .returned (.agg #[.int .i64 2, .slice (some ⟨g, 0, none⟩) 1 c]) ∧ w.heap.size ≤ g ∧ RuleAt w' g baL abL ∧ Below w.heap.size w w'
theorem retCon_end {w w1 w2 : World} {g c : Nat} {x y : Value} {ob o1 : Obj} (hw1 : w1 = w.alloc o1) (h1 : w1.heap.size ≤ g) (h2 : RuleAt w2 g baL abL) (hb : Below w1.heap.size w1 w2) :
    RetCon w (.returned (.agg #[.int .i64 2, .slice (some ⟨g, 0, none⟩) 1 c])) (((w2.alloc ob).setCell ⟨w.heap.size, 0, none⟩ x).setCell ⟨w.heap.size, 1, none⟩ y) := by
  subst hw1
  have zs : (w.alloc o1).heap.size = w.heap.size + 1 := by simp
  have e0 : Below w2.heap.size w2 (w2.alloc ob) := (Below.refl _ _).alloc (Nat.le_refl _) _
  have e1 := setg (w2.alloc ob) w.heap.size 0 x
  have e2 := setg ((w2.alloc ob).setCell ⟨w.heap.size, 0, none⟩ x) w.heap.size 1 y
  have z1 : ((w2.alloc ob).setCell ⟨w.heap.size, 0, none⟩ x).heap.size = (w2.alloc ob).heap.size := by simp
  have b0 : Below w.heap.size w w2 := Below.now ((Below.refl _ _).alloc (Nat.le_refl _) _) hb
  have b00 : Below w.heap.size w (w2.alloc ob) := Below.now b0 e0
  have b1 := b00.grown e1 b00.size (fun k hk => by obtain rfl := Option.some.inj hk; omega)
  have b2 := b1.grown e2 b1.size (fun k hk => by obtain rfl := Option.some.inj hk; omega)
  refine ⟨g, c, rfl, by omega, ?_, b2⟩
  obtain ⟨cur, k1, k2, k3⟩ := h2.now e0
  have hl := (h2.now e0).lt
  have hne : some g ≠ some w.heap.size := fun e => by have := Option.some.inj e; omega
  exact ⟨cur, by rw [e2.block g (by omega) hne, e1.block g hl hne]; exact k1, k2, k3⟩
set_option maxRecDepth 20000 in
set_option maxHeartbeats 1000000 in
theorem specNewConsole_any (w : World) : Calls Try.prog 12 #[] w (RetCon w) := by
  go_enter Try.func12, Try.ntmps12
  go_wp2_with fail
  have hw1 : w.alloc (.cells #[.int .i64 0, .slice none 0 0] 24) = w.alloc (.cells #[.int .i64 0, .slice none 0 0] 24) := rfl
  have hk : ∀ W, Below (w.alloc (.cells #[.int .i64 0, .slice none 0 0] 24)).heap.size (w.alloc (.cells #[.int .i64 0, .slice none 0 0] 24)) W → W.heap[w.heap.size]? = some (.cells #[.int .i64 0, .slice none 0 0] 24 (0, 0)) := fun W hW => by
    rw [hW.block _ (by simp)]
    exact alloc_one w _ _
  have HK := Lib.hid hk
  have HW := Lib.hid hw1
  clear hk hw1
  go_wp2_with (go_at_call 38; refine (specSorting2 _).mono ?_; rintro e w2 ⟨g, c, rfl, hown, hb⟩; have R := Lib.hid (ruleAt_of_owns hown); have B := Lib.hid hb; have s0 : ∀ ob, (w2.alloc ob).heap[w.heap.size]? = _ := fun ob => HK.out _ (B.out.alloc B.out.size ob); have t0 := fun ob => (cells_of (s0 ob)).1; have t1 := fun ob => (cells_of (s0 ob)).2.1; have t2 := fun ob => (cells_of (s0 ob)).2.2.1; have t3 := fun ob => (cells_of (s0 ob)).2.2.2; clear s0 hown hb)
  exact bodyPost_ret (v := .agg #[.int .i64 2, .slice (some ⟨g, 0, none⟩) 1 c]) (by simp [results, Try.results12, go_sem, t0, t1]) rfl (retCon_end rfl R.out.2 R.out.1 B.out)
set_option maxRecDepth 20000 in
set_option maxHeartbeats 1000000 in
theorem implNewConsole_any (w : World) : Calls Try.prog 13 #[] w (RetCon w) := by
  go_enter Try.func13, Try.ntmps13
  go_wp2_with fail
  have hw1 : w.alloc (.cells #[.int .i64 0, .slice none 0 0] 24) = w.alloc (.cells #[.int .i64 0, .slice none 0 0] 24) := rfl
  have hk : ∀ W, Below (w.alloc (.cells #[.int .i64 0, .slice none 0 0] 24)).heap.size (w.alloc (.cells #[.int .i64 0, .slice none 0 0] 24)) W → W.heap[w.heap.size]? = some (.cells #[.int .i64 0, .slice none 0 0] 24 (0, 0)) := fun W hW => by
    rw [hW.block _ (by simp)]
    exact alloc_one w _ _
  have HK := Lib.hid hk
  have HW := Lib.hid hw1
  clear hk hw1
  go_wp2_with (go_at_call 39; refine (implSorting2 _).mono ?_; rintro e w2 ⟨g, c, rfl, hown, hb⟩; have R := Lib.hid (ruleAt_of_owns hown); have B := Lib.hid hb; have s0 : ∀ ob, (w2.alloc ob).heap[w.heap.size]? = _ := fun ob => HK.out _ (B.out.alloc B.out.size ob); have t0 := fun ob => (cells_of (s0 ob)).1; have t1 := fun ob => (cells_of (s0 ob)).2.1; have t2 := fun ob => (cells_of (s0 ob)).2.2.1; have t3 := fun ob => (cells_of (s0 ob)).2.2.2; clear s0 hown hb)
  exact bodyPost_ret (v := .agg #[.int .i64 2, .slice (some ⟨g, 0, none⟩) 1 c]) (by simp [results, Try.results13, go_sem, t0, t1]) rfl (retCon_end rfl R.out.2 R.out.1 B.out)
theorem eqSystem_one (x y : ByteArray) (g1 g2 c1 c2 : Nat) (w : World) (h1 : RuleAt w g1 x y) (h2 : RuleAt w g2 x y) :
    Calls Try.prog 14 #[.agg #[.int .i64 2, .slice (some ⟨g1, 0, none⟩) 1 c1], .agg #[.int .i64 2, .slice (some ⟨g2, 0, none⟩) 1 c2]] w fun e w' => e = .returned (.bool true) ∧ Below w.heap.size w w' := by
  have H1 := Lib.hid h1
  have H2 := Lib.hid h2
  clear h1 h2
  go_enter Try.func14, Try.ntmps14
  go_wp2_with (go_at_call 40; refine (eqRuleS_one x y g1 g2 c1 c2 _ (H1.out.now (by repeat (first | exact Below.refl _ _ | refine Below.alloc ?_ (by simp; try omega) _))) (H2.out.now (by repeat (first | exact Below.refl _ _ | refine Below.alloc ?_ (by simp; try omega) _)))).mono ?_; rintro e w2 ⟨rfl, hb2⟩; have B2 := Lib.hid hb2; clear hb2)
  go_ret
  exact ⟨rfl, Below.now (by repeat (first | exact Below.refl _ _ | refine Below.alloc ?_ (by simp; try omega) _)) B2.out⟩
theorem markedR_below {w w1 w' : World} {g : Nat} {a b : ByteArray} (h : Below w.heap.size w w1) (hm : MarkedR w1 g a b w') : MarkedR w g a b w' :=
  ⟨⟨hm.1.os.trans h.os, hm.1.tape.trans h.tape, hm.1.output.trans h.output, Nat.le_trans h.size hm.1.size, fun k hk hne => by rw [hm.1.block k (Nat.lt_of_lt_of_le hk h.size) hne, h.block k hk]⟩, hm.2⟩
theorem markSystem_one (x y : ByteArray) (g c : Nat) (w : World) (h1 : RuleAt w g x y) :
    Calls Try.prog 15 #[.agg #[.int .i64 2, .slice (some ⟨g, 0, none⟩) 1 c], .int .i64 1] w fun e w' => e = .returned (.int .i64 3) ∧ MarkedR w g (markW 1) (markW 2) w' := by
  have H1 := Lib.hid h1
  clear h1
  go_enter Try.func15, Try.ntmps15
  go_wp2_with (go_at_call 41; refine (markRuleS_one g c x y _ (H1.out.now (by repeat (first | exact Below.refl _ _ | refine Below.alloc ?_ (by simp; try omega) _)))).mono ?_; rintro e w2 ⟨rfl, hb2⟩; have B2 := Lib.hid hb2; clear hb2)
  go_ret
  exact ⟨rfl, markedR_below (by repeat (first | exact Below.refl _ _ | refine Below.alloc ?_ (by simp; try omega) _)) B2.out⟩
theorem heldSystem_one (g c : Nat) (w : World) (h1 : RuleAt w g (markW 1) (markW 2)) :
    Calls Try.prog 16 #[.agg #[.int .i64 2, .slice (some ⟨g, 0, none⟩) 1 c], .int .i64 1] w fun e w' => e = .returned (.int .i64 3) ∧ Below w.heap.size w w' := by
  have H1 := Lib.hid h1
  clear h1
  go_enter Try.func16, Try.ntmps16
  go_wp2_with (go_at_call 42; refine (heldRuleS_one g c _ (H1.out.now (by repeat (first | exact Below.refl _ _ | refine Below.alloc ?_ (by simp; try omega) _)))).mono ?_; rintro e w2 ⟨rfl, hb2⟩; have B2 := Lib.hid hb2; clear hb2)
  go_ret
  exact ⟨rfl, Below.now (by repeat (first | exact Below.refl _ _ | refine Below.alloc ?_ (by simp; try omega) _)) B2.out⟩
end Go.Proofs.Ytldkghfnlkbmpaa
