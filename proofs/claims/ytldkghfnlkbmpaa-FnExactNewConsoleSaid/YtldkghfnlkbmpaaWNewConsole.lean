/-
  The walk of 'FnExactNewConsole': NewConsole of the program and of the reference, marked, and made once more.
-/
import Derived.Test.YtldkghfnlkbmpaaNewCon
import Derived.Test.YtldkghfnlkbmpaaTabHelp
import Derived.Test.YtldkghfnlkbmpaaLift
import Derived.Deep.RegionHeld3
namespace Go.Proofs.Ytldkghfnlkbmpaa.fnExactNewConsole
open Go.ChangeShapes Go.WideShapes Go.ChangeAt Go.RowKit Go.Joins
open Go.ChangeMaps (open_string shut_string)
set_option linter.unusedVariables false
/-- two boxes of systems, and their rules -/
def StC (n1 n2 g1 c1 g2 c2 : Nat) (a b : ByteArray) (W : World) : Prop :=
  W.heap[n1]? = some (.cells #[.int .i64 2, .slice (some ⟨g1, 0, none⟩) 1 c1] 24 (0, 0)) ∧ W.heap[n2]? = some (.cells #[.int .i64 2, .slice (some ⟨g2, 0, none⟩) 1 c2] 24 (0, 0)) ∧ RuleAt W g1 baL abL ∧ RuleAt W g2 a b
theorem StC.now {n1 n2 g1 c1 g2 c2 : Nat} {a b : ByteArray} {W W' : World} (h : StC n1 n2 g1 c1 g2 c2 a b W) (hb : Below W.heap.size W W') : StC n1 n2 g1 c1 g2 c2 a b W' :=
  ⟨by rw [hb.block _ (Array.getElem?_eq_some_iff.1 h.1).1]; exact h.1, by rw [hb.block _ (Array.getElem?_eq_some_iff.1 h.2.1).1]; exact h.2.1, h.2.2.1.now hb, h.2.2.2.now hb⟩
theorem StC.marked {n1 n2 g1 c1 g2 c2 : Nat} {a b a' b' : ByteArray} {W W' : World} (h : StC n1 n2 g1 c1 g2 c2 a b W) (hm : MarkedR W g2 a' b' W') (h1 : n1 ≠ g2) (h2 : n2 ≠ g2) (h3 : g1 ≠ g2) : StC n1 n2 g1 c1 g2 c2 a' b' W' := by
  refine ⟨by rw [hm.1.block _ (Array.getElem?_eq_some_iff.1 h.1).1 (by simpa using h1)]; exact h.1, by rw [hm.1.block _ (Array.getElem?_eq_some_iff.1 h.2.1).1 (by simpa using h2)]; exact h.2.1, ?_, hm.2⟩
  obtain ⟨cur, k1, k2, k3⟩ := h.2.2.1
  exact ⟨cur, by rw [hm.1.block _ (Array.getElem?_eq_some_iff.1 k1).1 (by simpa using h3)]; exact k1, k2, k3⟩
set_option maxRecDepth 100000 in
set_option maxHeartbeats 2000000 in
theorem walk (w : World) :
    Calls Try.prog 3 #[] w fun e w' => e = .returned (.bool true) ∧ Below w.heap.size w w' := by
  go_enter Try.func3, Try.ntmps3
  go_wp2_with fail
  refine (specNewConsole_any _).mono ?_
  rintro e v1 ⟨g1, c1, rfl, hg1, hr1, hb⟩
  have D1 : Hid (Below w.heap.size w v1) := Lib.hid (Below.now (by repeat (first | exact Below.refl _ _ | refine Below.drew ?_ | refine below_drewN ?_ _ | refine Below.alloc ?_ (by simp; try omega) _)) hb)
  have R1 := Lib.hid hr1
  have G1 := Lib.hid hg1
  clear hr1 hb hg1
  go_wp2_with fail
  refine (implNewConsole_any _).mono ?_
  rintro e v2 ⟨g2, c2, rfl, hg2, hr2, hb⟩
  have D2 : Hid (Below v1.heap.size v1 v2) := Lib.hid (Below.now (by repeat (first | exact Below.refl _ _ | refine Below.drew ?_ | refine below_drewN ?_ _ | refine Below.alloc ?_ (by simp; try omega) _)) hb)
  have R2 := Lib.hid hr2
  have G2 : Hid (v1.heap.size < g2) := Lib.hid (by simp at hg2; omega)
  have b1 : v2.heap[v1.heap.size]? = some (.cells #[.int .i64 2, .slice (some ⟨g1, 0, none⟩) 1 c1] 24 (0, 0)) := by
    rw [hb.block _ (by simp)]
    exact alloc_one v1 _ _
  have hl1 := (Array.getElem?_eq_some_iff.1 b1).1
  have BX := Lib.hid b1
  have LX := Lib.hid hl1
  have s0 : ∀ ob, (v2.alloc ob).heap[v1.heap.size]? = _ := fun ob => (((Below.refl v2.heap.size v2).alloc (Nat.le_refl _) ob).block _ LX.out).trans b1
  have t0 := fun ob => (cells_of (s0 ob)).1
  have t1 := fun ob => (cells_of (s0 ob)).2.1
  have S0 := Lib.hid s0
  clear hr2 hb hg2 b1 hl1 s0
  go_wp2_with fail
  refine (eqSystem_one baL abL g2 g1 c2 c1 _ (R2.out.now (by repeat (first | exact Below.refl _ _ | refine Below.drew ?_ | refine below_drewN ?_ _ | refine Below.alloc ?_ (by simp; try omega) _))) ((R1.out.now D2.out).now (by repeat (first | exact Below.refl _ _ | refine Below.drew ?_ | refine below_drewN ?_ _ | refine Below.alloc ?_ (by simp; try omega) _)))).mono ?_
  rintro e v3 ⟨rfl, hb⟩
  have S3 : Hid (StC v1.heap.size v2.heap.size g1 c1 g2 c2 baL abL v3) := Lib.hid (StC.now ⟨S0.out _, alloc_one v2 _ _, (R1.out.now D2.out).now (by repeat (first | exact Below.refl _ _ | refine Below.drew ?_ | refine below_drewN ?_ _ | refine Below.alloc ?_ (by simp; try omega) _)), R2.out.now (by repeat (first | exact Below.refl _ _ | refine Below.drew ?_ | refine below_drewN ?_ _ | refine Below.alloc ?_ (by simp; try omega) _))⟩ hb)
  have D3 : Hid (Below v2.heap.size v2 v3) := Lib.hid (Below.now (by repeat (first | exact Below.refl _ _ | refine Below.drew ?_ | refine below_drewN ?_ _ | refine Below.alloc ?_ (by simp; try omega) _)) hb)
  have t2 := (cells_of S3.out.2.1).1
  have t3 := (cells_of S3.out.2.1).2.1
  clear hb t0 t1
  go_wp2_with fail
  refine (markSystem_one baL abL g2 c2 _ (S3.out.2.2.2.now (by repeat (first | exact Below.refl _ _ | refine Below.drew ?_ | refine below_drewN ?_ _ | refine Below.alloc ?_ (by simp; try omega) _)))).mono ?_
  rintro e v4 ⟨rfl, hm⟩
  have S4 : Hid (StC v1.heap.size v2.heap.size g1 c1 g2 c2 (markW 1) (markW 2) v4) := Lib.hid ((S3.out.now (by repeat (first | exact Below.refl _ _ | refine Below.drew ?_ | refine below_drewN ?_ _ | refine Below.alloc ?_ (by simp; try omega) _))).marked hm (by have := G2.out; omega) (by have := R2.out.lt; omega) (by have := G2.out; have := R1.out.lt; omega))
  have M4 : Hid (MarkedR v3 g2 (markW 1) (markW 2) v4) := Lib.hid (markedR_below (by repeat (first | exact Below.refl _ _ | refine Below.drew ?_ | refine below_drewN ?_ _ | refine Below.alloc ?_ (by simp; try omega) _)) hm)
  clear hm t2 t3
  have t2 := (cells_of S4.out.2.1).1
  have t3 := (cells_of S4.out.2.1).2.1
  go_wp2_with fail
  refine (heldSystem_one g2 c2 _ (S4.out.2.2.2.now (by repeat (first | exact Below.refl _ _ | refine Below.drew ?_ | refine below_drewN ?_ _ | refine Below.alloc ?_ (by simp; try omega) _)))).mono ?_
  rintro e v5 ⟨rfl, hb⟩
  have D5 : Hid (Below v4.heap.size v4 v5) := Lib.hid (Below.now (by repeat (first | exact Below.refl _ _ | refine Below.drew ?_ | refine below_drewN ?_ _ | refine Below.alloc ?_ (by simp; try omega) _)) hb)
  have S5 := Lib.hid (S4.out.now D5.out)
  clear hb t2 t3
  go_wp2_with fail
  refine (implNewConsole_any _).mono ?_
  rintro e v6 ⟨g3, c3, rfl, hg3, hr3, hb⟩
  have D6 : Hid (Below v5.heap.size v5 v6) := Lib.hid (Below.now (by repeat (first | exact Below.refl _ _ | refine Below.drew ?_ | refine below_drewN ?_ _ | refine Below.alloc ?_ (by simp; try omega) _)) hb)
  have R3 := Lib.hid hr3
  have S6 := Lib.hid (S5.out.now D6.out)
  have t0 := fun ob => (cells_of (S6.out.now ((Below.refl v6.heap.size v6).alloc (Nat.le_refl _) ob)).1).1
  have t1 := fun ob => (cells_of (S6.out.now ((Below.refl v6.heap.size v6).alloc (Nat.le_refl _) ob)).1).2.1
  clear hr3 hb hg3
  go_wp2_with fail
  refine (eqSystem_one baL abL g3 g1 c3 c1 _ (R3.out.now (by repeat (first | exact Below.refl _ _ | refine Below.drew ?_ | refine below_drewN ?_ _ | refine Below.alloc ?_ (by simp; try omega) _))) (S6.out.2.2.1.now (by repeat (first | exact Below.refl _ _ | refine Below.drew ?_ | refine below_drewN ?_ _ | refine Below.alloc ?_ (by simp; try omega) _)))).mono ?_
  rintro e v7 ⟨rfl, hb⟩
  have D7 : Hid (Below v6.heap.size v6 v7) := Lib.hid (Below.now (by repeat (first | exact Below.refl _ _ | refine Below.drew ?_ | refine below_drewN ?_ _ | refine Below.alloc ?_ (by simp; try omega) _)) hb)
  have S7 := Lib.hid (S6.out.now D7.out)
  clear hb t0 t1
  have t2 := (cells_of S7.out.2.1).1
  have t3 := (cells_of S7.out.2.1).2.1
  go_wp2_with fail
  refine (heldSystem_one g2 c2 _ (S7.out.2.2.2.now (by repeat (first | exact Below.refl _ _ | refine Below.drew ?_ | refine below_drewN ?_ _ | refine Below.alloc ?_ (by simp; try omega) _)))).mono ?_
  rintro e v8 ⟨rfl, hb⟩
  have D8 : Hid (Below v7.heap.size v7 v8) := Lib.hid (Below.now (by repeat (first | exact Below.refl _ _ | refine Below.drew ?_ | refine below_drewN ?_ _ | refine Below.alloc ?_ (by simp; try omega) _)) hb)
  clear hb t2 t3
  have F : Hid (Below w.heap.size w v8) := Lib.hid (by
    have e3 := Below.now (Below.now D1.out D2.out) D3.out
    have e4 := e3.grown M4.out.1 e3.size (fun k hk => by obtain rfl := Option.some.inj hk; have := G2.out; have := D1.out.size; omega)
    exact Below.now (Below.now (Below.now (Below.now e4 D5.out) D6.out) D7.out) D8.out)
  go_wp2_with fail
  go_ret
  exact ⟨rfl, Below.now F.out (by repeat (first | exact Below.refl _ _ | refine Below.drew ?_ | refine below_drewN ?_ _ | refine Below.alloc ?_ (by simp; try omega) _))⟩
end Go.Proofs.Ytldkghfnlkbmpaa.fnExactNewConsole
