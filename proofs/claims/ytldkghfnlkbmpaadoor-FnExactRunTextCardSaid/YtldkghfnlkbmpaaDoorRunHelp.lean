/-
  The laws' own helpers over runs.
-/
import Derived.Test.YtldkghfnlkbmpaaDoorRunT
import Derived.Test.YtldkghfnlkbmpaaDoorLift
namespace Go.Proofs.YtldkghfnlkbmpaaDoor
open Go.RowKit Go.ChangeShapes Go.WideShapes Go.ChangeAt Go.Joins Go.Deep
set_option linter.unusedVariables false
set_option maxHeartbeats 400000 in
theorem szRun_any (wd : ByteArray) (st c left : Int) (w : World) (hw : wd.size ≤ maxLen) (h0 : 0 ≤ left) (h1 : left ≤ 1048576) :
    Calls Tryd.prog 12 #[.agg #[.string wd, .int .i64 st, .int .i64 c], .int .i64 left] w fun e w' => e = .returned (.int .i64 (if left < (wd.size : Int) then -1 else left - wd.size)) ∧ Below w.heap.size w w' := by
  unfold maxLen at hw
  by_cases hlt : left < (wd.size : Int)
  · rw [if_pos hlt]
    go_enter Tryd.func12, Tryd.ntmps12
    go_wp2_with fail
    go_ret
    exact ⟨rfl, (Below.refl _ _).alloc (Nat.le_refl _) _⟩
  · rw [if_neg hlt]
    go_enter Tryd.func12, Tryd.ntmps12
    go_wp2_with fail
    go_ret
    exact ⟨rfl, (Below.refl _ _).alloc (Nat.le_refl _) _⟩
set_option maxHeartbeats 400000 in
theorem toRun_any (wd : ByteArray) (st c : Int) (w : World) :
    Calls Tryd.prog 14 #[.agg #[.string wd, .int .i64 st, .int .i64 c]] w fun e w' => e = .returned (.agg #[.string wd, .int .i64 st, .int .i64 c]) ∧ Below w.heap.size w w' := by
  go_enter Tryd.func14, Tryd.ntmps14
  go_wp2_with fail
  refine bodyPost_ret (v := .agg #[.string wd, .int .i64 st, .int .i64 c]) ?_ rfl ?_
  · simp [results, Tryd.results14, go_sem]
  · refine ⟨rfl, ?_⟩
    repeat (first | exact Below.refl _ _ | refine Below.setCell ?_ (by simp; try omega) _ | refine Below.alloc ?_ (by simp; try omega) _)
theorem open_runIn {H : Type} {enc : TypeId × Value → H} {P : Program} {w : World} {r : Reach} {b0 : Nat} {t : TypeId} {f0 f1 f2 : Field} {v : Value} {d : DataW H} {p : List MemPlace} (hs : P.underlying t = some (.struct #[f0, f1, f2])) (hone : oneCellFields P #[f0, f1, f2] = true) (hC : P.cellsOf t = 3)
    (h0 : P.underlying f0.type = some .string) (h1 : P.underlying f1.type = some (.int .i64)) (h2 : P.underlying f2.type = some (.int .i64))
    (hv : Value.okWide P w r b0 t v) (h : DataW.Trod enc P w 0 (fun _ => true) true t v d p) : ∃ (s : ByteArray) (n m : Int), v = .agg #[.string s, .int .i64 n, .int .i64 m] ∧ s.size ≤ maxLen ∧ -9223372036854775808 ≤ n ∧ n ≤ 9223372036854775807 := by
  obtain ⟨c0, c1, c2, y0, y1, y2, m, rfl, _, _, hy0, hy1, hy2⟩ := open_agg3 hs hone hC hv h
  obtain ⟨s, e0, _, hsz⟩ := DataW.trod_string h0 hy0
  obtain ⟨n, e1, _, hwf⟩ := DataW.trod_int h1 hy1
  obtain ⟨k, e2, _, _⟩ := DataW.trod_int h2 hy2
  simp only [List.cons.injEq, and_true] at e0 e1 e2
  subst e0 e1 e2
  exact ⟨s, n, k, rfl, hsz, (bounds_i64 hwf).1, (bounds_i64 hwf).2⟩
end Go.Proofs.YtldkghfnlkbmpaaDoor
