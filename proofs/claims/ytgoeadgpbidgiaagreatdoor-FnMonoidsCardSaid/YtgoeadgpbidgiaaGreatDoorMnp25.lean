/-
  l06Copy of the reference.
-/
import Derived.Test.YtgoeadgpbidgiaaGreatDoorMnp24
namespace Go.Proofs.YtgoeadgpbidgiaaGreatDoor
open Go.RowKit
set_option linter.unusedVariables false
/-- what a work is handed back as: its rules and its equations in memory of the call's own -/
def RetCp (k : Int) (R Q : List RulD) (T : Nat) (w : World) (e : Ending) (w' : World) : Prop :=
  ∃ aR cR aQ cQ, e = .returned (workVal k aR R.length cR aQ Q.length cQ T) ∧ ownsOff w' w.heap.size 39 2 (.slice aR R.length cR) R.length (ruleCells R) ∧ ownsOff w' w.heap.size 39 2 (.slice aQ Q.length cQ) Q.length (ruleCells Q) ∧ Below w.heap.size w w'
theorem ownsOff.mono {w : World} {base base' : Nat} {T : TypeId} {size : Nat} {v : Value} {n : Nat} {xs : List Value} (h : ownsOff w base T size v n xs) (hb : base' ≤ base) : ownsOff w base' T size v n xs := by
  refine ⟨h.1, ?_⟩
  rcases h.2 with h' | ⟨g, o, cap, cur, hv, hb', r⟩
  · exact .inl h'
  · exact .inr ⟨g, o, cap, cur, hv, by omega, r⟩
theorem ownsOff.setBelow {w : World} {base : Nat} {T : TypeId} {size : Nat} {v : Value} {n : Nat} {xs : List Value} (h : ownsOff w base T size v n xs) {p : Addr} (hp : p.block < base) (u : Value) : ownsOff (w.setCell p u) base T size v n xs := by
  refine ⟨h.1, ?_⟩
  rcases h.2 with h' | ⟨g, o, cap, cur, hv, hb', hg, r⟩
  · exact .inl h'
  · refine .inr ⟨g, o, cap, cur, hv, hb', ?_, r⟩
    unfold World.setCell
    rw [Array.getElem?_modify, if_neg (fun e => by omega)]
    exact hg
theorem off_empty (T : TypeId) (size : Nat) (w1 : World) : ∀ W, Below (w1.alloc (.cells #[] T)).heap.size (w1.alloc (.cells #[] T)) W → ownsOff W w1.heap.size T size (.slice (some ⟨w1.heap.size, 0, none⟩) 0 0) 0 [] := fun W h => (ownsOff.of_row (Bld.empty T size w1).1).later h
theorem off_empty2 (T : TypeId) (size : Nat) (w1 : World) (o : Obj) : ∀ W, Below ((w1.alloc o).alloc (.cells #[] T)).heap.size ((w1.alloc o).alloc (.cells #[] T)) W → ownsOff W w1.heap.size T size (.slice (some ⟨w1.heap.size + 1, 0, none⟩) 0 0) 0 [] := fun W h => by
  have h1 := (off_empty T size (w1.alloc o) W h).mono (show w1.heap.size ≤ (w1.alloc o).heap.size by simp)
  have e : (w1.alloc o).heap.size = w1.heap.size + 1 := by simp
  rw [e] at h1
  exact h1
theorem alloc_two (w1 : World) (o o2 : Obj) : ((w1.alloc o).alloc o2).heap[w1.heap.size]? = some o ∧ ((w1.alloc o).alloc o2).heap[w1.heap.size + 1]? = some o2 := by
  have h1 := alloc_at w1 o
  have h2 := alloc_at (w1.alloc o) o2
  have e : (w1.alloc o).heap.size = w1.heap.size + 1 := by simp
  rw [e] at h2
  exact ⟨by rw [(alloc_belowS (w1.alloc o) o2).block w1.heap.size (by rw [e]; omega)]; exact h1, h2⟩
/-- the two fields of a box are set -/
theorem set_two {W : World} {g : Nat} {x y : Value} {T : TypeId} (h : W.heap[g]? = some (.cells #[x, y] T (0, 0))) (u v : Value) : ((W.setCell ⟨g, 0, none⟩ u).setCell ⟨g, 1, none⟩ v).heap[g]? = some (.cells #[u, v] T (0, 0)) := by
  unfold World.setCell
  simp [Array.getElem?_modify, h]
/-- a box of another type is set -/
theorem ownsOff.set2 {w : World} {base : Nat} {T T' : TypeId} {size : Nat} {v : Value} {n : Nat} {xs : List Value} (h : ownsOff w base T size v n xs) {g : Nat} {cs : Array Value} {fr : Nat × Nat} (hg : w.heap[g]? = some (.cells cs T' fr)) (hne : T ≠ T') (o1 o2 : Nat) (u1 u2 : Value) :
    ownsOff ((w.setCell ⟨g, o1, none⟩ u1).setCell ⟨g, o2, none⟩ u2) base T size v n xs := by
  refine ⟨h.1, ?_⟩
  rcases h.2 with h' | ⟨g1, o, cap, cur, hv, hb', hg1, r⟩
  · exact .inl h'
  · refine .inr ⟨g1, o, cap, cur, hv, hb', ?_, r⟩
    have hn : g ≠ g1 := fun e => by
      subst e
      rw [hg] at hg1
      simp only [Option.some.injEq, Obj.cells.injEq] at hg1
      exact hne hg1.2.1.symm
    unfold World.setCell
    rw [Array.getElem?_modify, if_neg hn, Array.getElem?_modify, if_neg hn]
    exact hg1
set_option maxRecDepth 100000 in
set_option maxHeartbeats 4000000 in
theorem l06Copy_any (k : Int) (R Q : List RulD) (T : Nat) (aR aQ : Option Addr) (cR cQ : Nat) (w : World) (hR : RulesIn w aR R) (hQ : RulesIn w aQ Q) (h12 : R.length ≤ 12) (h400 : Q.length ≤ 400) :
    Calls Tryz.prog 154 #[workVal k aR R.length cR aQ Q.length cQ T] w (RetCp k R Q T w) := by
  have HR := Lib.hid hR
  have HQ := Lib.hid hQ
  have HB0 := Lib.hid (Below.now (alloc_belowS w (.cells #[.int .i64 k, .slice aR R.length cR, .slice aQ Q.length cQ, .int .i64 (T : Nat)] 69)) (alloc_belowS _ (.cells #[.int .i64 0, .slice none 0 0, .slice none 0 0, .int .i64 0] 69)))
  have e1 : (w.alloc (.cells #[.int .i64 k, .slice aR R.length cR, .slice aQ Q.length cQ, .int .i64 (T : Nat)] 69)).heap.size = w.heap.size + 1 := by simp
  have HBX := Lib.hid (fun W2 (h : Below ((w.alloc (.cells #[.int .i64 k, .slice aR R.length cR, .slice aQ Q.length cQ, .int .i64 (T : Nat)] 69)).alloc (.cells #[.int .i64 0, .slice none 0 0, .slice none 0 0, .int .i64 0] 69)).heap.size ((w.alloc (.cells #[.int .i64 k, .slice aR R.length cR, .slice aQ Q.length cQ, .int .i64 (T : Nat)] 69)).alloc (.cells #[.int .i64 0, .slice none 0 0, .slice none 0 0, .int .i64 0] 69)) W2) => And.intro (box_four (Below.now (alloc_belowS (w.alloc (.cells #[.int .i64 k, .slice aR R.length cR, .slice aQ Q.length cQ, .int .i64 (T : Nat)] 69)) _) h)).1 (box_four h))
  rw [e1] at HBX
  have HSZ : Hid (w.heap.size + 2 ≤ ((w.alloc (.cells #[.int .i64 k, .slice aR R.length cR, .slice aQ Q.length cQ, .int .i64 (T : Nat)] 69)).alloc (.cells #[.int .i64 0, .slice none 0 0, .slice none 0 0, .int .i64 0] 69)).heap.size) := Lib.hid (by simp)
  have N3 : Hid (0 + R.length ≤ maxLen) := Lib.hid (by unfold maxLen; omega)
  have N4 : Hid ((0 + R.length) * 32 ≤ 140737488355328) := Lib.hid (by omega)
  have M3 : Hid (0 + Q.length ≤ maxLen) := Lib.hid (by unfold maxLen; omega)
  have M4 : Hid ((0 + Q.length) * 32 ≤ 140737488355328) := Lib.hid (by omega)
  clear hR hQ e1
  unfold workVal
  go_enter Tryz.func154, Tryz.ntmps154
  go_wp2_with fail
  generalize (w.alloc (.cells #[.int .i64 k, .slice aR R.length cR, .slice aQ Q.length cQ, .int .i64 (T : Nat)] 69)).alloc (.cells #[.int .i64 0, .slice none 0 0, .slice none 0 0, .int .i64 0] 69) = w1 at *
  obtain ⟨⟨s0, s1, s2, s3⟩, _, _⟩ := HBX.out w1 (Below.refl _ _)
  have hpos1 : 0 < w1.heap.size := by have := HSZ.out; omega
  go_upto_region 1 with fail
  go_cut [3] (fun v wx => ∃ g vR, v = .pointer (some ⟨g, 0, none⟩) ∧ wx.heap[g]? = some (.cells #[.int .i64 k, vR] 33 (0, 0)) ∧ ownsOff wx w1.heap.size 39 2 vR R.length (ruleCells R) ∧ w1.heap.size ≤ g ∧ Below w1.heap.size w1 wx)
  case first =>
    have p0 := fun o => (HBX.out _ (alloc_belowS w1 o)).1.1
    have p1 := fun o => (HBX.out _ (alloc_belowS w1 o)).1.2.1
    have p2 := fun o o2 => (HBX.out _ (Below.now (alloc_belowS w1 o) (alloc_belowS (w1.alloc o) o2))).1.1
    have p3 := fun o o2 => (HBX.out _ (Below.now (alloc_belowS w1 o) (alloc_belowS (w1.alloc o) o2))).1.2.1
    have HE1 := Lib.hid (off_empty 39 2 w1)
    have HE2 := Lib.hid (off_empty2 39 2 w1 (.cells #[.int .i64 0, .slice none 0 0] 33))
    have HA1 := Lib.hid (alloc_two w1 (.cells #[] 39) (.cells #[.int .i64 0, .slice none 0 0] 33)).2
    have HA2 := Lib.hid (alloc_two w1 (.cells #[.int .i64 0, .slice none 0 0] 33) (.cells #[] 39)).1
    go_region_law (first
      | (refine step_append_off rfl (.tmp 7) (.tmp 10) (by rfl) Tryz.underlying25 Tryz.infoRule rfl (by decide) (by rfl) (HE1.out _ (by repeat (first | exact Below.refl _ _ | refine Below.drew ?_ | refine below_drewN ?_ _ | refine Below.alloc ?_ (by simp; try omega) _))) (by simp; try omega) (by rfl) (src_rules Tryz.underlying25 (HR.out.later (Below.now HB0.out (by repeat (first | exact Below.refl _ _ | refine Below.drew ?_ | refine below_drewN ?_ _ | refine Below.alloc ?_ (by simp; try omega) _)))) cR) N3.out N4.out ?_; intro v2 w2 ho2 hg2; rw [Nat.zero_add, List.nil_append] at ho2; obtain ⟨va, vc, rfl⟩ := ho2.form; have k2 : Below w1.heap.size w1 w2 := Below.grown (by repeat (first | exact Below.refl _ _ | refine Below.drew ?_ | refine below_drewN ?_ _ | refine Below.alloc ?_ (by simp; try omega) _)) hg2 (by simp; try omega) (fun k hk => by simp [Value.ownBlock] at hk; omega); have HO2 := Lib.hid ho2; have t0 := (HBX.out w2 k2).1.1; have t1 := (HBX.out w2 k2).1.2.1; have t2 := fun o => (HBX.out _ (Below.now k2 (alloc_belowS w2 o))).1.1; have t3 := fun o => (HBX.out _ (Below.now k2 (alloc_belowS w2 o))).1.2.1; have xS : w2.heap[w1.heap.size + 1]? = some (.cells #[.int .i64 0, .slice none 0 0] 33 (0, 0)) := (hg2.block (w1.heap.size + 1) (by simp; try omega) (by simp [Value.ownBlock])).trans HA1.out; obtain ⟨x0, x1, x2, x3⟩ := rec_cells xS; have XS := Lib.hid xS; clear xS ho2 hg2)
      | (refine step_append_off rfl (.tmp 7) (.tmp 10) (by rfl) Tryz.underlying25 Tryz.infoRule rfl (by decide) (by rfl) (HE2.out _ (by repeat (first | exact Below.refl _ _ | refine Below.drew ?_ | refine below_drewN ?_ _ | refine Below.alloc ?_ (by simp; try omega) _))) (by simp; try omega) (by rfl) (src_rules Tryz.underlying25 (HR.out.later (Below.now HB0.out (by repeat (first | exact Below.refl _ _ | refine Below.drew ?_ | refine below_drewN ?_ _ | refine Below.alloc ?_ (by simp; try omega) _)))) cR) N3.out N4.out ?_; intro v2 w2 ho2 hg2; rw [Nat.zero_add, List.nil_append] at ho2; obtain ⟨va, vc, rfl⟩ := ho2.form; have k2 : Below w1.heap.size w1 w2 := Below.grown (by repeat (first | exact Below.refl _ _ | refine Below.drew ?_ | refine below_drewN ?_ _ | refine Below.alloc ?_ (by simp; try omega) _)) hg2 (by simp; try omega) (fun k hk => by simp [Value.ownBlock] at hk; omega); have HO2 := Lib.hid ho2; have t0 := (HBX.out w2 k2).1.1; have t1 := (HBX.out w2 k2).1.2.1; have t2 := fun o => (HBX.out _ (Below.now k2 (alloc_belowS w2 o))).1.1; have t3 := fun o => (HBX.out _ (Below.now k2 (alloc_belowS w2 o))).1.2.1; have xS : w2.heap[w1.heap.size]? = some (.cells #[.int .i64 0, .slice none 0 0] 33 (0, 0)) := (hg2.block w1.heap.size (by simp; try omega) (by simp [Value.ownBlock])).trans HA2.out; obtain ⟨x0, x1, x2, x3⟩ := rec_cells xS; have XS := Lib.hid xS; clear xS ho2 hg2)
      | (refine step_append_off rfl (.tmp 7) (.tmp 10) (by rfl) Tryz.underlying25 Tryz.infoRule rfl (by decide) (by rfl) (HE1.out _ (by repeat (first | exact Below.refl _ _ | refine Below.drew ?_ | refine below_drewN ?_ _ | refine Below.alloc ?_ (by simp; try omega) _))) (by simp; try omega) (by rfl) (src_rules Tryz.underlying25 (HR.out.later (Below.now HB0.out (by repeat (first | exact Below.refl _ _ | refine Below.drew ?_ | refine below_drewN ?_ _ | refine Below.alloc ?_ (by simp; try omega) _)))) cR) N3.out N4.out ?_; intro v2 w2 ho2 hg2; rw [Nat.zero_add, List.nil_append] at ho2; obtain ⟨va, vc, rfl⟩ := ho2.form; have k2 : Below w1.heap.size w1 w2 := Below.grown (by repeat (first | exact Below.refl _ _ | refine Below.drew ?_ | refine below_drewN ?_ _ | refine Below.alloc ?_ (by simp; try omega) _)) hg2 (by simp; try omega) (fun k hk => by simp [Value.ownBlock] at hk; omega); have HO2 := Lib.hid ho2; have t0 := (HBX.out w2 k2).1.1; have t1 := (HBX.out w2 k2).1.2.1; have t2 := fun o => (HBX.out _ (Below.now k2 (alloc_belowS w2 o))).1.1; have t3 := fun o => (HBX.out _ (Below.now k2 (alloc_belowS w2 o))).1.2.1; clear ho2 hg2))
    all_goals
      clear t0 t1 t2 t3
      (try (clear x0 x1 x2 x3))
      go_wp2_with fail
      go_meet
      first
        | exact ⟨_, _, rfl, alloc_at w2 _, HO2.out.later (alloc_belowS w2 _), k2.size, Below.now k2 (alloc_belowS w2 _)⟩
        | exact ⟨_, _, rfl, set_two XS.out _ _, HO2.out.set2 XS.out (by decide) _ _ _ _, by omega, (k2.setCell (by simp) _).setCell (by simp) _⟩
  case rest =>
    obtain ⟨g, vR, rfl, hgb, hor, hg1, hbc⟩ := hcut
    obtain ⟨va, vc, rfl⟩ := hor.form
    have HOR := Lib.hid hor
    have HBC := Lib.hid hbc
    obtain ⟨g0, g1, _, _⟩ := rec_cells hgb
    have HG : Hid (∀ W, Below wc.heap.size wc W → W.cell? ⟨g, 0, none⟩ = some (.int .i64 k) ∧ W.cell? ⟨g, 1, none⟩ = some (.slice va R.length vc)) := Lib.hid (fun W hW => by
      have h := rec_cells ((hW.block g (Array.getElem?_eq_some_iff.1 hgb).1).trans hgb)
      exact ⟨h.1, h.2.1⟩)
    clear s0 s1 s2 s3 hgb hor hbc
    obtain ⟨⟨_, _, s2, s3⟩, _, _⟩ := HBX.out wc HBC.out
    have p0 := fun o => (HG.out _ (alloc_belowS wc o)).1
    have p1 := fun o => (HG.out _ (alloc_belowS wc o)).2
    have p2 := fun o => (HBX.out _ (Below.now HBC.out (alloc_belowS wc o))).1.2.2.1
    have p3 := fun o => (HBX.out _ (Below.now HBC.out (alloc_belowS wc o))).1.2.2.2
    have HE2 := Lib.hid (off_empty 39 2 wc)
    go_wp2_with fail
    go_region_law (first
      | (refine step_append_off rfl (.tmp 14) (.tmp 16) (by rfl) Tryz.underlying25 Tryz.infoRule rfl (by decide) (by rfl) (HE2.out _ (by repeat (first | exact Below.refl _ _ | refine Below.drew ?_ | refine below_drewN ?_ _))) (by simp) (by rfl) (src_rules Tryz.underlying25 (HQ.out.later (Below.now HB0.out (Below.now HBC.out (by repeat (first | exact Below.refl _ _ | refine Below.drew ?_ | refine below_drewN ?_ _ | refine Below.alloc ?_ (by simp; try omega) _))))) cQ) M3.out M4.out ?_; intro v2 w2 ho2 hg2; rw [Nat.zero_add, List.nil_append] at ho2; obtain ⟨vb, vd, rfl⟩ := ho2.form; have k2 : Below wc.heap.size wc w2 := Below.grown (by repeat (first | exact Below.refl _ _ | refine Below.drew ?_ | refine below_drewN ?_ _ | refine Below.alloc ?_ (by simp; try omega) _)) hg2 (by simp) (fun k hk => by simp [Value.ownBlock] at hk; omega); have HO2 := Lib.hid ho2; have t0 := (HG.out w2 k2).1; have t1 := (HG.out w2 k2).2; have t3 := (HBX.out w2 (Below.now HBC.out k2)).1.2.2.2; obtain ⟨⟨u0, u1, u2, u3⟩, f0, f1, f2, f3⟩ := (HBX.out w2 (Below.now HBC.out k2)).2; clear ho2 hg2))
    all_goals
      have hsz := HSZ.out
      have F : Hid (RetCp k R Q T w (.returned (workVal k va R.length vc vb Q.length vd T)) ((((w2.setCell ⟨w.heap.size + 1, 0, none⟩ (.int .i64 k)).setCell ⟨w.heap.size + 1, 1, none⟩ (.slice va R.length vc)).setCell ⟨w.heap.size + 1, 2, none⟩ (.slice vb Q.length vd)).setCell ⟨w.heap.size + 1, 3, none⟩ (.int .i64 (T : Nat)))) :=
        Lib.hid ⟨va, vc, vb, vd, rfl,
          (((((HOR.out.later k2).setBelow (by show w.heap.size + 1 < _; omega) _).setBelow (by show w.heap.size + 1 < _; omega) _).setBelow (by show w.heap.size + 1 < _; omega) _).setBelow (by show w.heap.size + 1 < _; omega) _).mono (by omega),
          (((((HO2.out).setBelow (by show w.heap.size + 1 < _; have := HBC.out.size; omega) _).setBelow (by show w.heap.size + 1 < _; have := HBC.out.size; omega) _).setBelow (by show w.heap.size + 1 < _; have := HBC.out.size; omega) _).setBelow (by show w.heap.size + 1 < _; have := HBC.out.size; omega) _).mono (by have := HBC.out.size; omega),
          ((((Below.now HB0.out (Below.now HBC.out k2)).setCell (by simp; try omega) _).setCell (by simp; try omega) _).setCell (by simp; try omega) _).setCell (by simp; try omega) _⟩
      clear t0 t1 t3 k2
      go_wp2_with fail
      refine bodyPost_ret (v := workVal k va R.length vc vb Q.length vd T) ?_ rfl F.out
      simp [results, Tryz.results154, go_sem, u0, u1, u2, u3, workVal]
end Go.Proofs.YtgoeadgpbidgiaaGreatDoor
