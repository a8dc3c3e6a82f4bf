/-
  StartWork of the reference.
-/
import Derived.Test.YtgoeadgpbidgiaaGreatDoorCom14
namespace Go.Proofs.YtgoeadgpbidgiaaGreatDoor
open Go.RowKit
set_option linter.unusedVariables false
/-- what a work is handed back as: its rules and its equations in memory of the call's own -/
def RetCp (k : Int) (R Q : List RulD) (T : Nat) (w : World) (e : Ending) (w' : World) : Prop :=
  ∃ aR cR aQ cQ, e = .returned (workVal k aR R.length cR aQ Q.length cQ T) ∧ ownsOff w' w.heap.size 39 2 (.slice aR R.length cR) R.length (ruleCells R) ∧ ownsOff w' w.heap.size 39 2 (.slice aQ Q.length cQ) Q.length (ruleCells Q) ∧ Below w.heap.size w w'
theorem ownsOff.mono {w : World} {base base' : Nat} {T : TypeId} {size : Nat} {v : Value} {n : Nat} {xs : List Value} (h : ownsOff w base T size v n xs) (hb : base' ≤ base) : ownsOff w base' T size v n xs := by
  refine ⟨h.1, ?_⟩
  rcases h.2 with h' | ⟨g, o, cap, cur, hv, hb', r⟩
  · exact .inl h'
  · exact .inr ⟨g, o, cap, cur, hv, by omega, r⟩
theorem ownsOff.setBelow {w : World} {base : Nat} {T : TypeId} {size : Nat} {v : Value} {n : Nat} {xs : List Value} (h : ownsOff w base T size v n xs) {p : Addr} (hp : p.block < base) (u : Value) : ownsOff (w.setCell p u) base T size v n xs := by
  refine ⟨h.1, ?_⟩
  rcases h.2 with h' | ⟨g, o, cap, cur, hv, hb', hg, r⟩
  · exact .inl h'
  · refine .inr ⟨g, o, cap, cur, hv, hb', ?_, r⟩
    unfold World.setCell
    rw [Array.getElem?_modify, if_neg (fun e => by omega)]
    exact hg
theorem off_empty (T : TypeId) (size : Nat) (w1 : World) : ∀ W, Below (w1.alloc (.cells #[] T)).heap.size (w1.alloc (.cells #[] T)) W → ownsOff W w1.heap.size T size (.slice (some ⟨w1.heap.size, 0, none⟩) 0 0) 0 [] := fun W h => (ownsOff.of_row (Bld.empty T size w1).1).later h
theorem off_empty2 (T : TypeId) (size : Nat) (w1 : World) (o : Obj) : ∀ W, Below ((w1.alloc o).alloc (.cells #[] T)).heap.size ((w1.alloc o).alloc (.cells #[] T)) W → ownsOff W w1.heap.size T size (.slice (some ⟨w1.heap.size + 1, 0, none⟩) 0 0) 0 [] := fun W h => by
  have h1 := (off_empty T size (w1.alloc o) W h).mono (show w1.heap.size ≤ (w1.alloc o).heap.size by simp)
  have e : (w1.alloc o).heap.size = w1.heap.size + 1 := by simp
  rw [e] at h1
  exact h1
theorem alloc_two (w1 : World) (o o2 : Obj) : ((w1.alloc o).alloc o2).heap[w1.heap.size]? = some o ∧ ((w1.alloc o).alloc o2).heap[w1.heap.size + 1]? = some o2 := by
  have h1 := alloc_at w1 o
  have h2 := alloc_at (w1.alloc o) o2
  have e : (w1.alloc o).heap.size = w1.heap.size + 1 := by simp
  rw [e] at h2
  exact ⟨by rw [(alloc_belowS (w1.alloc o) o2).block w1.heap.size (by rw [e]; omega)]; exact h1, h2⟩
/-- the two fields of a box are set -/
theorem set_two {W : World} {g : Nat} {x y : Value} {T : TypeId} (h : W.heap[g]? = some (.cells #[x, y] T (0, 0))) (u v : Value) : ((W.setCell ⟨g, 0, none⟩ u).setCell ⟨g, 1, none⟩ v).heap[g]? = some (.cells #[u, v] T (0, 0)) := by
  unfold World.setCell
  simp [Array.getElem?_modify, h]
/-- a box of another type is set -/
theorem ownsOff.set2 {w : World} {base : Nat} {T T' : TypeId} {size : Nat} {v : Value} {n : Nat} {xs : List Value} (h : ownsOff w base T size v n xs) {g : Nat} {cs : Array Value} {fr : Nat × Nat} (hg : w.heap[g]? = some (.cells cs T' fr)) (hne : T ≠ T') (o1 o2 : Nat) (u1 u2 : Value) :
    ownsOff ((w.setCell ⟨g, o1, none⟩ u1).setCell ⟨g, o2, none⟩ u2) base T size v n xs := by
  refine ⟨h.1, ?_⟩
  rcases h.2 with h' | ⟨g1, o, cap, cur, hv, hb', hg1, r⟩
  · exact .inl h'
  · refine .inr ⟨g1, o, cap, cur, hv, hb', ?_, r⟩
    have hn : g ≠ g1 := fun e => by
      subst e
      rw [hg] at hg1
      simp only [Option.some.injEq, Obj.cells.injEq] at hg1
      exact hne hg1.2.1.symm
    unfold World.setCell
    rw [Array.getElem?_modify, if_neg hn, Array.getElem?_modify, if_neg hn]
    exact hg1
set_option maxRecDepth 100000 in
set_option maxHeartbeats 4000000 in
theorem l06Copy_any (k : Int) (R Q : List RulD) (T : Nat) (aR aQ : Option Addr) (cR cQ : Nat) (w : World) (hR : RulesIn w aR R) (hQ : RulesIn w aQ Q) (h12 : R.length ≤ 12) (h400 : Q.length ≤ 400) :
    Calls Tryz.prog 154 #[workVal k aR R.length cR aQ Q.length cQ T] w (RetCp k R Q T w) := by
  have HR := Lib.hid hR
  have HQ := Lib.hid hQ
  have HB0 := Lib.hid (Below.now (alloc_belowS w (.cells #[.int .i64 k, .slice aR R.length cR, .slice aQ Q.length cQ, .int .i64 (T : Nat)] 69)) (alloc_belowS _ (.cells #[.int .i64 0, .slice none 0 0, .slice none 0 0, .int .i64 0] 69)))
  have e1 : (w.alloc (.cells #[.int .i64 k, .slice aR R.length cR, .slice aQ Q.length cQ, .int .i64 (T : Nat)] 69)).heap.size = w.heap.size + 1 := by simp
  have HBX := Lib.hid (fun W2 (h : Below ((w.alloc (.cells #[.int .i64 k, .slice aR R.length cR, .slice aQ Q.length cQ, .int .i64 (T : Nat)] 69)).alloc (.cells #[.int .i64 0, .slice none 0 0, .slice none 0 0, .int .i64 0] 69)).heap.size ((w.alloc (.cells #[.int .i64 k, .slice aR R.length cR, .slice aQ Q.length cQ, .int .i64 (T : Nat)] 69)).alloc (.cells #[.int .i64 0, .slice none 0 0, .slice none 0 0, .int .i64 0] 69)) W2) => And.intro (box_four (Below.now (alloc_belowS (w.alloc (.cells #[.int .i64 k, .slice aR R.length cR, .slice aQ Q.length cQ, .int .i64 (T : Nat)] 69)) _) h)).1 (box_four h))
  rw [e1] at HBX
  have HSZ : Hid (w.heap.size + 2 ≤ ((w.alloc (.cells #[.int .i64 k, .slice aR R.length cR, .slice aQ Q.length cQ, .int .i64 (T : Nat)] 69)).alloc (.cells #[.int .i64 0, .slice none 0 0, .slice none 0 0, .int .i64 0] 69)).heap.size) := Lib.hid (by simp)
  have N3 : Hid (0 + R.length ≤ maxLen) := Lib.hid (by unfold maxLen; omega)
  have N4 : Hid ((0 + R.length) * 32 ≤ 140737488355328) := Lib.hid (by omega)
  have M3 : Hid (0 + Q.length ≤ maxLen) := Lib.hid (by unfold maxLen; omega)
  have M4 : Hid ((0 + Q.length) * 32 ≤ 140737488355328) := Lib.hid (by omega)
  clear hR hQ e1
  unfold workVal
  go_enter Tryz.func154, Tryz.ntmps154
  go_wp2_with fail
  generalize (w.alloc (.cells #[.int .i64 k, .slice aR R.length cR, .slice aQ Q.length cQ, .int .i64 (T : Nat)] 69)).alloc (.cells #[.int .i64 0, .slice none 0 0, .slice none 0 0, .int .i64 0] 69) = w1 at *
  obtain ⟨⟨s0, s1, s2, s3⟩, _, _⟩ := HBX.out w1 (Below.refl _ _)
  have hpos1 : 0 < w1.heap.size := by have := HSZ.out; omega
  go_upto_region 1 with fail
  go_cut [3] (fun v wx => ∃ g vR, v = .pointer (some ⟨g, 0, none⟩) ∧ wx.heap[g]? = some (.cells #[.int .i64 k, vR] 33 (0, 0)) ∧ ownsOff wx w1.heap.size 39 2 vR R.length (ruleCells R) ∧ w1.heap.size ≤ g ∧ Below w1.heap.size w1 wx)
  case first =>
    have p0 := fun o => (HBX.out _ (alloc_belowS w1 o)).1.1
    have p1 := fun o => (HBX.out _ (alloc_belowS w1 o)).1.2.1
    have p2 := fun o o2 => (HBX.out _ (Below.now (alloc_belowS w1 o) (alloc_belowS (w1.alloc o) o2))).1.1
    have p3 := fun o o2 => (HBX.out _ (Below.now (alloc_belowS w1 o) (alloc_belowS (w1.alloc o) o2))).1.2.1
    have HE1 := Lib.hid (off_empty 39 2 w1)
    have HE2 := Lib.hid (off_empty2 39 2 w1 (.cells #[.int .i64 0, .slice none 0 0] 33))
    have HA1 := Lib.hid (alloc_two w1 (.cells #[] 39) (.cells #[.int .i64 0, .slice none 0 0] 33)).2
    have HA2 := Lib.hid (alloc_two w1 (.cells #[.int .i64 0, .slice none 0 0] 33) (.cells #[] 39)).1
    go_region_law (first
      | (refine step_append_off rfl (.tmp 7) (.tmp 10) (by rfl) Tryz.underlying25 Tryz.infoRule rfl (by decide) (by rfl) (HE1.out _ (by repeat (first | exact Below.refl _ _ | refine Below.drew ?_ | refine below_drewN ?_ _ | refine Below.alloc ?_ (by simp; try omega) _))) (by simp; try omega) (by rfl) (src_rules Tryz.underlying25 (HR.out.later (Below.now HB0.out (by repeat (first | exact Below.refl _ _ | refine Below.drew ?_ | refine below_drewN ?_ _ | refine Below.alloc ?_ (by simp; try omega) _)))) cR) N3.out N4.out ?_; intro v2 w2 ho2 hg2; rw [Nat.zero_add, List.nil_append] at ho2; obtain ⟨va, vc, rfl⟩ := ho2.form; have k2 : Below w1.heap.size w1 w2 := Below.grown (by repeat (first | exact Below.refl _ _ | refine Below.drew ?_ | refine below_drewN ?_ _ | refine Below.alloc ?_ (by simp; try omega) _)) hg2 (by simp; try omega) (fun k hk => by simp [Value.ownBlock] at hk; omega); have HO2 := Lib.hid ho2; have t0 := (HBX.out w2 k2).1.1; have t1 := (HBX.out w2 k2).1.2.1; have t2 := fun o => (HBX.out _ (Below.now k2 (alloc_belowS w2 o))).1.1; have t3 := fun o => (HBX.out _ (Below.now k2 (alloc_belowS w2 o))).1.2.1; have xS : w2.heap[w1.heap.size + 1]? = some (.cells #[.int .i64 0, .slice none 0 0] 33 (0, 0)) := (hg2.block (w1.heap.size + 1) (by simp; try omega) (by simp [Value.ownBlock])).trans HA1.out; obtain ⟨x0, x1, x2, x3⟩ := rec_cells xS; have XS := Lib.hid xS; clear xS ho2 hg2)
      | (refine step_append_off rfl (.tmp 7) (.tmp 10) (by rfl) Tryz.underlying25 Tryz.infoRule rfl (by decide) (by rfl) (HE2.out _ (by repeat (first | exact Below.refl _ _ | refine Below.drew ?_ | refine below_drewN ?_ _ | refine Below.alloc ?_ (by simp; try omega) _))) (by simp; try omega) (by rfl) (src_rules Tryz.underlying25 (HR.out.later (Below.now HB0.out (by repeat (first | exact Below.refl _ _ | refine Below.drew ?_ | refine below_drewN ?_ _ | refine Below.alloc ?_ (by simp; try omega) _)))) cR) N3.out N4.out ?_; intro v2 w2 ho2 hg2; rw [Nat.zero_add, List.nil_append] at ho2; obtain ⟨va, vc, rfl⟩ := ho2.form; have k2 : Below w1.heap.size w1 w2 := Below.grown (by repeat (first | exact Below.refl _ _ | refine Below.drew ?_ | refine below_drewN ?_ _ | refine Below.alloc ?_ (by simp; try omega) _)) hg2 (by simp; try omega) (fun k hk => by simp [Value.ownBlock] at hk; omega); have HO2 := Lib.hid ho2; have t0 := (HBX.out w2 k2).1.1; have t1 := (HBX.out w2 k2).1.2.1; have t2 := fun o => (HBX.out _ (Below.now k2 (alloc_belowS w2 o))).1.1; have t3 := fun o => (HBX.out _ (Below.now k2 (alloc_belowS w2 o))).1.2.1; have xS : w2.heap[w1.heap.size]? = some (.cells #[.int .i64 0, .slice none 0 0] 33 (0, 0)) := (hg2.block w1.heap.size (by simp; try omega) (by simp [Value.ownBlock])).trans HA2.out; obtain ⟨x0, x1, x2, x3⟩ := rec_cells xS; have XS := Lib.hid xS; clear xS ho2 hg2)
      | (refine step_append_off rfl (.tmp 7) (.tmp 10) (by rfl) Tryz.underlying25 Tryz.infoRule rfl (by decide) (by rfl) (HE1.out _ (by repeat (first | exact Below.refl _ _ | refine Below.drew ?_ | refine below_drewN ?_ _ | refine Below.alloc ?_ (by simp; try omega) _))) (by simp; try omega) (by rfl) (src_rules Tryz.underlying25 (HR.out.later (Below.now HB0.out (by repeat (first | exact Below.refl _ _ | refine Below.drew ?_ | refine below_drewN ?_ _ | refine Below.alloc ?_ (by simp; try omega) _)))) cR) N3.out N4.out ?_; intro v2 w2 ho2 hg2; rw [Nat.zero_add, List.nil_append] at ho2; obtain ⟨va, vc, rfl⟩ := ho2.form; have k2 : Below w1.heap.size w1 w2 := Below.grown (by repeat (first | exact Below.refl _ _ | refine Below.drew ?_ | refine below_drewN ?_ _ | refine Below.alloc ?_ (by simp; try omega) _)) hg2 (by simp; try omega) (fun k hk => by simp [Value.ownBlock] at hk; omega); have HO2 := Lib.hid ho2; have t0 := (HBX.out w2 k2).1.1; have t1 := (HBX.out w2 k2).1.2.1; have t2 := fun o => (HBX.out _ (Below.now k2 (alloc_belowS w2 o))).1.1; have t3 := fun o => (HBX.out _ (Below.now k2 (alloc_belowS w2 o))).1.2.1; clear ho2 hg2))
    all_goals
      clear t0 t1 t2 t3
      (try (clear x0 x1 x2 x3))
      go_wp2_with fail
      go_meet
      first
        | exact ⟨_, _, rfl, alloc_at w2 _, HO2.out.later (alloc_belowS w2 _), k2.size, Below.now k2 (alloc_belowS w2 _)⟩
        | exact ⟨_, _, rfl, set_two XS.out _ _, HO2.out.set2 XS.out (by decide) _ _ _ _, by omega, (k2.setCell (by simp) _).setCell (by simp) _⟩
  case rest =>
    obtain ⟨g, vR, rfl, hgb, hor, hg1, hbc⟩ := hcut
    obtain ⟨va, vc, rfl⟩ := hor.form
    have HOR := Lib.hid hor
    have HBC := Lib.hid hbc
    obtain ⟨g0, g1, _, _⟩ := rec_cells hgb
    have HG : Hid (∀ W, Below wc.heap.size wc W → W.cell? ⟨g, 0, none⟩ = some (.int .i64 k) ∧ W.cell? ⟨g, 1, none⟩ = some (.slice va R.length vc)) := Lib.hid (fun W hW => by
      have h := rec_cells ((hW.block g (Array.getElem?_eq_some_iff.1 hgb).1).trans hgb)
      exact ⟨h.1, h.2.1⟩)
    clear s0 s1 s2 s3 hgb hor hbc
    obtain ⟨⟨_, _, s2, s3⟩, _, _⟩ := HBX.out wc HBC.out
    have p0 := fun o => (HG.out _ (alloc_belowS wc o)).1
    have p1 := fun o => (HG.out _ (alloc_belowS wc o)).2
    have p2 := fun o => (HBX.out _ (Below.now HBC.out (alloc_belowS wc o))).1.2.2.1
    have p3 := fun o => (HBX.out _ (Below.now HBC.out (alloc_belowS wc o))).1.2.2.2
    have HE2 := Lib.hid (off_empty 39 2 wc)
    go_wp2_with fail
    go_region_law (first
      | (refine step_append_off rfl (.tmp 14) (.tmp 16) (by rfl) Tryz.underlying25 Tryz.infoRule rfl (by decide) (by rfl) (HE2.out _ (by repeat (first | exact Below.refl _ _ | refine Below.drew ?_ | refine below_drewN ?_ _))) (by simp) (by rfl) (src_rules Tryz.underlying25 (HQ.out.later (Below.now HB0.out (Below.now HBC.out (by repeat (first | exact Below.refl _ _ | refine Below.drew ?_ | refine below_drewN ?_ _ | refine Below.alloc ?_ (by simp; try omega) _))))) cQ) M3.out M4.out ?_; intro v2 w2 ho2 hg2; rw [Nat.zero_add, List.nil_append] at ho2; obtain ⟨vb, vd, rfl⟩ := ho2.form; have k2 : Below wc.heap.size wc w2 := Below.grown (by repeat (first | exact Below.refl _ _ | refine Below.drew ?_ | refine below_drewN ?_ _ | refine Below.alloc ?_ (by simp; try omega) _)) hg2 (by simp) (fun k hk => by simp [Value.ownBlock] at hk; omega); have HO2 := Lib.hid ho2; have t0 := (HG.out w2 k2).1; have t1 := (HG.out w2 k2).2; have t3 := (HBX.out w2 (Below.now HBC.out k2)).1.2.2.2; obtain ⟨⟨u0, u1, u2, u3⟩, f0, f1, f2, f3⟩ := (HBX.out w2 (Below.now HBC.out k2)).2; clear ho2 hg2))
    all_goals
      have hsz := HSZ.out
      have F : Hid (RetCp k R Q T w (.returned (workVal k va R.length vc vb Q.length vd T)) ((((w2.setCell ⟨w.heap.size + 1, 0, none⟩ (.int .i64 k)).setCell ⟨w.heap.size + 1, 1, none⟩ (.slice va R.length vc)).setCell ⟨w.heap.size + 1, 2, none⟩ (.slice vb Q.length vd)).setCell ⟨w.heap.size + 1, 3, none⟩ (.int .i64 (T : Nat)))) :=
        Lib.hid ⟨va, vc, vb, vd, rfl,
          (((((HOR.out.later k2).setBelow (by show w.heap.size + 1 < _; omega) _).setBelow (by show w.heap.size + 1 < _; omega) _).setBelow (by show w.heap.size + 1 < _; omega) _).setBelow (by show w.heap.size + 1 < _; omega) _).mono (by omega),
          (((((HO2.out).setBelow (by show w.heap.size + 1 < _; have := HBC.out.size; omega) _).setBelow (by show w.heap.size + 1 < _; have := HBC.out.size; omega) _).setBelow (by show w.heap.size + 1 < _; have := HBC.out.size; omega) _).setBelow (by show w.heap.size + 1 < _; have := HBC.out.size; omega) _).mono (by have := HBC.out.size; omega),
          ((((Below.now HB0.out (Below.now HBC.out k2)).setCell (by simp; try omega) _).setCell (by simp; try omega) _).setCell (by simp; try omega) _).setCell (by simp; try omega) _⟩
      clear t0 t1 t3 k2
      go_wp2_with fail
      refine bodyPost_ret (v := workVal k va R.length vc vb Q.length vd T) ?_ rfl F.out
      simp [results, Tryz.results154, go_sem, u0, u1, u2, u3, workVal]
end Go.Proofs.YtgoeadgpbidgiaaGreatDoor
namespace Go.Proofs.YtgoeadgpbidgiaaGreatDoor
open Go.RowKit
set_option linter.unusedVariables false
section
variable {P : Program}
theorem run_append_off2 {tsl ty T : TypeId} {z : Value} {size bytes : Nat} (ht : P.underlying tsl = some (.slice T)) (hinfo : (P.info? T).map (fun i => (i.zero, i.size, i.bytes)) = some (some z, size, bytes))
    (hzs : z.cells.size = size) (hpos : 0 < size) {w : World} {base : Nat} {v x : Value} {n m : Nat} {xs news : List Value} (hb : ownsOff w base T size v n xs) (hbase : base ≤ w.heap.size) (hS : Go.Src P size tsl x m news w) (h63 : n + m ≤ maxLen) (hbytes : (n + m) * bytes ≤ 140737488355328) :
    ∃ v' w', (Builtin.append_ #[tsl, tsl] ty #[v, x]).run P w = .ok v' w' ∧ ownsOff w' base T size v' (n + m) (xs ++ news) ∧ w.grownBy w' v.ownBlock ∧ ∀ b, v'.ownBlock = some b → v.ownBlock = some b ∨ w.heap.size ≤ b := by
  have hn := hS.newsLen
  have h1 := hS.one
  obtain ⟨i, hi, hz, hsize, hby⟩ := info_parts hinfo
  subst hsize
  subst hby
  have hlen : (xs ++ news).length = (n + m) * i.size := by rw [List.length_append, hb.1, hn, Nat.add_mul]
  have h63' : ((n + m : Nat) : Int) ≤ 9223372036854775807 := by simp only [maxLen] at h63; omega
  have grown : ∀ (base0 : Option Addr) (cap : Nat), cap < n + m → (Builtin.firstCells i.size n (.slice base0 n cap)).run P w.drew = .ok xs.toArray w.drew → ∀ row,
      ∃ v' w', (Builtin.append_ #[tsl, tsl] ty #[.slice base0 n cap, x]).run P w = .ok v' w' ∧ ownsOff w' base T i.size v' (n + m) (xs ++ news) ∧ w.grownBy w' row ∧ ∀ b, v'.ownBlock = some b → w.heap.size ≤ b := by
    intro base0 cap hg hold row
    have hr := run_append_grow_src (P := P) w tsl tsl ty T i z ht hi hz base0 n cap xs hold x m news hS hg h63' (growslice_fits hg hbytes)
    have hge := grownCap_ge w (n + m) cap T
    have hcm : grownCap w (n + m) cap T ≤ maxLen := grownCap_le_maxLen w (n + m) cap T h63
    refine ⟨_, _, hr, ownsOff.of_row ⟨hlen, .inr ⟨w.heap.size, _, _, rfl, hbase, heap_alloc_new w.drew _, hge, hcm, ?_, ?_⟩⟩, ⟨rfl, rfl, rfl, by simp, fun k hk _ => heap_alloc_old w.drew _ hk⟩, fun b hb => by simp [Value.ownBlock] at hb; omega⟩
    · simp only [Array.size_append, List.size_toArray, size_zeroCells, hzs, hlen, ← Nat.add_mul]
      congr 1
      omega
    · simp only [Array.toList_append, List.append_assoc]
      rw [← List.append_assoc, ← hlen]
      exact List.take_left
  rcases hb.2 with ⟨rfl, rfl⟩ | ⟨g, o, cap, cur, rfl, hbg, hg, hnc, hcm, hcs, htake⟩
  · have hxs : xs = [] := List.eq_nil_of_length_eq_zero (by simpa using hb.1)
    subst hxs
    by_cases hm : m = 0
    · subst hm
      have hnn : news = [] := List.eq_nil_of_length_eq_zero (by simpa using hn)
      subst hnn
      refine ⟨.slice none 0 0, w, ?_, hb, ⟨rfl, rfl, rfl, Nat.le_refl _, fun _ _ _ => rfl⟩, fun b hb => by simp [Value.ownBlock] at hb⟩
      simp [Builtin.append_, run_underlying ht, sizeOf, typeInfo, hi, hS.len, hS.cells]
    · obtain ⟨v', w', h1, h2, h3, h4⟩ := grown none 0 (by omega) (by simp [Builtin.firstCells]) _
      exact ⟨v', w', h1, h2, h3, fun b hb => .inr (h4 b hb)⟩
  · by_cases hroom : n + m ≤ cap
    · have hfit : o + n * i.size + news.length ≤ cur.size := by
        rw [hn, Nat.add_assoc, ← Nat.add_mul]
        exact Nat.le_trans (Nat.add_le_add_left (Nat.mul_le_mul_right _ hroom) _) hcs
      have hst := run_storeCells_at P g (o + n * i.size) T news 0 cur w hg (by simpa using hfit) h1
      simp only [Nat.add_zero] at hst
      have hr : (Builtin.append_ #[tsl, tsl] ty #[.slice (some ⟨g, o, none⟩) n cap, x]).run P w = .ok (.slice (some ⟨g, o, none⟩) (n + m) cap) (w.setRow g (cur.toList.take (o + n * i.size) ++ news ++ cur.toList.drop (o + n * i.size + news.length)).toArray) := by
        simp [Builtin.append_, run_underlying ht, sizeOf, typeInfo, hi, hS.len, hroom, hS.cells, Addr.add_lit, hst]
      refine ⟨_, _, hr, ⟨hlen, .inr ⟨g, o, cap, _, rfl, hbg, setRow_heap w g cur _ T _ hg, hroom, hcm, ?_, ?_⟩⟩, ⟨rfl, rfl, rfl, by simp, fun k _ hk => setRow_other w g k _ (fun e => hk (by simp [Value.ownBlock, e]))⟩, fun b hb => .inl hb⟩
      · simp only [List.size_toArray, List.length_append, List.length_take, List.length_drop, Array.length_toList]
        omega
      · have e1 : (cur.toList.take (o + n * i.size)).drop o = xs := by rw [List.drop_take, Nat.add_sub_cancel_left, htake]
        have e2 : (cur.toList.take (o + n * i.size)).length = o + n * i.size := by rw [List.length_take, Array.length_toList]; omega
        have e3 : ((cur.toList.take (o + n * i.size) ++ news ++ cur.toList.drop (o + n * i.size + news.length)).toArray.toList).drop o = xs ++ news ++ cur.toList.drop (o + n * i.size + news.length) := by
          show (cur.toList.take (o + n * i.size) ++ news ++ cur.toList.drop (o + n * i.size + news.length)).drop o = _
          rw [List.append_assoc, List.drop_append_of_le_length (by omega), e1, List.append_assoc]
        rw [e3, ← hlen]
        exact List.take_left
    · have hc := hb.cellAt
      have := run_firstCells_some (P := P) w.drew i.size n ⟨g, o, none⟩ n cap xs hb.1 (fun j u hu => by rw [add_off]; simpa using hc j u hu)
      obtain ⟨v', w', h1, h2, h3, h4⟩ := grown (some ⟨g, o, none⟩) cap (by omega) this _
      exact ⟨v', w', h1, h2, h3, fun b hb => .inr (h4 b hb)⟩
theorem wpList_append_off2 {ops : Array Oper} {rest : List Oper} {o : Oper} {a : Act} {Q : Exit → Act → World → Prop} {T tsl : TypeId} {z : Value} {size bytes : Nat} (hgd : o.guard = none) (s x : Operand)
    (ho : o.op = .call { callee := .builtin .append, args := #[s, x], argTypes := #[tsl, tsl] }) (ht : P.underlying tsl = some (.slice T)) (hinfo : (P.info? T).map (fun i => (i.zero, i.size, i.bytes)) = some (some z, size, bytes))
    (hzs : z.cells.size = size) (hpos : 0 < size) {w : World} {base : Nat} {v u : Value} {n m : Nat} {xs news : List Value} (hs : a.eval s = v) (hb : ownsOff w base T size v n xs) (hbase : base ≤ w.heap.size) (hx : a.eval x = u) (hsrc : Go.Src P size tsl u m news w) (h63 : n + m ≤ maxLen) (hbytes : (n + m) * bytes ≤ 140737488355328)
    (hK : ∀ v' w', ownsOff w' base T size v' (n + m) (xs ++ news) → w.grownBy w' v.ownBlock → (∀ b, v'.ownBlock = some b → v.ownBlock = some b ∨ w.heap.size ≤ b) → wpList P ops Q rest (a.put o.dst v') w') : wpList P ops Q (o :: rest) a w := by
  refine wpList_plain hgd fun K hK' => ?_
  obtain ⟨v', w', hr, h2, h3, h4⟩ := run_append_off2 (P := P) (ty := o.type) ht hinfo hzs hpos hb hbase hsrc h63 hbytes
  unfold Oper.wp
  simp [execOp, ho, resolve, invoke, builtin, hs, hx, hr, Result.andThen]
  exact hK' _ _ (hK v' w' h2 h3 h4)
end
end Go.Proofs.YtgoeadgpbidgiaaGreatDoor
namespace Go.Proofs.YtgoeadgpbidgiaaGreatDoor
open Go.RowKit
set_option linter.unusedVariables false
def RetCl (l : List RulD) (w : World) (e : Ending) (w' : World) : Prop := ∃ a c, e = .returned (.slice a l.length c) ∧ ownsOff w' w.heap.size 39 2 (.slice a l.length c) l.length (ruleCells l) ∧ Below w.heap.size w w'
set_option maxRecDepth 20000 in
set_option maxHeartbeats 2000000 in
theorem cloneR_any (l : List RulD) (a : Option Addr) (cap : Nat) (w : World) (hl : RulesIn w a l) (hlen : l.length ≤ 1000000) :
    Calls Tryz.prog 127 #[.slice a l.length cap] w (RetCl l w) := by
  have q24 : ∀ (w : World) (a : Option Addr) (n c n' c' : Nat), (binOp .eql 25 (.slice a n c) (.slice none n' c')).run Tryz.prog w = .ok (.bool a.isNone) w := fun w a n c n' c' => Lib.run_eql_slice_nil w _ _ a n c n' c' Tryz.underlying25
  cases a with
  | none =>
    have hn : l = [] := by
      rcases hl with h | ⟨b, off, ha, _⟩
      · have hc := ruleCells_len l
        rw [h] at hc
        exact List.eq_nil_of_length_eq_zero (by simp at hc; omega)
      · cases ha
    subst hn
    have F : Hid (RetCl [] w (.returned (.slice none 0 0)) w) := Lib.hid ⟨none, 0, rfl, ⟨rfl, .inl ⟨rfl, rfl⟩⟩, Below.refl _ _⟩
    simp only [List.length_nil]
    go_enter Tryz.func127, Tryz.ntmps127
    go_wp2_with fail
    go_ret
    exact F.out
  | some ad =>
    have HE := Lib.hid (off_empty 39 2 w _ (Below.refl _ _))
    have HB2 := Lib.hid (alloc_belowS w (.cells #[] 39))
    have HSR := Lib.hid (src_rules (P := Tryz.prog) Tryz.underlying25 (RulesIn.later hl HB2.out) cap)
    have N3 : Hid (0 + l.length ≤ maxLen) := Lib.hid (by unfold maxLen; omega)
    have N4 : Hid ((0 + l.length) * 32 ≤ 140737488355328) := Lib.hid (by omega)
    clear hl hlen
    go_enter Tryz.func127, Tryz.ntmps127
    go_wp2_with (at_builtin; refine wpList_append_off2 rfl (.tmp 5) (.tmp 6) rfl Tryz.underlying25 Tryz.infoRule rfl (by decide) (by rfl) HE.out (by simp) (by rfl) HSR.out N3.out N4.out ?_; intro v2 w2 ho2 hg2 _; rw [Nat.zero_add, List.nil_append] at ho2; obtain ⟨va, vc, rfl⟩ := ho2.form; have k2 : Below w.heap.size w w2 := Below.grown HB2.out hg2 (by simp) (fun k hk => by simp [Value.ownBlock] at hk; omega))
    have F : Hid (RetCl l w (.returned (.slice va l.length vc)) w2) := Lib.hid ⟨va, vc, rfl, ho2, k2⟩
    clear ho2 hg2 k2
    go_wp2_with fail
    go_ret
    exact F.out
set_option maxHeartbeats 1000000 in
/-- an equation, the greater side on the left -/
theorem oriented_any (x y : ByteArray) (w : World) : Calls Tryz.prog 129 #[.agg #[.string x, .string y]] w fun e w' => e = .returned (.agg #[.string (orF2 x y).1, .string (orF2 x y).2]) ∧ Below w.heap.size w w' := by
  have HIL := Lib.hid (fun W => implIsLess_any x y W)
  have hlt := alloc_two w (.cells #[.string x, .string y] 39) (.cells #[.string ⟨#[]⟩, .string ⟨#[]⟩] 39)
  have hsz : ((w.alloc (.cells #[.string x, .string y] 39)).alloc (.cells #[.string ⟨#[]⟩, .string ⟨#[]⟩] 39)).heap.size = w.heap.size + 2 := by simp
  have HW0 : Hid (Below w.heap.size w ((w.alloc (.cells #[.string x, .string y] 39)).alloc (.cells #[.string ⟨#[]⟩, .string ⟨#[]⟩] 39))) := Lib.hid (Below.now (alloc_belowS w _) (alloc_belowS _ _))
  go_enter Tryz.func129, Tryz.ntmps129
  go_wp2_with fail
  refine (HIL.out _).mono ?_
  rintro e w2 ⟨rfl, hb2⟩
  have hbx := (hb2.block w.heap.size (by rw [hsz]; omega)).trans hlt.1
  have hz := (hb2.block (w.heap.size + 1) (by rw [hsz]; omega)).trans hlt.2
  have HBW := Lib.hid (Below.now HW0.out hb2)
  clear hb2 hlt hsz
  obtain ⟨s0, s1⟩ := sys_cells hbx
  obtain ⟨z0, z1⟩ := sys_cells hz
  have ff0 : w2.frozen? ⟨w.heap.size + 1, 0, none⟩ = false := by simp [World.frozen?, hz]
  have ff1 : w2.frozen? ⟨w.heap.size + 1, 1, none⟩ = false := by simp [World.frozen?, hz]
  cases hls : lessS x y
  · obtain ⟨u0, u1⟩ := sys_cells (set_two hz (.string x) (.string y))
    have F : Hid (Below w.heap.size w ((w2.setCell ⟨w.heap.size + 1, 0, none⟩ (.string x)).setCell ⟨w.heap.size + 1, 1, none⟩ (.string y))) := Lib.hid ((HBW.out.setCell (by show w.heap.size ≤ w.heap.size + 1; omega) _).setCell (by show w.heap.size ≤ w.heap.size + 1; omega) _)
    have E : orF2 x y = (x, y) := if_neg (by rw [hls]; simp)
    have HE := Lib.hid E
    clear E hls hbx hz
    go_wp2_with fail
    refine bodyPost_ret (v := .agg #[.string x, .string y]) ?_ rfl ⟨by rw [HE.out], F.out⟩
    simp [results, Tryz.results129, go_sem, u0, u1]
  · obtain ⟨u0, u1⟩ := sys_cells (set_two hz (.string y) (.string x))
    have F : Hid (Below w.heap.size w ((w2.setCell ⟨w.heap.size + 1, 0, none⟩ (.string y)).setCell ⟨w.heap.size + 1, 1, none⟩ (.string x))) := Lib.hid ((HBW.out.setCell (by show w.heap.size ≤ w.heap.size + 1; omega) _).setCell (by show w.heap.size ≤ w.heap.size + 1; omega) _)
    have E : orF2 x y = (y, x) := if_pos hls
    have HE := Lib.hid E
    clear E hls hbx hz
    go_wp2_with fail
    refine bodyPost_ret (v := .agg #[.string y, .string x]) ?_ rfl ⟨by rw [HE.out], F.out⟩
    simp [results, Tryz.results129, go_sem, u0, u1]
end Go.Proofs.YtgoeadgpbidgiaaGreatDoor
namespace Go.Proofs.YtgoeadgpbidgiaaGreatDoor
open Go.RowKit
set_option linter.unusedVariables false
/-- equations that a completion may start from -/
def startP (k : Int) (E : List RulD) : Prop := (1 ≤ k ∧ k ≤ 4) ∧ E.length ≤ 12 ∧ ∀ r ∈ E, sideP k r
theorem startP.work {k : Int} {E : List RulD} (h : startP k E) : WorkP k [] E 0 :=
  ⟨⟨⟨⟨h.1, by simp⟩, fun r hr => by cases hr⟩, fun r hr => by cases hr⟩, by have := h.2.1; omega, fun q hq => (h.2.2 q hq).1, by omega⟩
/-- what StartWork hands back -/
def RetSt (k : Int) (E : List RulD) (w : World) (e : Ending) (w' : World) : Prop :=
  (startP k E ∧ ∃ aQ cQ, e = .returned (.tuple #[workVal k none 0 0 aQ E.length cQ 0, .bool true]) ∧ RulesIn w' aQ E ∧ Below w.heap.size w w') ∨
  (¬ startP k E ∧ e = .returned (.tuple #[workVal 0 none 0 0 none 0 0 0, .bool false]) ∧ Below w.heap.size w w')
/-- a box of four cells is set -/
def put4 (W : World) (g : Nat) (a b c d : Value) : World := (((W.setCell ⟨g, 0, none⟩ a).setCell ⟨g, 1, none⟩ b).setCell ⟨g, 2, none⟩ c).setCell ⟨g, 3, none⟩ d
theorem put4_sets {W : World} {g : Nat} {x0 x1 x2 x3 : Value} {T : TypeId} (h : W.heap[g]? = some (.cells #[x0, x1, x2, x3] T (0, 0))) (a b c d : Value) :
    (W.frozen? ⟨g, 0, none⟩ = false ∧ W.frozen? ⟨g, 1, none⟩ = false ∧ W.frozen? ⟨g, 2, none⟩ = false ∧ W.frozen? ⟨g, 3, none⟩ = false) ∧
    ((put4 W g a b c d).cell? ⟨g, 0, none⟩ = some a ∧ (put4 W g a b c d).cell? ⟨g, 1, none⟩ = some b ∧ (put4 W g a b c d).cell? ⟨g, 2, none⟩ = some c ∧ (put4 W g a b c d).cell? ⟨g, 3, none⟩ = some d) ∧
    (W.cell? ⟨g, 0, none⟩ = some x0 ∧ W.cell? ⟨g, 1, none⟩ = some x1 ∧ W.cell? ⟨g, 2, none⟩ = some x2 ∧ W.cell? ⟨g, 3, none⟩ = some x3) ∧
    (put4 W g a b c d).heap[g]? = some (.cells #[a, b, c, d] T (0, 0)) := by
  have e : (put4 W g a b c d).heap[g]? = some (.cells #[a, b, c, d] T (0, 0)) := by
    unfold put4 World.setCell
    simp [Array.getElem?_modify, h]
  refine ⟨⟨by simp [World.frozen?, h], by simp [World.frozen?, h], by simp [World.frozen?, h], by simp [World.frozen?, h]⟩, ⟨by simp [World.cell?, e], by simp [World.cell?, e], by simp [World.cell?, e], by simp [World.cell?, e]⟩, ⟨by simp [World.cell?, h], by simp [World.cell?, h], by simp [World.cell?, h], by simp [World.cell?, h]⟩, e⟩
theorem put4_owns {W : World} {base : Nat} {T : TypeId} {size : Nat} {v : Value} {n : Nat} {xs : List Value} (h : ownsOff W base T size v n xs) {g : Nat} (hg : g < base) (a b c d : Value) : ownsOff (put4 W g a b c d) base T size v n xs :=
  (((h.setBelow (show g < base from hg) a).setBelow (show g < base from hg) b).setBelow (show g < base from hg) c).setBelow (show g < base from hg) d
theorem put4_below {B : Nat} {w W : World} (h : Below B w W) {g : Nat} (hg : B ≤ g) (a b c d : Value) : Below B w (put4 W g a b c d) := (((h.setCell (show B ≤ g from hg) a).setCell (show B ≤ g from hg) b).setCell (show B ≤ g from hg) c).setCell (show B ≤ g from hg) d
set_option maxRecDepth 100000 in
set_option maxHeartbeats 4000000 in
theorem specStartWork_any (k : Int) (E : List RulD) (a : Option Addr) (cap : Nat) (w : World) (hl : RulesIn w a E) (hlen : E.length ≤ 2 ^ 40) (hz : SzR E) :
    Calls Tryz.prog 118 #[.int .i64 k, .slice a E.length cap] w (RetSt k E w) := by
  have HL := Lib.hid hl
  have HZ := Lib.hid hz
  have HW1 := Lib.hid (alloc_belowS w (.cells #[.int .i64 0, .slice none 0 0, .slice none 0 0, .int .i64 0] 69))
  have hsz : w.heap.size < (w.alloc (.cells #[.int .i64 0, .slice none 0 0, .slice none 0 0, .int .i64 0] 69)).heap.size := by simp
  have hat := alloc_at w (.cells #[.int .i64 0, .slice none 0 0, .slice none 0 0, .int .i64 0] 69)
  have HBK : Hid (∀ W, Below (w.alloc (.cells #[.int .i64 0, .slice none 0 0, .slice none 0 0, .int .i64 0] 69)).heap.size (w.alloc (.cells #[.int .i64 0, .slice none 0 0, .slice none 0 0, .int .i64 0] 69)) W → W.heap[w.heap.size]? = some (.cells #[.int .i64 0, .slice none 0 0, .slice none 0 0, .int .i64 0] 69 (0, 0))) := Lib.hid (fun W hW => (hW.block _ hsz).trans hat)
  have HIN := Lib.hid (fun W => l01In_any k 1 4 W)
  have HSD := Lib.hid (fun (r : RulD) W (h1 : r.1.size ≤ maxLen) (h2 : r.2.size ≤ maxLen) => specSidesOk_any k r.1 r.2 W h1 h2)
  have HNO : Hid (∀ W, Below (w.alloc (.cells #[.int .i64 0, .slice none 0 0, .slice none 0 0, .int .i64 0] 69)).heap.size (w.alloc (.cells #[.int .i64 0, .slice none 0 0, .slice none 0 0, .int .i64 0] 69)) W → ¬ startP k E → RetSt k E w (.returned (.tuple #[.agg #[.int .i64 0, .slice none 0 0, .slice none 0 0, .int .i64 0], .bool false])) (put4 W w.heap.size (.int .i64 0) (.slice none 0 0) (.slice none 0 0) (.int .i64 0))) :=
    Lib.hid (fun W hW hn => .inr ⟨hn, rfl, put4_below (Below.now HW1.out hW) (Nat.le_refl _) _ _ _ _⟩)
  have HS1 := Lib.hid hsz
  clear hl hz hat hsz
  go_enter Tryz.func118, Tryz.ntmps118
  go_wp2_with fail
  generalize w.alloc (.cells #[.int .i64 0, .slice none 0 0, .slice none 0 0, .int .i64 0] 69) = w1 at *
  refine (HIN.out _).mono ?_
  rintro e w2 ⟨rfl, rfl⟩
  cases hk : inB k 1 4
  · have F := Lib.hid (HNO.out _ (Below.refl _ _) (fun h => by have h1 := h.1; unfold inB at hk; simp at hk; omega))
    obtain ⟨⟨f0, f1, f2, f3⟩, ⟨u0, u1, u2, u3⟩, ⟨q0, q1, q2, q3⟩, _⟩ := put4_sets (HBK.out _ (Below.refl _ _)) (.int .i64 0) (.slice none 0 0) (.slice none 0 0) (.int .i64 0)
    unfold put4 at F u0 u1 u2 u3
    go_wp2_with fail
    refine bodyPost_ret (v := .tuple #[.agg #[.int .i64 0, .slice none 0 0, .slice none 0 0, .int .i64 0], .bool false]) ?_ rfl F.out
    simp [results, Tryz.results118, go_sem, u0, u1, u2, u3]
  · have hk2 : 1 ≤ k ∧ k ≤ 4 := by unfold inB at hk; simp at hk; omega
    have HK := Lib.hid hk2
    clear hk2 HIN
    by_cases h12 : 12 < E.length
    · have hd : decide ((12 : Int) < (E.length : Int)) = true := by simp; omega
      have hd2 : (12 : Int) < (E.length : Int) := by omega
      have F := Lib.hid (HNO.out _ (Below.refl _ _) (fun h => by have h1 := h.2.1; omega))
      obtain ⟨⟨f0, f1, f2, f3⟩, ⟨u0, u1, u2, u3⟩, ⟨q0, q1, q2, q3⟩, _⟩ := put4_sets (HBK.out _ (Below.refl _ _)) (.int .i64 0) (.slice none 0 0) (.slice none 0 0) (.int .i64 0)
      unfold put4 at F u0 u1 u2 u3
      go_wp2_with fail
      refine bodyPost_ret (v := .tuple #[.agg #[.int .i64 0, .slice none 0 0, .slice none 0 0, .int .i64 0], .bool false]) ?_ rfl F.out
      simp [results, Tryz.results118, go_sem, u0, u1, u2, u3]
    · have hd : decide ((12 : Int) < (E.length : Int)) = false := by simp; omega
      have hd2 : ¬ (12 : Int) < (E.length : Int) := by omega
      go_wp2_with fail
      go_loopw [19] (fun vi wr => ∃ i : Nat, i ≤ E.length ∧ vi = .int .i64 (i : Nat) ∧ Below w1.heap.size w1 wr ∧ Hid (∀ j, j < i → sideP k (nthR E j))) (fun vi _ => E.length - (intOf vi).toNat)
      case atStart => exact ⟨0, Nat.zero_le _, rfl, Below.refl _ _, Lib.hid (fun j hj => by omega)⟩
      case round =>
        obtain ⟨i, hi, rfl, hbw, HD⟩ := hrel
        have HB := Lib.hid hbw
        clear hbw
        by_cases hlt : i < E.length
        · obtain ⟨b, off, rfl, hb, k0, k1⟩ := rule_at HL.out (Below.now HW1.out HB.out) hlt
          have hz := HZ.out i hlt
          have HC := Lib.hid (fun W => HSD.out (nthR E i) W hz.1 hz.2)
          have HMEM := Lib.hid (nthR_mem hlt)
          have HDS : Hid (sideP k (nthR E i) → ∀ j, j < i + 1 → sideP k (nthR E j)) := Lib.hid (fun h j hj => by
            rcases Nat.lt_succ_iff_lt_or_eq.1 hj with h1 | rfl
            · exact HD.out j h1
            · exact h)
          clear hz
          generalize nthR E i = r at *
          have HB2 := Lib.hid (Below.now HB.out (alloc_belowS wr (.cells #[.string r.1, .string r.2] 39)))
          go_wp2_with fail
          refine (HC.out _).mono ?_
          rintro e w3 ⟨bb, hbb, rfl, hb3⟩
          have HBB := Lib.hid hbb
          have HB3 := Lib.hid (Below.now HB2.out hb3)
          clear hbb hb3 k0 k1
          cases bb
          · have F := Lib.hid (HNO.out _ HB3.out (fun h => by
              have h1 := h.2.2 r HMEM.out
              have := HBB.out.2 h1
              cases this))
            obtain ⟨⟨f0, f1, f2, f3⟩, ⟨u0, u1, u2, u3⟩, ⟨q0, q1, q2, q3⟩, _⟩ := put4_sets (HBK.out _ HB3.out) (.int .i64 0) (.slice none 0 0) (.slice none 0 0) (.int .i64 0)
            unfold put4 at F u0 u1 u2 u3
            go_wp2_with fail
            refine bodyPost_ret (v := .tuple #[.agg #[.int .i64 0, .slice none 0 0, .slice none 0 0, .int .i64 0], .bool false]) ?_ rfl F.out
            simp [results, Tryz.results118, go_sem, u0, u1, u2, u3]
          · have HD2 := Lib.hid (HDS.out (HBB.out.1 rfl))
            go_wp2_with fail
            go_roundw
            case rel => exact ⟨i + 1, by omega, by go_num, HB3.out, HD2⟩
            case measure => simp [intOf]; omega
        · obtain rfl : i = E.length := by omega
          have HP : Hid (startP k E) := Lib.hid ⟨HK.out, by omega, fun r hr => by
            obtain ⟨j, hj, rfl⟩ := mem_nthR hr
            exact HD.out j hj⟩
          have HE := Lib.hid (off_empty 39 2 wr _ (Below.refl _ _))
          have HB2 := Lib.hid (alloc_belowS wr (.cells #[] 39))
          have HSR := Lib.hid (src_rules (P := Tryz.prog) Tryz.underlying25 (HL.out.later (Below.now HW1.out (Below.now HB.out HB2.out))) cap)
          generalize hW : wr = wm at *
          clear hW
          go_wp2_with (at_builtin; (refine wpList_append_off2 rfl (.tmp 31) (.tmp 32) rfl Tryz.underlying25 Tryz.infoRule rfl (by decide) (by rfl) HE.out (by simp) (by rfl) HSR.out (by unfold maxLen; omega) (by omega) ?_; intro v2 w2 ho2 hg2 _; rw [Nat.zero_add, List.nil_append] at ho2; obtain ⟨va, vc, rfl⟩ := ho2.form; have k2 : Below wm.heap.size wm w2 := Below.grown HB2.out hg2 (by simp) (fun k hk => by simp [Value.ownBlock] at hk; omega); obtain ⟨⟨f0, f1, f2, f3⟩, ⟨u0, u1, u2, u3⟩, ⟨q0, q1, q2, q3⟩, _⟩ := put4_sets (HBK.out _ (Below.now HB.out k2)) (.int .i64 k) (.slice none 0 0) (.slice va E.length vc) (.int .i64 0); have HO2 := Lib.hid ho2; have K2 := Lib.hid k2; clear ho2 hg2 k2))
          have F : Hid (RetSt k E w (.returned (.tuple #[.agg #[.int .i64 k, .slice none 0 0, .slice va E.length vc, .int .i64 0], .bool true])) (put4 w2 w.heap.size (.int .i64 k) (.slice none 0 0) (.slice va E.length vc) (.int .i64 0))) := Lib.hid (.inl ⟨HP.out, va, vc, rfl, (put4_owns HO2.out (by have := HS1.out; have := HB.out.size; omega) _ _ _ _).cells, put4_below (Below.now HW1.out (Below.now HB.out K2.out)) (Nat.le_refl _) _ _ _ _⟩)
          unfold put4 at F u0 u1 u2 u3
          refine bodyPost_ret (v := .tuple #[.agg #[.int .i64 k, .slice none 0 0, .slice va E.length vc, .int .i64 0], .bool true]) ?_ rfl F.out
          simp [results, Tryz.results118, go_sem, u0, u1, u2, u3]
end Go.Proofs.YtgoeadgpbidgiaaGreatDoor
