/-
  GrowthOf and GrowthLine of the reference.
-/
import Derived.Test.YtdhaebbfiaddnaaGreatDoorGre14
import Derived.Test.YtdhaebbfiaddnaaGreatDoorGre08
namespace Go.Proofs.YtdhaebbfiaddnaaGreatDoor
open Go.RowKit
set_option linter.unusedVariables false
def keyV (V : WayD) : List Value := V.map fun p => .string p.1
def cntV (V : WayD) : List Value := V.map fun p => .int .i64 (p.2 : Int)
theorem keyV_len (V : WayD) : (keyV V).length = V.length := by simp [keyV]
theorem cntV_len (V : WayD) : (cntV V).length = V.length := by simp [cntV]
/-- ends and numbers that are being built -/
def Ways (w wr : World) (v u : Value) (V : WayD) : Prop := TwoB w wr v (keyV V) u (cntV V)
def nthW (V : WayD) (i : Nat) : ByteArray × Nat := V.getD i (⟨#[]⟩, 0)
theorem nthW_lt {V : WayD} {i : Nat} (h : i < V.length) : nthW V i = V[i] := by simp [nthW, List.getD_eq_getElem?_getD, h]
/-- the ends and the numbers lie in two slices -/
def WaysIn (w : World) (a a2 : Option Addr) (W : WayD) : Prop := CellsIn w a (keyV W) ∧ CellsIn w a2 (cntV W)
theorem WaysIn.later {w w' : World} {a a2 : Option Addr} {W : WayD} (h : WaysIn w a a2 W) (hb : Below w.heap.size w w') : WaysIn w' a a2 W := ⟨h.1.later hb, h.2.later hb⟩
theorem cells_at {w : World} {a : Option Addr} {xs : List Value} (h : CellsIn w a xs) {i : Nat} {x : Value} (hi : xs[i]? = some x) : ∃ b off, a = some ⟨b, off, none⟩ ∧ w.cell? ⟨b, off + i, none⟩ = some x := by
  obtain ⟨hl, rfl⟩ := List.getElem?_eq_some_iff.1 hi
  rcases h with h | ⟨b, off, ha, hc⟩
  · rw [h] at hl; simp at hl
  · exact ⟨b, off, ha, hc i hl⟩
theorem WaysIn.at {w : World} {a a2 : Option Addr} {W : WayD} (h : WaysIn w a a2 W) {i : Nat} (hi : i < W.length) :
    ∃ b off b2 off2, a = some ⟨b, off, none⟩ ∧ a2 = some ⟨b2, off2, none⟩ ∧ w.cell? ⟨b, off + i, none⟩ = some (.string (nthW W i).1) ∧ w.cell? ⟨b2, off2 + i, none⟩ = some (.int .i64 ((nthW W i).2 : Int)) := by
  obtain ⟨b, off, ha, h1⟩ := cells_at h.1 (i := i) (x := .string (nthW W i).1) (by simp [keyV, hi, nthW_lt hi])
  obtain ⟨b2, off2, ha2, h2⟩ := cells_at h.2 (i := i) (x := .int .i64 ((nthW W i).2 : Int)) (by simp [cntV, hi, nthW_lt hi])
  exact ⟨b, off, b2, off2, ha, ha2, h1, h2⟩
theorem keyV_app (V : WayD) (e : ByteArray) (c : Nat) : keyV (V ++ [(e, c)]) = keyV V ++ [.string e] := by simp [keyV]
theorem cntV_app (V : WayD) (e : ByteArray) (c : Nat) : cntV (V ++ [(e, c)]) = cntV V ++ [.int .i64 (c : Int)] := by simp [cntV]
theorem keyV_add (V : WayD) (i c : Nat) : keyV (addW V i c) = keyV V := by
  unfold keyV addW
  apply List.ext_getElem (by simp)
  intro j h1 h2
  simp [List.getElem_modify]
  split <;> rfl
theorem cntV_add {V : WayD} {i : Nat} (h : i < V.length) (c : Nat) : cntV (addW V i c) = (cntV V).set i (.int .i64 (((nthW V i).2 + c : Nat) : Int)) := by
  unfold cntV addW
  apply List.ext_getElem (by simp)
  intro j h1 h2
  simp only [List.getElem_map, List.getElem_modify, List.getElem_set]
  by_cases e : i = j
  · subst e; simp [nthW_lt h]
  · simp [e]
theorem addW_last (V : WayD) (e : ByteArray) (c : Nat) : addW (V ++ [(e, 0)]) V.length c = V ++ [(e, c)] := by
  rw [addW_split (by simp)]
  simp
theorem Ways.later {w wr wr' : World} {v u : Value} {V : WayD} (h : Ways w wr v u V) (hb : Below wr.heap.size wr wr') : Ways w wr' v u V := TwoB.later h hb
theorem Ways.form {w wr : World} {v u : Value} {V : WayD} (h : Ways w wr v u V) : ∃ a c a2 c2, v = .slice a V.length c ∧ u = .slice a2 V.length c2 := by
  obtain ⟨a, c, hv⟩ := owns_form h.1.1
  obtain ⟨a2, c2, hu⟩ := owns_form h.2.1.1
  rw [keyV_len] at hv
  rw [cntV_len] at hu
  exact ⟨a, c, a2, c2, hv, hu⟩
theorem Ways.read {w wr : World} {v u : Value} {V : WayD} (h : Ways w wr v u V) {i : Nat} (hi : i < V.length) : ∃ g c g2 c2, v = .slice (some ⟨g, 0, none⟩) V.length c ∧ u = .slice (some ⟨g2, 0, none⟩) V.length c2 ∧
    wr.cell? ⟨g, i, none⟩ = some (.string (nthW V i).1) ∧ wr.cell? ⟨g2, i, none⟩ = some (.int .i64 ((nthW V i).2 : Int)) ∧ wr.frozen? ⟨g2, i, none⟩ = false := by
  obtain ⟨g, c, hv⟩ := owns_slot h.1.1 (by rw [keyV_len]; omega)
  obtain ⟨g2, c2, hu⟩ := owns_slot h.2.1.1 (by rw [cntV_len]; omega)
  rw [keyV_len] at hv
  rw [cntV_len] at hu
  subst hv hu
  refine ⟨g, c, g2, c2, rfl, rfl, ?_, ?_, by have h2 := h.2.1.1; rw [cntV_len] at h2; exact h2.frozenAt i⟩
  · have h1 := h.1.1
    rw [keyV_len] at h1
    rw [World.ownsRow.cellAt h1 i (by omega)]; simp [keyV, hi, nthW_lt hi]
  · have h1 := h.2.1.1
    rw [cntV_len] at h1
    rw [World.ownsRow.cellAt h1 i (by omega)]; simp [cntV, hi, nthW_lt hi]
theorem Ways.addU {w wr : World} {v : Value} {V : WayD} {g2 c2 : Nat} (h : Ways w wr v (.slice (some ⟨g2, 0, none⟩) V.length c2) V) {i : Nat} (hi : i < V.length) (c : Nat) : Ways w (wr.setCell ⟨g2, i, none⟩ (.int .i64 (((nthW V i).2 + c : Nat) : Int))) v (.slice (some ⟨g2, 0, none⟩) V.length c2) (addW V i c) := by
  unfold Ways at *
  rw [keyV_add, cntV_add hi]
  have h1 : (Value.slice (some ⟨g2, 0, none⟩) V.length c2) = .slice (some ⟨g2, 0, none⟩) (cntV V).length c2 := by rw [cntV_len]
  rw [h1] at h ⊢
  exact h.setU (by rw [cntV_len]; exact hi) _
theorem Ways.drewN {w wr : World} {v u : Value} {V : WayD} (h : Ways w wr v u V) (n : Nat) : Ways w (wr.drewN n) v u V := h.later ⟨rfl, rfl, rfl, Nat.le_refl _, fun _ _ => rfl⟩
/-- what l07Next hands back -/
def RetWays (R : List RulD) (k n : Nat) (w : World) (e : Ending) (w' : World) : Prop :=
  ∃ V a c a2 c2, e = .returned (.tuple #[.slice a V.length c, .slice a2 V.length c2]) ∧ WayAt R k (n + 1) V ∧ WaysIn w' a a2 V ∧ Below w.heap.size w w' ∧ (∀ x, a = some x → w.heap.size ≤ x.block ∧ x.block < w'.heap.size) ∧ ∀ x, a2 = some x → w.heap.size ≤ x.block ∧ x.block < w'.heap.size
theorem Ways.out {w wr : World} {v u : Value} {V : WayD} (h : Ways w wr v u V) : ∃ a c a2 c2, v = .slice a V.length c ∧ u = .slice a2 V.length c2 ∧ WaysIn wr a a2 V ∧ (∀ x, a = some x → w.heap.size ≤ x.block ∧ x.block < wr.heap.size) ∧ ∀ x, a2 = some x → w.heap.size ≤ x.block ∧ x.block < wr.heap.size := by
  obtain ⟨a, c, a2, c2, rfl, rfl⟩ := h.form
  exact ⟨a, c, a2, c2, rfl, rfl, ⟨owns_cells h.1.1, owns_cells h.2.1.1⟩, fun x hx => by subst hx; exact h.1.1.lt x.block rfl, fun x hx => by subst hx; exact h.2.1.1.lt x.block rfl⟩
theorem eq_natB {j k : Nat} (h : ¬ j = k) : ((j : Int) == (k : Int)) = false := by rw [beq_eq_false_iff_ne]; omega
theorem nthW_app {V : WayD} {p : ByteArray × Nat} : nthW (V ++ [p]) V.length = p := by rw [nthW_lt (by simp)]; simp
set_option maxRecDepth 100000 in
set_option maxHeartbeats 4000000 in
theorem l07Next_any (k n : Nat) (R : List RulD) (W : WayD) (a ae ac : Option Addr) (cap ce cc : Nat) (w : World) (hl : RulesIn w a R) (hlen : R.length ≤ 2 ^ 40) (hz : ∀ j, j < R.length → (nthR R j).1.size ≤ 8 ∧ (nthR R j).2.size ≤ 8) (hk : k ≤ 4) (hn : n ≤ 16) (hW : WayAt R k n W) (hI : WaysIn w ae ac W) :
    Calls Tryz.prog 143 #[.agg #[.int .i64 (k : Nat), .slice a R.length cap], .slice ae W.length ce, .slice ac W.length cc] w (RetWays R k n w) := by
  have HL := Lib.hid hl
  have HZ := Lib.hid hz
  have HWA := Lib.hid hW
  have HI := Lib.hid hI
  have HSZ : Hid (SzR R) := Lib.hid (fun j hj => by have := hz j hj; unfold maxLen; omega)
  have hWl : W.length ≤ 17179869184 := by
    have h1 := PosW.len (R := R) (k := k) hW.pos
    have h2 := hW.eq 0
    have h3 := paths_le (R := R) hk (n + 0) ⟨#[]⟩
    have h4 := pow16 (show n + 0 ≤ 17 by omega)
    omega
  have hk7 : keepR R ≤ 8 := by
    have key : ∀ j, j ≤ R.length → lsTo R j ≤ 8 := fun j => by
      induction j with
      | zero => intro _; exact Nat.zero_le _
      | succ j ih =>
        intro h
        have h1 := ih (by omega)
        have h2 := (hz j (by omega)).1
        show max _ _ ≤ _
        omega
    have h1 := key R.length (Nat.le_refl _)
    unfold keepR lsL
    omega
  have HK7 := Lib.hid hk7
  have kc := convC
  clear hl hz hW hI hk7
  go_enter Tryz.func143, Tryz.ntmps143
  go_wp2_with fail
  obtain ⟨w0, hw0⟩ : ∃ w0, w0 = w.alloc (.cells #[.int .i64 (k : Nat), .slice a R.length cap] 25) := ⟨_, rfl⟩
  have hb0 : Below w.heap.size w w0 := by rw [hw0]; exact alloc_belowS _ _
  have hbx : w0.heap[w.heap.size]? = some (.cells #[.int .i64 (k : Nat), .slice a R.length cap] 25 (0, 0)) := by rw [hw0]; exact alloc_at _ _
  have hs0 : w0.heap.size = w.heap.size + 1 := by rw [hw0]; simp
  have HW0 : Hid (Ways w0 ((w0.alloc (.cells #[] 9)).alloc (.cells #[] 3)) (.slice (some ⟨w.heap.size + 1, 0, none⟩) 0 0) (.slice (some ⟨w.heap.size + 1 + 1, 0, none⟩) 0 0) []) := Lib.hid (by
    have h1 := (Bld.empty 9 1 w0).later (alloc_belowS _ (.cells #[] 3))
    have h2 := (Bld.empty 3 1 (w0.alloc (.cells #[] 9))).since (alloc_belowS w0 (.cells #[] 9))
    rw [hs0] at h1
    rw [show (w0.alloc (.cells #[] 9)).heap.size = w.heap.size + 1 + 1 by simp [hs0]] at h2
    exact ⟨h1, h2, fun kk hk2 e => by simp only [Value.ownBlock, Option.some.injEq] at hk2 e; omega⟩)
  have HBX : Hid (∀ W2, Below w0.heap.size w0 W2 → W2.cell? ⟨w.heap.size, 0, none⟩ = some (.int .i64 (k : Nat)) ∧ W2.cell? ⟨w.heap.size, 1, none⟩ = some (.slice a R.length cap)) := Lib.hid (fun W2 hW2 => sys_cells ((hW2.block w.heap.size (by omega)).trans hbx))
  have HB0 := Lib.hid hb0
  rw [← hw0]
  clear hw0 hb0 hbx hs0
  go_loopw [8, 9, 19] (fun v u i wr => ∃ (j : Nat) (V : WayD), j ≤ W.length ∧ i = .int .i64 (j : Nat) ∧ Ways w0 wr v u V ∧ WayTo R k W j 0 ⟨#[]⟩ 0 V) (fun _ _ i _ => W.length - (intOf i).toNat)
  case atStart => exact ⟨0, [], Nat.zero_le _, rfl, HW0.out, WayTo.start _ _ _ _ _⟩
  case round =>
    clear HW0
    obtain ⟨j, V1, hj, rfl, hwy, hto⟩ := hrel
    obtain ⟨av, cv, au, cu, rfl, rfl⟩ := hwy.form
    have HWY := Lib.hid hwy
    have HTO := Lib.hid hto
    clear hto
    by_cases hlt : j < W.length
    · obtain ⟨b, off, b2, off2, rfl, rfl, c1w, c2w⟩ := HI.out.at hlt
      have c1 : wr.cell? ⟨b, off + j, none⟩ = some (.string (nthW W j).1) := by rw [(Below.now HB0.out hwy.1.2).cell (World.block_lt_of_cell? w _ c1w)]; exact c1w
      have HWJ := Lib.hid (nthW_lt hlt)
      have hesz : (nthW W j).1.size ≤ 8 := by
        have := HWA.out.short _ (List.getElem_mem hlt)
        have h2 := HK7.out
        rw [HWJ.out]; omega
      have hcb : (nthW W j).2 ≤ 17179869184 := by
        have h2 := wsum_take_le R k 0 W (j + 1)
        rw [wsum_take _ _ _ _ hlt, ← HWJ.out] at h2
        have h3 : paths R k 0 (nthW W j).1 = 1 := rfl
        rw [h3] at h2
        have h4 := HWA.out.eq 0
        have h5 := paths_le (R := R) hk (n + 0) ⟨#[]⟩
        have h6 := pow16 (show n + 0 ≤ 17 by omega)
        omega
      have HCP : Hid (1 ≤ (nthW W j).2) := Lib.hid (by rw [HWJ.out]; exact HWA.out.pos _ (List.getElem_mem hlt))
      have HCC : Hid (∀ W2, Below w0.heap.size w0 W2 → W2.cell? ⟨b2, off2 + j, none⟩ = some (.int .i64 ((nthW W j).2 : Int))) := Lib.hid (fun W2 hW2 => by rw [(Below.now HB0.out hW2).cell (World.block_lt_of_cell? w _ c2w)]; exact c2w)
      clear c1w c2w
      have HTJ : Hid (WayTo R k W j 0 (nthW W j).1 (nthW W j).2 V1) := Lib.hid HTO.out.other
      have HLE : Hid (∀ V x, x ≤ k → WayTo R k W j x (nthW W j).1 (nthW W j).2 V → wsum R k 0 V ≤ 17179869184) := Lib.hid (fun V x hx h => by
        rw [HWJ.out] at h
        have h1 := WayTo.le hk HWA.out hlt hx h
        have h2 := pow16 (show n + 1 ≤ 17 by omega)
        omega)
      have HROW : Hid (∀ V, WayTo R k W j k (nthW W j).1 (nthW W j).2 V → WayTo R k W (j + 1) 0 ⟨#[]⟩ 0 V) := Lib.hid (fun V h => by rw [HWJ.out] at h; exact h.row hlt _ _)
      clear hwy HTO
      generalize hpe : (nthW W j).1 = e at *
      generalize hpc : (nthW W j).2 = c at *
      clear hpe hpc HWJ
      go_wp2_with fail
      generalize hW : wr = wr0 at *
      clear hW c1
      go_loopw [8, 9, 12] (fun v u i wr => ∃ (x : Nat) (V : WayD), x ≤ k ∧ i = .int .i64 (x : Nat) ∧ Ways w0 wr v u V ∧ Hid (WayTo R k W j x e c V)) (fun _ _ i _ => k - (intOf i).toNat)
      case atStart => exact ⟨0, V1, Nat.zero_le _, rfl, HWY.out, HTJ⟩
      case round =>
        clear HWY HTJ
        obtain ⟨x, V, hx, rfl, hwy, HTO⟩ := hrel
        obtain ⟨av, cv, au, cu, rfl, rfl⟩ := hwy.form
        have HWY := Lib.hid hwy
        obtain ⟨s0, s1⟩ := HBX.out wr hwy.1.2
        clear hwy
        by_cases hlx : x < k
        · have s0a : ∀ o, (wr.alloc o).cell? ⟨w.heap.size, 0, none⟩ = some (.int .i64 (k : Nat)) := fun o => by rw [(alloc_belowS wr o).cell (World.block_lt_of_cell? wr _ s0)]; exact s0
          have s1a : ∀ o, (wr.alloc o).cell? ⟨w.heap.size, 1, none⟩ = some (.slice a R.length cap) := fun o => by rw [(alloc_belowS wr o).cell (World.block_lt_of_cell? wr _ s1)]; exact s1
          have hu : IntKind.u8.wrap (97 + (x : Int)) = 97 + (x : Int) := by simp [IntKind.wrap, IntKind.signed, IntKind.bits]; omega
          have hvs : (e ++ oneC (97 + (x : Int))).size ≤ 9 := by
            rw [ByteArray.size_append]
            have : (oneC (97 + (x : Int))).size = 1 := rfl
            omega
          have HEN := Lib.hid (fun W2 h => l07Ends_any (k : Nat) R (e ++ oneC (97 + (x : Int))) a cap W2 h hlen (fun j hj => by have := (HZ.out j hj).1; omega) (by omega))
          have HCU := Lib.hid (fun W2 h => l07Cut_any (k : Nat) R (e ++ oneC (97 + (x : Int))) a cap W2 h hlen HSZ.out (by omega))
          have HOK : Hid (okX R e x = !endsR R (e ++ oneC (97 + (x : Int)))) := Lib.hid rfl
          have HNX : Hid (nxtX R e x = cutR R (e ++ oneC (97 + (x : Int)))) := Lib.hid rfl
          have hos : ∀ z, (oneC z).size = 1 := fun z => rfl
          have hesz1 : ¬ (9223372036854775807 : Int) < (e.size : Int) + 1 := by omega
          have hesz2 : ¬ 9223372036854775807 < e.size + 1 := by omega
          go_wp2_with fail
          clear hu kc hos hesz1 hesz2
          generalize e ++ oneC (97 + (x : Int)) = v at *
          refine (HEN.out _ (HL.out.later (Below.now HB0.out (HWY.out.1.2.alloc HWY.out.1.2.size _)))).mono ?_
          rintro e2 w2 ⟨rfl, hb2⟩
          have HW2 := Lib.hid (HWY.out.later (Below.now (alloc_belowS wr _) hb2))
          obtain ⟨t0, t1⟩ := HBX.out w2 HW2.out.1.2
          clear hb2 HEN s0 s1 s0a s1a HWY
          cases hend : endsR R v
          · have hok : okX R e x = true := by rw [HOK.out, hend]; rfl
            have HOKT := Lib.hid hok
            clear hok hend HOK
            go_wp2_with fail
            refine (HCU.out _ (HL.out.later (Below.now HB0.out HW2.out.1.2))).mono ?_
            rintro e3 w3 ⟨rfl, hb3⟩
            have HW3 := Lib.hid (HW2.out.later hb3)
            have HNX2 := HNX
            clear hb3 HCU t0 t1 HW2 HNX
            generalize cutR R v = nx at *
            have hVl : V.length ≤ 17179869184 := by
              have h1 := PosW.len (R := R) (k := k) HTO.out.pos
              have h2 := HLE.out V x hx HTO.out
              omega
            go_wp2_with fail
            go_loop [14] (fun i => ∃ d : Nat, d ≤ V.length ∧ i = .int .i64 (d : Nat) ∧ Hid (∀ d', d' < d → (nthW V d').1 ≠ nx)) (fun i => V.length - (intOf i).toNat)
            case atStart => exact ⟨0, Nat.zero_le _, rfl, Lib.hid (fun d' h => absurd h (Nat.not_lt_zero _))⟩
            case round =>
              obtain ⟨d, hd, rfl, hno⟩ := hrel
              by_cases hdl : d < V.length
              · obtain ⟨g, cg, g2, cg2, hv1, hu1, r1, r2, r3⟩ := HW3.out.read hdl
                simp only [Value.slice.injEq, true_and] at hv1 hu1
                obtain ⟨rfl, rfl⟩ := hv1
                obtain ⟨rfl, rfl⟩ := hu1
                have HND := Lib.hid (nthW_lt hdl)
                have HFIX : Hid ((nthW V d).1 ≠ nx → ∀ d', d' < d + 1 → (nthW V d').1 ≠ nx) := Lib.hid (fun h d' hd' => by
                  by_cases e5 : d' = d
                  · rw [e5]; exact h
                  · exact hno.out d' (by omega))
                have HADD : Hid ((nthW V d).1 = nx → WayTo R k W j (x + 1) e c (addW V d c)) := Lib.hid (fun h => HTO.out.old HOKT.out hdl (by rw [← HND.out, h, HNX2.out]))
                have HWAY : Hid (Ways w0 (w3.setCell ⟨g2, d, none⟩ (.int .i64 (((nthW V d).2 : Int) + (c : Int)))).drew (.slice (some ⟨g, 0, none⟩) V.length cv) (.slice (some ⟨g2, 0, none⟩) V.length cu) (addW V d c)) := Lib.hid (by
                  have h := HW3.out.addU hdl c
                  rw [Int.natCast_add] at h
                  exact h.later ⟨rfl, rfl, rfl, Nat.le_refl _, fun _ _ => rfl⟩)
                have hVD : (nthW V d).2 ≤ 17179869184 := by
                  have h1 := HLE.out V x hx HTO.out
                  have h2 := wsum_take_le R k 0 V (d + 1)
                  rw [wsum_take _ _ _ _ hdl, ← HND.out] at h2
                  have h3 : paths R k 0 (nthW V d).1 = 1 := rfl
                  rw [h3] at h2
                  omega
                generalize hu2 : (nthW V d).1 = u at *
                generalize hc2 : (nthW V d).2 = cd at *
                clear hu2 hc2 HND
                cases hq : (u.toList == nx.toList)
                · have hn2 : (u.toList != nx.toList) = true := by rw [bne, hq]; rfl
                  have F := Lib.hid (HFIX.out (fun h => by rw [bytes_eq2.2 h] at hq; cases hq))
                  go_wp2_with fail
                  go_round
                  case rel => exact ⟨d + 1, by omega, by go_num, F⟩
                  case measure => simp [intOf]; omega
                · have hn2 : (u.toList != nx.toList) = false := by rw [bne, hq]; rfl
                  have F2 := Lib.hid (HADD.out (bytes_eq2.1 hq))
                  have hne := eq_natB (show ¬ d = V.length by omega)
                  have r4 := HCC.out w3 HW3.out.1.2
                  have q1 : (cd : Int) + (c : Int) ≤ 9223372036854775807 := by omega
                  go_wp2_with fail
                  go_region
                  clear r1 r2 r3 r4 q1 hne
                  go_wp2_with fail
                  go_roundw
                  case rel => exact ⟨x + 1, _, by omega, by go_num, HWAY.out, F2⟩
                  case measure => simp [intOf]; omega
              · obtain rfl : d = V.length := by omega
                have hn1 : ((V.length : Int) == (V.length : Int)) = true := by simp
                have HF := Lib.hid (HTO.out.new HOKT.out HCP.out)
                rw [HNX2.out] at HF
                have HA3 := Lib.hid (alloc_belowS w3 (.cells #[.string nx] 9))
                have HV : Hid (Bld 9 1 w0 (w3.alloc (.cells #[.string nx] 9)) (.slice av V.length cv) V.length (keyV V)) := Lib.hid (by
                  have h := (HW3.out.later HA3.out).1
                  rwa [keyV_len] at h)
                have HN1 : Hid ([Value.string nx].length = 1 * 1) := Lib.hid rfl
                have HN2 : Hid (∀ u ∈ [Value.string nx], u.oneCell' = true) := Lib.hid (fun u hu => by rw [List.mem_singleton.1 hu]; rfl)
                have HM1 : Hid ([Value.int .i64 0].length = 1 * 1) := Lib.hid rfl
                have HM2 : Hid (∀ u ∈ [Value.int .i64 0], u.oneCell' = true) := Lib.hid (fun u hu => by rw [List.mem_singleton.1 hu]; rfl)
                go_wp2_with (at_builtin; refine wpList_appM rfl (.tmp 61) (.tmp 63) rfl Tryz.underlying52 Tryz.infoStr rfl (by decide) rfl HV.out rfl (Src.lit _) HN1.out HN2.out ?a1 ?a2 ?a3)
                case a1 => unfold maxLen; omega
                case a2 => omega
                intro v4 w4 hb4 hg4 ho4
                have HT4 : Hid (TwoB w0 w4 v4 (keyV V ++ [.string nx]) (.slice au V.length cu) (cntV V)) := Lib.hid (TwoB.putV HW3.out (by rw [keyV_len]; exact hb4) hg4 (by simpa using ho4))
                obtain ⟨g4, c4, rfl⟩ := owns_slot hb4.1 (by omega)
                clear hb4 hg4 ho4 HV
                have HA4 := Lib.hid (alloc_belowS w4 (.cells #[.int .i64 0] 3))
                have HU : Hid (Bld 3 1 w0 (w4.alloc (.cells #[.int .i64 0] 3)) (.slice au V.length cu) V.length (cntV V)) := Lib.hid (by
                  have h := (HT4.out.later HA4.out).2.1
                  rwa [cntV_len] at h)
                go_wp2_with (at_builtin; refine wpList_appM rfl (.tmp 65) (.tmp 66) rfl Tryz.underlying49 Tryz.infoInt rfl (by decide) rfl HU.out rfl (Src.lit _) HM1.out HM2.out ?b1 ?b2 ?b3)
                case b1 => unfold maxLen; omega
                case b2 => omega
                intro v5 w5 hb5 hg5 ho5
                have HT5 : Hid (Ways w0 w5 (.slice (some ⟨g4, 0, none⟩) (V.length + 1) c4) v5 (V ++ [(nx, 0)])) := Lib.hid (by
                  have h := TwoB.putU HT4.out (by rw [cntV_len]; exact hb5) hg5 (by simpa using ho5)
                  unfold Ways
                  rw [keyV_app, cntV_app]; exact h)
                obtain ⟨g5, c5, rfl⟩ := owns_slot hb5.1 (by omega)
                clear hb5 hg5 ho5 HU HT4
                obtain ⟨_, _, _, _, hv1, hu1, _, r2, r3⟩ := HT5.out.read (i := V.length) (by simp)
                have e1 : (V ++ [(nx, 0)]).length = V.length + 1 := by simp
                rw [e1] at hv1 hu1
                cases hv1
                cases hu1
                clear e1
                rw [nthW_app] at r2
                have r4 := HCC.out w5 HT5.out.1.2
                have HWAY : Hid (Ways w0 (w5.setCell ⟨g5, V.length, none⟩ (.int .i64 (c : Int))).drew (.slice (some ⟨g4, 0, none⟩) (V.length + 1) c4) (.slice (some ⟨g5, 0, none⟩) (V.length + 1) c5) (V ++ [(nx, c)])) := Lib.hid (by
                  have e1 : (V ++ [(nx, 0)]).length = V.length + 1 := by simp
                  have h0 := HT5.out
                  rw [← e1] at h0
                  have h := h0.addU (i := V.length) (by simp) c
                  rw [nthW_app, addW_last, Nat.zero_add, e1] at h
                  exact h.later ⟨rfl, rfl, rfl, Nat.le_refl _, fun _ _ => rfl⟩)
                go_wp2_with fail
                go_region
                clear r2 r3 r4
                go_wp2_with fail
                go_roundw
                case rel => exact ⟨x + 1, _, by omega, by go_num, HWAY.out, HF⟩
                case measure => simp [intOf]; omega
          · have hok : okX R e x = false := by rw [HOK.out, hend]; rfl
            have F := Lib.hid (HTO.out.no hok)
            clear hok hend HOK
            go_wp2_with fail
            go_roundw
            case rel => exact ⟨x + 1, V, by omega, by go_num, HW2.out, F⟩
            case measure => simp [intOf]; omega
        · obtain rfl : x = k := by omega
          have F := Lib.hid (HROW.out V HTO.out)
          go_wp2_with fail
          go_roundw
          case rel => exact ⟨j + 1, V, by omega, by go_num, HWY.out, F.out⟩
          case measure => simp [intOf]; omega
    · obtain rfl : j = W.length := by omega
      obtain ⟨_, _, _, _, h1, h2, hio, hlo, hlo2⟩ := HWY.out.out
      cases h1
      cases h2
      have F : Hid (RetWays R k n w (.returned (.tuple #[.slice av V1.length cv, .slice au V1.length cu])) wr) := Lib.hid ⟨V1, av, cv, au, cu, rfl, HTO.out.done HWA.out, hio, Below.now HB0.out HWY.out.1.2, fun x hx => ⟨Nat.le_trans HB0.out.size (hlo x hx).1, (hlo x hx).2⟩, fun x hx => ⟨Nat.le_trans HB0.out.size (hlo2 x hx).1, (hlo2 x hx).2⟩⟩
      clear hio hwy hlo hlo2
      go_wp2_with fail
      go_ret2
      exact F.out
end Go.Proofs.YtdhaebbfiaddnaaGreatDoor
namespace Go.Proofs.YtdhaebbfiaddnaaGreatDoor
open Go.RowKit
set_option linter.unusedVariables false
theorem CellsIn.grownC {w w' : World} {r : Option Nat} {a : Option Addr} {xs : List Value} (h : CellsIn w a xs) (hg : w.grownBy w' r) (hne : ∀ x, a = some x → some x.block ≠ r) : CellsIn w' a xs := by
  rcases h with h | ⟨b, off, ha, hc⟩
  · exact .inl h
  · refine .inr ⟨b, off, ha, fun i hi => ?_⟩
    have h1 := hc i hi
    rw [World.cell?_of_block (hg.block b (World.block_lt_of_cell? w _ h1) (hne _ ha))]
    exact h1
/-- a slice lies away from another one -/
def Away (w : World) (a : Option Addr) (v : Value) : Prop := ∀ x, a = some x → x.block < w.heap.size ∧ some x.block ≠ v.ownBlock
theorem Away.append {wr w' : World} {a : Option Addr} {v v' : Value} {y : Value} {T : TypeId} (h : Away wr a v) (hg : (wr.alloc (.cells #[y] T)).grownBy w' v.ownBlock) (ho : v'.ownBlock = v.ownBlock ∨ v'.ownBlock = some (wr.alloc (.cells #[y] T)).heap.size) : Away w' a v' := fun x hx => by
  obtain ⟨h1, h2⟩ := h x hx
  have hs := hg.size
  simp at hs
  refine ⟨by omega, ?_⟩
  rcases ho with h3 | h3
  · rw [h3]; exact h2
  · rw [h3]
    simp
    omega
def zVals (l : List Int) : List Value := l.map (Value.int .i64)
theorem zVals_app (l : List Int) (y : Int) : zVals (l ++ [y]) = zVals l ++ [.int .i64 y] := by simp [zVals]
theorem zVals_len (l : List Int) : (zVals l).length = l.length := by simp [zVals]
/-- what GrowthOf answers -/
def growP (k : Int) (R : List RulD) (n : Int) : Prop := sysP k R ∧ 0 ≤ n ∧ n ≤ 16
def growO (k : Int) (R : List RulD) (n : Int) : List Int := growL R k.toNat n.toNat
def RetGrow (k : Int) (R : List RulD) (n : Int) (w : World) (e : Ending) (w' : World) : Prop :=
  (¬ growP k R n ∧ e = .returned (.slice none 0 0) ∧ Below w.heap.size w w') ∨ (growP k R n ∧ RetSl 3 1 (growO k R n).length (zVals (growO k R n)) w e w')
theorem growL_rng {R : List RulD} {k n : Nat} (hk : k ≤ 4) (hn : n ≤ 16) : Rng64 (growL R k n) := fun j hj => by
  rw [growL_len] at hj
  have h1 : nthZ (growL R k n) j = ((paths R k j ⟨#[]⟩ : Nat) : Int) := by
    rw [nthZ_lt (by rw [growL_len]; exact hj)]; simp [growL]
  have h2 := paths_le (R := R) hk j ⟨#[]⟩
  have h3 := pow16 (show j ≤ 17 by omega)
  rw [h1]; omega
theorem sys_sizes {k : Int} {R : List RulD} (h : sysP k R) : R.length ≤ 12 ∧ (∀ j, j < R.length → (nthR R j).1.size ≤ 8 ∧ (nthR R j).2.size ≤ 8) ∧ (1 ≤ k ∧ k ≤ 4) :=
  ⟨h.1.1.2, fun j hj => (h.1.2 _ (nthR_mem hj)).1.2, h.1.1.1⟩
/-- what GrowthLine hands back -/
def RetLine (k : Int) (R : List RulD) (n : Int) (w : World) (e : Ending) (w' : World) : Prop :=
  (¬ growP k R n ∧ e = .returned (.string ⟨#[110, 111, 110, 101]⟩) ∧ Below w.heap.size w w') ∨ (growP k R n ∧ e = .returned (.string (fmtNums (growO k R n))) ∧ Below w.heap.size w w')
end Go.Proofs.YtdhaebbfiaddnaaGreatDoor
