/-
  FormatInt of the program; FormatNumbers, of the program and of the reference.
-/
import Derived.Test.YtdhaebbfiaddnaaGreatDoorGts08
import Derived.Test.YtdhaebbfiaddnaaGreatDoorGts09
import Derived.Test.YtdhaebbfiaddnaaGreatDoorGts03
import Derived.Test.YtdhaebbfiaddnaaGreatDoorGts01
import Derived.Lib.Itoa
import Derived.Lib.ItoaNum
import Derived.Laws.BytesArg
import Derived.Deep.RegionWith
import Derived.Test.YtdhaebbfiaddnaaGreatDoorGts04
namespace Go.Proofs.YtdhaebbfiaddnaaGreatDoor
open Go.RowKit
set_option linter.unusedVariables false
def keyV (V : WayD) : List Value := V.map fun p => .string p.1
def cntV (V : WayD) : List Value := V.map fun p => .int .i64 (p.2 : Int)
theorem keyV_len (V : WayD) : (keyV V).length = V.length := by simp [keyV]
theorem cntV_len (V : WayD) : (cntV V).length = V.length := by simp [cntV]
/-- ends and numbers that are being built -/
def Ways (w wr : World) (v u : Value) (V : WayD) : Prop := TwoB w wr v (keyV V) u (cntV V)
def nthW (V : WayD) (i : Nat) : ByteArray × Nat := V.getD i (⟨#[]⟩, 0)
theorem nthW_lt {V : WayD} {i : Nat} (h : i < V.length) : nthW V i = V[i] := by simp [nthW, List.getD_eq_getElem?_getD, h]
/-- the ends and the numbers lie in two slices -/
def WaysIn (w : World) (a a2 : Option Addr) (W : WayD) : Prop := CellsIn w a (keyV W) ∧ CellsIn w a2 (cntV W)
theorem WaysIn.later {w w' : World} {a a2 : Option Addr} {W : WayD} (h : WaysIn w a a2 W) (hb : Below w.heap.size w w') : WaysIn w' a a2 W := ⟨h.1.later hb, h.2.later hb⟩
theorem cells_at {w : World} {a : Option Addr} {xs : List Value} (h : CellsIn w a xs) {i : Nat} {x : Value} (hi : xs[i]? = some x) : ∃ b off, a = some ⟨b, off, none⟩ ∧ w.cell? ⟨b, off + i, none⟩ = some x := by
  obtain ⟨hl, rfl⟩ := List.getElem?_eq_some_iff.1 hi
  rcases h with h | ⟨b, off, ha, hc⟩
  · rw [h] at hl; simp at hl
  · exact ⟨b, off, ha, hc i hl⟩
theorem WaysIn.at {w : World} {a a2 : Option Addr} {W : WayD} (h : WaysIn w a a2 W) {i : Nat} (hi : i < W.length) :
    ∃ b off b2 off2, a = some ⟨b, off, none⟩ ∧ a2 = some ⟨b2, off2, none⟩ ∧ w.cell? ⟨b, off + i, none⟩ = some (.string (nthW W i).1) ∧ w.cell? ⟨b2, off2 + i, none⟩ = some (.int .i64 ((nthW W i).2 : Int)) := by
  obtain ⟨b, off, ha, h1⟩ := cells_at h.1 (i := i) (x := .string (nthW W i).1) (by simp [keyV, hi, nthW_lt hi])
  obtain ⟨b2, off2, ha2, h2⟩ := cells_at h.2 (i := i) (x := .int .i64 ((nthW W i).2 : Int)) (by simp [cntV, hi, nthW_lt hi])
  exact ⟨b, off, b2, off2, ha, ha2, h1, h2⟩
theorem keyV_app (V : WayD) (e : ByteArray) (c : Nat) : keyV (V ++ [(e, c)]) = keyV V ++ [.string e] := by simp [keyV]
theorem cntV_app (V : WayD) (e : ByteArray) (c : Nat) : cntV (V ++ [(e, c)]) = cntV V ++ [.int .i64 (c : Int)] := by simp [cntV]
theorem keyV_add (V : WayD) (i c : Nat) : keyV (addW V i c) = keyV V := by
  unfold keyV addW
  apply List.ext_getElem (by simp)
  intro j h1 h2
  simp [List.getElem_modify]
  split <;> rfl
theorem cntV_add {V : WayD} {i : Nat} (h : i < V.length) (c : Nat) : cntV (addW V i c) = (cntV V).set i (.int .i64 (((nthW V i).2 + c : Nat) : Int)) := by
  unfold cntV addW
  apply List.ext_getElem (by simp)
  intro j h1 h2
  simp only [List.getElem_map, List.getElem_modify, List.getElem_set]
  by_cases e : i = j
  · subst e; simp [nthW_lt h]
  · simp [e]
theorem addW_last (V : WayD) (e : ByteArray) (c : Nat) : addW (V ++ [(e, 0)]) V.length c = V ++ [(e, c)] := by
  rw [addW_split (by simp)]
  simp
theorem Ways.later {w wr wr' : World} {v u : Value} {V : WayD} (h : Ways w wr v u V) (hb : Below wr.heap.size wr wr') : Ways w wr' v u V := TwoB.later h hb
theorem Ways.form {w wr : World} {v u : Value} {V : WayD} (h : Ways w wr v u V) : ∃ a c a2 c2, v = .slice a V.length c ∧ u = .slice a2 V.length c2 := by
  obtain ⟨a, c, hv⟩ := owns_form h.1.1
  obtain ⟨a2, c2, hu⟩ := owns_form h.2.1.1
  rw [keyV_len] at hv
  rw [cntV_len] at hu
  exact ⟨a, c, a2, c2, hv, hu⟩
theorem Ways.read {w wr : World} {v u : Value} {V : WayD} (h : Ways w wr v u V) {i : Nat} (hi : i < V.length) : ∃ g c g2 c2, v = .slice (some ⟨g, 0, none⟩) V.length c ∧ u = .slice (some ⟨g2, 0, none⟩) V.length c2 ∧
    wr.cell? ⟨g, i, none⟩ = some (.string (nthW V i).1) ∧ wr.cell? ⟨g2, i, none⟩ = some (.int .i64 ((nthW V i).2 : Int)) ∧ wr.frozen? ⟨g2, i, none⟩ = false := by
  obtain ⟨g, c, hv⟩ := owns_slot h.1.1 (by rw [keyV_len]; omega)
  obtain ⟨g2, c2, hu⟩ := owns_slot h.2.1.1 (by rw [cntV_len]; omega)
  rw [keyV_len] at hv
  rw [cntV_len] at hu
  subst hv hu
  refine ⟨g, c, g2, c2, rfl, rfl, ?_, ?_, by have h2 := h.2.1.1; rw [cntV_len] at h2; exact h2.frozenAt i⟩
  · have h1 := h.1.1
    rw [keyV_len] at h1
    rw [World.ownsRow.cellAt h1 i (by omega)]; simp [keyV, hi, nthW_lt hi]
  · have h1 := h.2.1.1
    rw [cntV_len] at h1
    rw [World.ownsRow.cellAt h1 i (by omega)]; simp [cntV, hi, nthW_lt hi]
theorem Ways.addU {w wr : World} {v : Value} {V : WayD} {g2 c2 : Nat} (h : Ways w wr v (.slice (some ⟨g2, 0, none⟩) V.length c2) V) {i : Nat} (hi : i < V.length) (c : Nat) : Ways w (wr.setCell ⟨g2, i, none⟩ (.int .i64 (((nthW V i).2 + c : Nat) : Int))) v (.slice (some ⟨g2, 0, none⟩) V.length c2) (addW V i c) := by
  unfold Ways at *
  rw [keyV_add, cntV_add hi]
  have h1 : (Value.slice (some ⟨g2, 0, none⟩) V.length c2) = .slice (some ⟨g2, 0, none⟩) (cntV V).length c2 := by rw [cntV_len]
  rw [h1] at h ⊢
  exact h.setU (by rw [cntV_len]; exact hi) _
theorem Ways.drewN {w wr : World} {v u : Value} {V : WayD} (h : Ways w wr v u V) (n : Nat) : Ways w (wr.drewN n) v u V := h.later ⟨rfl, rfl, rfl, Nat.le_refl _, fun _ _ => rfl⟩
/-- what l07Next hands back -/
def RetWays (R : List RulD) (k n : Nat) (w : World) (e : Ending) (w' : World) : Prop :=
  ∃ V a c a2 c2, e = .returned (.tuple #[.slice a V.length c, .slice a2 V.length c2]) ∧ WayAt R k (n + 1) V ∧ WaysIn w' a a2 V ∧ Below w.heap.size w w' ∧ (∀ x, a = some x → w.heap.size ≤ x.block ∧ x.block < w'.heap.size) ∧ ∀ x, a2 = some x → w.heap.size ≤ x.block ∧ x.block < w'.heap.size
theorem Ways.out {w wr : World} {v u : Value} {V : WayD} (h : Ways w wr v u V) : ∃ a c a2 c2, v = .slice a V.length c ∧ u = .slice a2 V.length c2 ∧ WaysIn wr a a2 V ∧ (∀ x, a = some x → w.heap.size ≤ x.block ∧ x.block < wr.heap.size) ∧ ∀ x, a2 = some x → w.heap.size ≤ x.block ∧ x.block < wr.heap.size := by
  obtain ⟨a, c, a2, c2, rfl, rfl⟩ := h.form
  exact ⟨a, c, a2, c2, rfl, rfl, ⟨owns_cells h.1.1, owns_cells h.2.1.1⟩, fun x hx => by subst hx; exact h.1.1.lt x.block rfl, fun x hx => by subst hx; exact h.2.1.1.lt x.block rfl⟩
theorem eq_natB {j k : Nat} (h : ¬ j = k) : ((j : Int) == (k : Int)) = false := by rw [beq_eq_false_iff_ne]; omega
theorem nthW_app {V : WayD} {p : ByteArray × Nat} : nthW (V ++ [p]) V.length = p := by rw [nthW_lt (by simp)]; simp
set_option maxRecDepth 100000 in
set_option maxHeartbeats 4000000 in
theorem l07Next_any (k n : Nat) (R : List RulD) (W : WayD) (a ae ac : Option Addr) (cap ce cc : Nat) (w : World) (hl : RulesIn w a R) (hlen : R.length ≤ 2 ^ 40) (hz : ∀ j, j < R.length → (nthR R j).1.size ≤ 8 ∧ (nthR R j).2.size ≤ 8) (hk : k ≤ 4) (hn : n ≤ 16) (hW : WayAt R k n W) (hI : WaysIn w ae ac W) :
    Calls Tryz.prog 143 #[.agg #[.int .i64 (k : Nat), .slice a R.length cap], .slice ae W.length ce, .slice ac W.length cc] w (RetWays R k n w) := by
  have HL := Lib.hid hl
  have HZ := Lib.hid hz
  have HWA := Lib.hid hW
  have HI := Lib.hid hI
  have HSZ : Hid (SzR R) := Lib.hid (fun j hj => by have := hz j hj; unfold maxLen; omega)
  have hWl : W.length ≤ 17179869184 := by
    have h1 := PosW.len (R := R) (k := k) hW.pos
    have h2 := hW.eq 0
    have h3 := paths_le (R := R) hk (n + 0) ⟨#[]⟩
    have h4 := pow16 (show n + 0 ≤ 17 by omega)
    omega
  have hk7 : keepR R ≤ 8 := by
    have key : ∀ j, j ≤ R.length → lsTo R j ≤ 8 := fun j => by
      induction j with
      | zero => intro _; exact Nat.zero_le _
      | succ j ih =>
        intro h
        have h1 := ih (by omega)
        have h2 := (hz j (by omega)).1
        show max _ _ ≤ _
        omega
    have h1 := key R.length (Nat.le_refl _)
    unfold keepR lsL
    omega
  have HK7 := Lib.hid hk7
  have kc := convC
  clear hl hz hW hI hk7
  go_enter Tryz.func143, Tryz.ntmps143
  go_wp2_with fail
  obtain ⟨w0, hw0⟩ : ∃ w0, w0 = w.alloc (.cells #[.int .i64 (k : Nat), .slice a R.length cap] 25) := ⟨_, rfl⟩
  have hb0 : Below w.heap.size w w0 := by rw [hw0]; exact alloc_belowS _ _
  have hbx : w0.heap[w.heap.size]? = some (.cells #[.int .i64 (k : Nat), .slice a R.length cap] 25 (0, 0)) := by rw [hw0]; exact alloc_at _ _
  have hs0 : w0.heap.size = w.heap.size + 1 := by rw [hw0]; simp
  have HW0 : Hid (Ways w0 ((w0.alloc (.cells #[] 9)).alloc (.cells #[] 3)) (.slice (some ⟨w.heap.size + 1, 0, none⟩) 0 0) (.slice (some ⟨w.heap.size + 1 + 1, 0, none⟩) 0 0) []) := Lib.hid (by
    have h1 := (Bld.empty 9 1 w0).later (alloc_belowS _ (.cells #[] 3))
    have h2 := (Bld.empty 3 1 (w0.alloc (.cells #[] 9))).since (alloc_belowS w0 (.cells #[] 9))
    rw [hs0] at h1
    rw [show (w0.alloc (.cells #[] 9)).heap.size = w.heap.size + 1 + 1 by simp [hs0]] at h2
    exact ⟨h1, h2, fun kk hk2 e => by simp only [Value.ownBlock, Option.some.injEq] at hk2 e; omega⟩)
  have HBX : Hid (∀ W2, Below w0.heap.size w0 W2 → W2.cell? ⟨w.heap.size, 0, none⟩ = some (.int .i64 (k : Nat)) ∧ W2.cell? ⟨w.heap.size, 1, none⟩ = some (.slice a R.length cap)) := Lib.hid (fun W2 hW2 => sys_cells ((hW2.block w.heap.size (by omega)).trans hbx))
  have HB0 := Lib.hid hb0
  rw [← hw0]
  clear hw0 hb0 hbx hs0
  go_loopw [8, 9, 19] (fun v u i wr => ∃ (j : Nat) (V : WayD), j ≤ W.length ∧ i = .int .i64 (j : Nat) ∧ Ways w0 wr v u V ∧ WayTo R k W j 0 ⟨#[]⟩ 0 V) (fun _ _ i _ => W.length - (intOf i).toNat)
  case atStart => exact ⟨0, [], Nat.zero_le _, rfl, HW0.out, WayTo.start _ _ _ _ _⟩
  case round =>
    clear HW0
    obtain ⟨j, V1, hj, rfl, hwy, hto⟩ := hrel
    obtain ⟨av, cv, au, cu, rfl, rfl⟩ := hwy.form
    have HWY := Lib.hid hwy
    have HTO := Lib.hid hto
    clear hto
    by_cases hlt : j < W.length
    · obtain ⟨b, off, b2, off2, rfl, rfl, c1w, c2w⟩ := HI.out.at hlt
      have c1 : wr.cell? ⟨b, off + j, none⟩ = some (.string (nthW W j).1) := by rw [(Below.now HB0.out hwy.1.2).cell (World.block_lt_of_cell? w _ c1w)]; exact c1w
      have HWJ := Lib.hid (nthW_lt hlt)
      have hesz : (nthW W j).1.size ≤ 8 := by
        have := HWA.out.short _ (List.getElem_mem hlt)
        have h2 := HK7.out
        rw [HWJ.out]; omega
      have hcb : (nthW W j).2 ≤ 17179869184 := by
        have h2 := wsum_take_le R k 0 W (j + 1)
        rw [wsum_take _ _ _ _ hlt, ← HWJ.out] at h2
        have h3 : paths R k 0 (nthW W j).1 = 1 := rfl
        rw [h3] at h2
        have h4 := HWA.out.eq 0
        have h5 := paths_le (R := R) hk (n + 0) ⟨#[]⟩
        have h6 := pow16 (show n + 0 ≤ 17 by omega)
        omega
      have HCP : Hid (1 ≤ (nthW W j).2) := Lib.hid (by rw [HWJ.out]; exact HWA.out.pos _ (List.getElem_mem hlt))
      have HCC : Hid (∀ W2, Below w0.heap.size w0 W2 → W2.cell? ⟨b2, off2 + j, none⟩ = some (.int .i64 ((nthW W j).2 : Int))) := Lib.hid (fun W2 hW2 => by rw [(Below.now HB0.out hW2).cell (World.block_lt_of_cell? w _ c2w)]; exact c2w)
      clear c1w c2w
      have HTJ : Hid (WayTo R k W j 0 (nthW W j).1 (nthW W j).2 V1) := Lib.hid HTO.out.other
      have HLE : Hid (∀ V x, x ≤ k → WayTo R k W j x (nthW W j).1 (nthW W j).2 V → wsum R k 0 V ≤ 17179869184) := Lib.hid (fun V x hx h => by
        rw [HWJ.out] at h
        have h1 := WayTo.le hk HWA.out hlt hx h
        have h2 := pow16 (show n + 1 ≤ 17 by omega)
        omega)
      have HROW : Hid (∀ V, WayTo R k W j k (nthW W j).1 (nthW W j).2 V → WayTo R k W (j + 1) 0 ⟨#[]⟩ 0 V) := Lib.hid (fun V h => by rw [HWJ.out] at h; exact h.row hlt _ _)
      clear hwy HTO
      generalize hpe : (nthW W j).1 = e at *
      generalize hpc : (nthW W j).2 = c at *
      clear hpe hpc HWJ
      go_wp2_with fail
      generalize hW : wr = wr0 at *
      clear hW c1
      go_loopw [8, 9, 12] (fun v u i wr => ∃ (x : Nat) (V : WayD), x ≤ k ∧ i = .int .i64 (x : Nat) ∧ Ways w0 wr v u V ∧ Hid (WayTo R k W j x e c V)) (fun _ _ i _ => k - (intOf i).toNat)
      case atStart => exact ⟨0, V1, Nat.zero_le _, rfl, HWY.out, HTJ⟩
      case round =>
        clear HWY HTJ
        obtain ⟨x, V, hx, rfl, hwy, HTO⟩ := hrel
        obtain ⟨av, cv, au, cu, rfl, rfl⟩ := hwy.form
        have HWY := Lib.hid hwy
        obtain ⟨s0, s1⟩ := HBX.out wr hwy.1.2
        clear hwy
        by_cases hlx : x < k
        · have s0a : ∀ o, (wr.alloc o).cell? ⟨w.heap.size, 0, none⟩ = some (.int .i64 (k : Nat)) := fun o => by rw [(alloc_belowS wr o).cell (World.block_lt_of_cell? wr _ s0)]; exact s0
          have s1a : ∀ o, (wr.alloc o).cell? ⟨w.heap.size, 1, none⟩ = some (.slice a R.length cap) := fun o => by rw [(alloc_belowS wr o).cell (World.block_lt_of_cell? wr _ s1)]; exact s1
          have hu : IntKind.u8.wrap (97 + (x : Int)) = 97 + (x : Int) := by simp [IntKind.wrap, IntKind.signed, IntKind.bits]; omega
          have hvs : (e ++ oneC (97 + (x : Int))).size ≤ 9 := by
            rw [ByteArray.size_append]
            have : (oneC (97 + (x : Int))).size = 1 := rfl
            omega
          have HEN := Lib.hid (fun W2 h => l07Ends_any (k : Nat) R (e ++ oneC (97 + (x : Int))) a cap W2 h hlen (fun j hj => by have := (HZ.out j hj).1; omega) (by omega))
          have HCU := Lib.hid (fun W2 h => l07Cut_any (k : Nat) R (e ++ oneC (97 + (x : Int))) a cap W2 h hlen HSZ.out (by omega))
          have HOK : Hid (okX R e x = !endsR R (e ++ oneC (97 + (x : Int)))) := Lib.hid rfl
          have HNX : Hid (nxtX R e x = cutR R (e ++ oneC (97 + (x : Int)))) := Lib.hid rfl
          have hos : ∀ z, (oneC z).size = 1 := fun z => rfl
          have hesz1 : ¬ (9223372036854775807 : Int) < (e.size : Int) + 1 := by omega
          have hesz2 : ¬ 9223372036854775807 < e.size + 1 := by omega
          go_wp2_with fail
          clear hu kc hos hesz1 hesz2
          generalize e ++ oneC (97 + (x : Int)) = v at *
          refine (HEN.out _ (HL.out.later (Below.now HB0.out (HWY.out.1.2.alloc HWY.out.1.2.size _)))).mono ?_
          rintro e2 w2 ⟨rfl, hb2⟩
          have HW2 := Lib.hid (HWY.out.later (Below.now (alloc_belowS wr _) hb2))
          obtain ⟨t0, t1⟩ := HBX.out w2 HW2.out.1.2
          clear hb2 HEN s0 s1 s0a s1a HWY
          cases hend : endsR R v
          · have hok : okX R e x = true := by rw [HOK.out, hend]; rfl
            have HOKT := Lib.hid hok
            clear hok hend HOK
            go_wp2_with fail
            refine (HCU.out _ (HL.out.later (Below.now HB0.out HW2.out.1.2))).mono ?_
            rintro e3 w3 ⟨rfl, hb3⟩
            have HW3 := Lib.hid (HW2.out.later hb3)
            have HNX2 := HNX
            clear hb3 HCU t0 t1 HW2 HNX
            generalize cutR R v = nx at *
            have hVl : V.length ≤ 17179869184 := by
              have h1 := PosW.len (R := R) (k := k) HTO.out.pos
              have h2 := HLE.out V x hx HTO.out
              omega
            go_wp2_with fail
            go_loop [14] (fun i => ∃ d : Nat, d ≤ V.length ∧ i = .int .i64 (d : Nat) ∧ Hid (∀ d', d' < d → (nthW V d').1 ≠ nx)) (fun i => V.length - (intOf i).toNat)
            case atStart => exact ⟨0, Nat.zero_le _, rfl, Lib.hid (fun d' h => absurd h (Nat.not_lt_zero _))⟩
            case round =>
              obtain ⟨d, hd, rfl, hno⟩ := hrel
              by_cases hdl : d < V.length
              · obtain ⟨g, cg, g2, cg2, hv1, hu1, r1, r2, r3⟩ := HW3.out.read hdl
                simp only [Value.slice.injEq, true_and] at hv1 hu1
                obtain ⟨rfl, rfl⟩ := hv1
                obtain ⟨rfl, rfl⟩ := hu1
                have HND := Lib.hid (nthW_lt hdl)
                have HFIX : Hid ((nthW V d).1 ≠ nx → ∀ d', d' < d + 1 → (nthW V d').1 ≠ nx) := Lib.hid (fun h d' hd' => by
                  by_cases e5 : d' = d
                  · rw [e5]; exact h
                  · exact hno.out d' (by omega))
                have HADD : Hid ((nthW V d).1 = nx → WayTo R k W j (x + 1) e c (addW V d c)) := Lib.hid (fun h => HTO.out.old HOKT.out hdl (by rw [← HND.out, h, HNX2.out]))
                have HWAY : Hid (Ways w0 (w3.setCell ⟨g2, d, none⟩ (.int .i64 (((nthW V d).2 : Int) + (c : Int)))).drew (.slice (some ⟨g, 0, none⟩) V.length cv) (.slice (some ⟨g2, 0, none⟩) V.length cu) (addW V d c)) := Lib.hid (by
                  have h := HW3.out.addU hdl c
                  rw [Int.natCast_add] at h
                  exact h.later ⟨rfl, rfl, rfl, Nat.le_refl _, fun _ _ => rfl⟩)
                have hVD : (nthW V d).2 ≤ 17179869184 := by
                  have h1 := HLE.out V x hx HTO.out
                  have h2 := wsum_take_le R k 0 V (d + 1)
                  rw [wsum_take _ _ _ _ hdl, ← HND.out] at h2
                  have h3 : paths R k 0 (nthW V d).1 = 1 := rfl
                  rw [h3] at h2
                  omega
                generalize hu2 : (nthW V d).1 = u at *
                generalize hc2 : (nthW V d).2 = cd at *
                clear hu2 hc2 HND
                cases hq : (u.toList == nx.toList)
                · have hn2 : (u.toList != nx.toList) = true := by rw [bne, hq]; rfl
                  have F := Lib.hid (HFIX.out (fun h => by rw [bytes_eq2.2 h] at hq; cases hq))
                  go_wp2_with fail
                  go_round
                  case rel => exact ⟨d + 1, by omega, by go_num, F⟩
                  case measure => simp [intOf]; omega
                · have hn2 : (u.toList != nx.toList) = false := by rw [bne, hq]; rfl
                  have F2 := Lib.hid (HADD.out (bytes_eq2.1 hq))
                  have hne := eq_natB (show ¬ d = V.length by omega)
                  have r4 := HCC.out w3 HW3.out.1.2
                  have q1 : (cd : Int) + (c : Int) ≤ 9223372036854775807 := by omega
                  go_wp2_with fail
                  go_region
                  clear r1 r2 r3 r4 q1 hne
                  go_wp2_with fail
                  go_roundw
                  case rel => exact ⟨x + 1, _, by omega, by go_num, HWAY.out, F2⟩
                  case measure => simp [intOf]; omega
              · obtain rfl : d = V.length := by omega
                have hn1 : ((V.length : Int) == (V.length : Int)) = true := by simp
                have HF := Lib.hid (HTO.out.new HOKT.out HCP.out)
                rw [HNX2.out] at HF
                have HA3 := Lib.hid (alloc_belowS w3 (.cells #[.string nx] 9))
                have HV : Hid (Bld 9 1 w0 (w3.alloc (.cells #[.string nx] 9)) (.slice av V.length cv) V.length (keyV V)) := Lib.hid (by
                  have h := (HW3.out.later HA3.out).1
                  rwa [keyV_len] at h)
                have HN1 : Hid ([Value.string nx].length = 1 * 1) := Lib.hid rfl
                have HN2 : Hid (∀ u ∈ [Value.string nx], u.oneCell' = true) := Lib.hid (fun u hu => by rw [List.mem_singleton.1 hu]; rfl)
                have HM1 : Hid ([Value.int .i64 0].length = 1 * 1) := Lib.hid rfl
                have HM2 : Hid (∀ u ∈ [Value.int .i64 0], u.oneCell' = true) := Lib.hid (fun u hu => by rw [List.mem_singleton.1 hu]; rfl)
                go_wp2_with (at_builtin; refine wpList_appM rfl (.tmp 61) (.tmp 63) rfl Tryz.underlying52 Tryz.infoStr rfl (by decide) rfl HV.out rfl (Src.lit _) HN1.out HN2.out ?a1 ?a2 ?a3)
                case a1 => unfold maxLen; omega
                case a2 => omega
                intro v4 w4 hb4 hg4 ho4
                have HT4 : Hid (TwoB w0 w4 v4 (keyV V ++ [.string nx]) (.slice au V.length cu) (cntV V)) := Lib.hid (TwoB.putV HW3.out (by rw [keyV_len]; exact hb4) hg4 (by simpa using ho4))
                obtain ⟨g4, c4, rfl⟩ := owns_slot hb4.1 (by omega)
                clear hb4 hg4 ho4 HV
                have HA4 := Lib.hid (alloc_belowS w4 (.cells #[.int .i64 0] 3))
                have HU : Hid (Bld 3 1 w0 (w4.alloc (.cells #[.int .i64 0] 3)) (.slice au V.length cu) V.length (cntV V)) := Lib.hid (by
                  have h := (HT4.out.later HA4.out).2.1
                  rwa [cntV_len] at h)
                go_wp2_with (at_builtin; refine wpList_appM rfl (.tmp 65) (.tmp 66) rfl Tryz.underlying49 Tryz.infoInt rfl (by decide) rfl HU.out rfl (Src.lit _) HM1.out HM2.out ?b1 ?b2 ?b3)
                case b1 => unfold maxLen; omega
                case b2 => omega
                intro v5 w5 hb5 hg5 ho5
                have HT5 : Hid (Ways w0 w5 (.slice (some ⟨g4, 0, none⟩) (V.length + 1) c4) v5 (V ++ [(nx, 0)])) := Lib.hid (by
                  have h := TwoB.putU HT4.out (by rw [cntV_len]; exact hb5) hg5 (by simpa using ho5)
                  unfold Ways
                  rw [keyV_app, cntV_app]; exact h)
                obtain ⟨g5, c5, rfl⟩ := owns_slot hb5.1 (by omega)
                clear hb5 hg5 ho5 HU HT4
                obtain ⟨_, _, _, _, hv1, hu1, _, r2, r3⟩ := HT5.out.read (i := V.length) (by simp)
                have e1 : (V ++ [(nx, 0)]).length = V.length + 1 := by simp
                rw [e1] at hv1 hu1
                cases hv1
                cases hu1
                clear e1
                rw [nthW_app] at r2
                have r4 := HCC.out w5 HT5.out.1.2
                have HWAY : Hid (Ways w0 (w5.setCell ⟨g5, V.length, none⟩ (.int .i64 (c : Int))).drew (.slice (some ⟨g4, 0, none⟩) (V.length + 1) c4) (.slice (some ⟨g5, 0, none⟩) (V.length + 1) c5) (V ++ [(nx, c)])) := Lib.hid (by
                  have e1 : (V ++ [(nx, 0)]).length = V.length + 1 := by simp
                  have h0 := HT5.out
                  rw [← e1] at h0
                  have h := h0.addU (i := V.length) (by simp) c
                  rw [nthW_app, addW_last, Nat.zero_add, e1] at h
                  exact h.later ⟨rfl, rfl, rfl, Nat.le_refl _, fun _ _ => rfl⟩)
                go_wp2_with fail
                go_region
                clear r2 r3 r4
                go_wp2_with fail
                go_roundw
                case rel => exact ⟨x + 1, _, by omega, by go_num, HWAY.out, HF⟩
                case measure => simp [intOf]; omega
          · have hok : okX R e x = false := by rw [HOK.out, hend]; rfl
            have F := Lib.hid (HTO.out.no hok)
            clear hok hend HOK
            go_wp2_with fail
            go_roundw
            case rel => exact ⟨x + 1, V, by omega, by go_num, HW2.out, F⟩
            case measure => simp [intOf]; omega
        · obtain rfl : x = k := by omega
          have F := Lib.hid (HROW.out V HTO.out)
          go_wp2_with fail
          go_roundw
          case rel => exact ⟨j + 1, V, by omega, by go_num, HWY.out, F.out⟩
          case measure => simp [intOf]; omega
    · obtain rfl : j = W.length := by omega
      obtain ⟨_, _, _, _, h1, h2, hio, hlo, hlo2⟩ := HWY.out.out
      cases h1
      cases h2
      have F : Hid (RetWays R k n w (.returned (.tuple #[.slice av V1.length cv, .slice au V1.length cu])) wr) := Lib.hid ⟨V1, av, cv, au, cu, rfl, HTO.out.done HWA.out, hio, Below.now HB0.out HWY.out.1.2, fun x hx => ⟨Nat.le_trans HB0.out.size (hlo x hx).1, (hlo x hx).2⟩, fun x hx => ⟨Nat.le_trans HB0.out.size (hlo2 x hx).1, (hlo2 x hx).2⟩⟩
      clear hio hwy hlo hlo2
      go_wp2_with fail
      go_ret2
      exact F.out
end Go.Proofs.YtdhaebbfiaddnaaGreatDoor
namespace Go.Proofs.YtdhaebbfiaddnaaGreatDoor
open Go.RowKit
set_option linter.unusedVariables false
/-- a text of one byte -/
def oneB (x : Int) : ByteArray := ⟨#[UInt8.ofNat x.toNat]⟩
theorem conv_one (w : World) (x : Int) :
    (convert 22 9 (.slice (some ⟨w.heap.size, 0, none⟩) 1 1)).run Tryz.prog (w.alloc (.cells #[.int .u8 x] 5)) = .ok (.string (oneB x)) (w.alloc (.cells #[.int .u8 x] 5)) :=
  run_convert_bytes_arg (P := Tryz.prog) (w.alloc (.cells #[.int .u8 x] 5)) 22 5 Tryz.underlying22 Tryz.underlying5 w.heap.size 0 1 1 [x] rfl (fun i hi => by
    obtain rfl : i = 0 := by omega
    simp) 9 Tryz.underlying9
theorem conv_at (w : World) (g : Nat) (x : Int) (h : w.cell? ⟨g, 0, none⟩ = some (.int .u8 x)) :
    (convert 22 9 (.slice (some ⟨g, 0, none⟩) 1 1)).run Tryz.prog w = .ok (.string (oneB x)) w :=
  run_convert_bytes_arg (P := Tryz.prog) w 22 5 Tryz.underlying22 Tryz.underlying5 g 0 1 1 [x] rfl (fun i hi => by
    obtain rfl : i = 0 := by omega
    exact h) 9 Tryz.underlying9
theorem conv_drew (w : World) (x : Int) :
    (convert 22 9 (.slice (some ⟨w.heap.size, 0, none⟩) 1 1)).run Tryz.prog (w.alloc (.cells #[.int .u8 x] 5)).drew = .ok (.string (oneB x)) (w.alloc (.cells #[.int .u8 x] 5)).drew := conv_at _ _ _ (by simp)
theorem last_digit (m : Nat) : oneB (IntKind.u8.wrap (IntKind.i64.wrap (48 + (m : Int).tmod 10))) = ⟨#[UInt8.ofNat (48 + m % 10)]⟩ := by
  have h1 : (m : Int).tmod 10 = ((m % 10 : Nat) : Int) := by rw [Int.tmod_eq_emod_of_nonneg (by omega)]; simp
  have h2 : IntKind.i64.wrap (48 + ((m % 10 : Nat) : Int)) = ((48 + m % 10 : Nat) : Int) := by
    simp [IntKind.wrap, IntKind.signed, IntKind.bits]; omega
  have h3 : IntKind.u8.wrap ((48 + m % 10 : Nat) : Int) = ((48 + m % 10 : Nat) : Int) := by
    simp [IntKind.wrap, IntKind.signed, IntKind.bits]; omega
  rw [h1, h2, h3]; rfl
theorem wrap_id {x : Int} (h0 : -9223372036854775808 ≤ x) (h1 : x ≤ 9223372036854775807) : IntKind.i64.wrap x = x := by
  simp [IntKind.wrap, IntKind.signed, IntKind.bits]; omega
theorem oneB_size (x : Int) : (oneB x).size = 1 := rfl
theorem oneB_app (x : Int) (t : List UInt8) : oneB x ++ ⟨t.toArray⟩ = ⟨(UInt8.ofNat x.toNat :: t).toArray⟩ := by ext1; simp [oneB]
theorem app_oneB (x : Int) (t : List UInt8) : (⟨t.toArray⟩ : ByteArray) ++ oneB x = ⟨(t ++ [UInt8.ofNat x.toNat]).toArray⟩ := by ext1; simp [oneB]
theorem nDigits_le : ∀ (k n : Nat), n < 10 ^ (k + 1) → Lib.nDigits n ≤ k + 1
  | 0, n, h => by rw [Lib.nDigits_small (by omega)]; omega
  | k + 1, n, h => by
    by_cases h1 : n < 10
    · rw [Lib.nDigits_small h1]; omega
    · rw [Lib.nDigits_big h1]
      have := nDigits_le k (n / 10) (by rw [Nat.pow_succ] at h; omega)
      omega
theorem decDigits_len {n : Nat} (h : n ≤ 9223372036854775808) : (Lib.decDigits n).length ≤ 20 := by
  rw [Lib.decDigits_length]; exact nDigits_le 19 n (by omega)
theorem decDigits_big {k : Nat} (h : 9 < k) : Lib.decDigits k = Lib.decDigits (k / 10) ++ [UInt8.ofNat (48 + k % 10)] := by
  rw [Lib.decDigits, dif_neg (by omega)]
theorem decDigits_small {u : Nat} (h : u < 10) : Lib.decDigits u = [UInt8.ofNat (48 + u)] := Lib.decDigits_one h
theorem itoa_nat (n : Nat) : Lib.itoa (n : Int) = Lib.decDigits n := by unfold Lib.itoa; rw [if_neg (by omega)]; rfl
theorem itoa_neg {n : Nat} (h : 1 ≤ n) : Lib.itoa (-(n : Int)) = 45 :: Lib.decDigits n := by unfold Lib.itoa; rw [if_pos (by omega)]; simp
set_option maxRecDepth 20000 in
set_option maxHeartbeats 800000 in
theorem fmtIntNat_any (n : Nat) (w : World) (hn : n ≤ 9223372036854775807) :
    Calls Tryz.prog 129 #[.int .i64 n] w fun e w' => e = .returned (.string ⟨(Lib.itoa n).toArray⟩) ∧ Below w.heap.size w w' := by
  have kc := conv_one
  go_enter Tryz.func129, Tryz.ntmps129
  go_wp2_with fail
  go_loopw [0, 3] (fun v s wr => ∃ (k : Nat) (t : List UInt8), v = .int .i64 k ∧ s = .string ⟨t.toArray⟩ ∧ k ≤ n ∧ Lib.decDigits n = Lib.decDigits k ++ t ∧ t.length ≤ 20 ∧ Below w.heap.size w wr) (fun v _ _ => (intOf v).toNat)
  case atStart => exact ⟨n, [], rfl, rfl, Nat.le_refl _, by simp, by simp, Below.refl _ _⟩
  case round =>
    obtain ⟨k, t, rfl, rfl, hk, hd, ht, hbw⟩ := hrel
    have HD := Lib.hid hd
    have hdl := decDigits_len (n := n) (by omega)
    have hos := oneB_size
    rw [hd, List.length_append] at hdl
    clear hd ht
    by_cases hlt : 9 < k
    · have hb := decDigits_big hlt
      have hl1 : (Lib.decDigits k).length = (Lib.decDigits (k / 10)).length + 1 := by rw [hb]; simp
      have HB := Lib.hid hb
      clear hb
      go_wp2_with fail
      go_roundw
      case rel =>
        refine ⟨k / 10, UInt8.ofNat (48 + k % 10) :: t, by simp, ?_, by omega, ?_, ?_, hbw.alloc hbw.size _⟩
        · rw [oneB_app, show (48 + (k : Int) % 10).toNat = 48 + k % 10 by omega]
        · rw [HD.out, HB.out]; simp
        · simp; omega
      case measure => simp [intOf]; omega
    · have hb := decDigits_small (u := k) (by omega)
      have F : Hid (oneB (48 + (k : Int)) ++ ⟨t.toArray⟩ = ⟨(Lib.itoa n).toArray⟩) := Lib.hid (by
        rw [oneB_app, itoa_nat, HD.out, hb, show (48 + (k : Int)).toNat = 48 + k by omega]; rfl)
      clear hb
      go_wp2_with fail
      go_ret
      exact ⟨ret_str F.out, hbw.alloc hbw.size _⟩
set_option maxRecDepth 20000 in
set_option maxHeartbeats 800000 in
theorem fmtIntNeg_any : ∀ (N m : Nat) (w : World), m ≤ N → 1 ≤ m → m ≤ 9223372036854775808 →
    Calls Tryz.prog 129 #[.int .i64 (-(m : Int))] w fun e w' => e = .returned (.string ⟨(Lib.itoa (-(m : Int))).toArray⟩) ∧ Below w.heap.size w w'
  | 0, m, w, h, h1, _ => by omega
  | N + 1, m, w, h, h1, hm => by
    have kc := conv_one
    have hos := oneB_size
    have hdl := decDigits_len (n := m) hm
    by_cases hlt : m < 10
    · have hq : Int.tdiv (-(m : Int)) 10 = 0 := by rw [Int.neg_tdiv]; simp; omega
      have F : Hid ((⟨#[45]⟩ : ByteArray) ++ oneB (48 + (m : Int)) = ⟨(Lib.itoa (-(m : Int))).toArray⟩) := Lib.hid (by
        rw [itoa_neg h1, decDigits_small hlt, show (48 + (m : Int)) = ((48 + m : Nat) : Int) by simp]; rfl)
      go_enter Tryz.func129, Tryz.ntmps129
      go_wp2_with fail
      go_ret
      exact ⟨ret_str F.out, (Below.refl _ _).alloc (Nat.le_refl _) _⟩
    · have hih : ∀ w, Calls Tryz.prog 129 #[.int .i64 (-((m : Int) / 10))] w fun e w' => e = .returned (.string ⟨(45 :: Lib.decDigits (m / 10)).toArray⟩) ∧ Below w.heap.size w w' := fun w => by
        have := fmtIntNeg_any N (m / 10) w (by omega) (by omega) (by omega)
        rw [itoa_neg (by omega)] at this
        simpa using this
      have HIH := fun w => Lib.hid (hih w)
      have hl10 := decDigits_len (n := m / 10) (by omega)
      have kd := conv_drew
      have F : Hid ((⟨(45 :: Lib.decDigits (m / 10)).toArray⟩ : ByteArray) ++ oneB (IntKind.u8.wrap (IntKind.i64.wrap (48 + (m : Int).tmod 10))) = ⟨(Lib.itoa (-(m : Int))).toArray⟩) := Lib.hid (by
        rw [last_digit, itoa_neg h1, decDigits_big (k := m) (by omega)]; ext1; simp)
      have F2 : Hid ((⟨(45 :: Lib.decDigits (m / 10)).toArray⟩ : ByteArray) ++ oneB (48 + (m : Int) % 10) = ⟨(Lib.itoa (-(m : Int))).toArray⟩) := Lib.hid (by
        rw [show oneB (48 + (m : Int) % 10) = ⟨#[UInt8.ofNat (48 + m % 10)]⟩ by unfold oneB; rw [show (48 + (m : Int) % 10).toNat = 48 + m % 10 by omega], itoa_neg h1, decDigits_big (k := m) (by omega)]; ext1; simp)
      have hl11 : ¬ 9223372036854775807 < (Lib.decDigits (m / 10)).length + 1 + 1 := by omega
      clear hih
      go_enter Tryz.func129, Tryz.ntmps129
      go_wp2_with fail
      go_region_with (go_at_call 129; rw [wrap_id (by omega) (by omega)]; refine (HIH _).out.mono ?_; rintro e w2 ⟨rfl, hb2⟩; (try have kc2 := conv_at w2 w.heap.size _ ((hb2.cell (by simp)).trans (by simp; rfl))); have hk : Below w.heap.size w w2 := Below.now (by repeat (first | exact Below.refl _ _ | refine Below.drew ?_ | refine Below.alloc ?_ (by simp; try omega) _)) hb2; clear hb2)
      all_goals
        go_wp2_with fail
        go_ret
        exact ⟨ret_str (by first | exact F.out | exact F2.out), by repeat (first | exact hk | refine Below.drew ?_ | refine Below.alloc ?_ (by have := hk.size; simp; try omega) _)⟩
theorem specFormatInt_any (n : Int) (w : World) (h0 : -9223372036854775808 ≤ n) (h1 : n ≤ 9223372036854775807) :
    Calls Tryz.prog 129 #[.int .i64 n] w fun e w' => e = .returned (.string ⟨(Lib.itoa n).toArray⟩) ∧ Below w.heap.size w w' := by
  by_cases h : 0 ≤ n
  · obtain ⟨k, rfl⟩ : ∃ k : Nat, n = (k : Int) := ⟨n.toNat, by omega⟩
    exact fmtIntNat_any k w (by omega)
  · obtain ⟨k, rfl⟩ : ∃ k : Nat, n = -(k : Int) := ⟨(-n).toNat, by omega⟩
    exact fmtIntNeg_any k k w (Nat.le_refl _) (by omega) (by omega)
end Go.Proofs.YtdhaebbfiaddnaaGreatDoor
namespace Go.Proofs.YtdhaebbfiaddnaaGreatDoor
open Go.RowKit Go.ChangeShapes Go.WideShapes Go.ChangeAt
set_option linter.unusedVariables false
/-- all lie in the range of an int -/
def Rng64 (l : List Int) : Prop := ∀ j, j < l.length → -9223372036854775808 ≤ nthZ l j ∧ nthZ l j ≤ 9223372036854775807
theorem open_sliceIn {H : Type} {enc : TypeId × Value → H} {P : Program} {w : World} {r : Reach} {b0 : Nat} {t e : TypeId} {v : Value} {d : DataW H} {p : List MemPlace} (ht : P.underlying t = some (.slice e)) (he : P.underlying e = some (.int .i64)) (hc : P.cellsOf e = 1)
    (hv : Value.okWide P w r b0 t v) (h : DataW.Trod enc P w 0 (fun _ => true) true t v d p) : ∃ a l cap, v = .slice a l.length cap ∧ IntsIn w a l ∧ l.length ≤ 9223372036854775807 ∧ Rng64 l := by
  obtain ⟨a0, len0, cap0, rfl⟩ := okWide_slice ht hv
  obtain ⟨fuel, hf⟩ := h
  rcases open_ints ht he hc hf with ⟨hcs, _⟩ | ⟨a, len, cap, zs, hcs, _, hl, hm, hz, _, hcell, hwf⟩
  · have e : (Value.slice a0 len0 cap0) = .slice none 0 0 := by simpa [Value.cells] using hcs
    rw [e]
    exact ⟨none, [], 0, rfl, .inl rfl, by simp, fun j hj => absurd hj (by simp)⟩
  · have e : (Value.slice a0 len0 cap0) = .slice (some a) len cap := by simpa [Value.cells] using hcs
    rw [e]
    simp only [if_true] at hz
    have hlen : (zs.take len).length = len := by rw [List.length_take]; omega
    refine ⟨some a, zs.take len, cap, by rw [hlen], ?_, by rw [hlen]; unfold maxLen at hm; omega, fun j hj => ?_⟩
    · by_cases h0 : len = 0
      · left; subst h0; simp
      · obtain ⟨b, off, rfl, hc'⟩ := ints_at hcell (by omega)
        right
        refine ⟨b, off, rfl, fun i hi => ?_⟩
        rw [List.length_map, hlen] at hi
        rw [hc' i (by omega)]
        simp [List.getElem_take, List.getD_eq_getElem?_getD, show i < zs.length by omega]
    · rw [nthZ_lt hj, List.getElem_take]
      exact bounds_i64 (hwf _ (List.getElem_mem _))
end Go.Proofs.YtdhaebbfiaddnaaGreatDoor
namespace Go.Proofs.YtdhaebbfiaddnaaGreatDoor
open Go.RowKit
set_option linter.unusedVariables false
/-- the library's table of powers of ten lies where it was laid -/
def Tab10 (w : World) : Prop := Lib.TabIs Tryz.prog w "internal/strconv.uint64pow10" .u64 Lib.pow10Tab
theorem Tab10.later {w w' : World} (h : Tab10 w) (hb : Below w.heap.size w w') : Tab10 w' := by
  have hg : Tryz.prog.globalNamed "internal/strconv.uint64pow10" = some 0 := by kernel_rfl
  unfold Tab10 Lib.TabIs World.var? at h ⊢
  rw [hg] at h ⊢
  simp only [Option.bind_some] at h ⊢
  have hlt : 0 < w.heap.size := by
    rcases Nat.lt_or_ge 0 w.heap.size with h' | h'
    · exact h'
    · rw [Array.getElem?_eq_none h'] at h; simp at h
  rw [hb.block _ hlt]
  exact h
theorem below_grow (w : World) (q : Nat) (os : Array Obj) : Below w.heap.size w (Go.Sort.grow (w.drewN q) os) := below_wide w ⟨w.drawn + q, os⟩
/-- the numeral of an integer -/
def numB (n : Int) : ByteArray := ⟨(Lib.itoa n).toArray⟩
set_option maxHeartbeats 400000 in
theorem implFormatInt_any (n : Int) (w : World) (h0 : -9223372036854775808 ≤ n) (h1 : n ≤ 9223372036854775807) (ht : Tab10 w) :
    Calls Tryz.prog 16 #[.int .i64 n] w fun e w' => e = .returned (.string (numB n)) ∧ Below w.heap.size w w' := by
  have HC := Lib.hid (Tryz.strconv_Itoa n h0 h1 w ht)
  clear ht
  go_enter Tryz.func16, Tryz.ntmps16
  go_wp2_with fail
  refine HC.out.mono ?_
  rintro e w2 ⟨rfl, k, os, rfl⟩
  have hb := below_grow w k os
  generalize Go.Sort.grow (w.drewN k) os = w2 at *
  go_wp2_with fail
  go_ret
  exact ⟨rfl, hb⟩
theorem itoa_len {n : Int} (h0 : -9223372036854775808 ≤ n) (h1 : n ≤ 9223372036854775807) : (numB n).size ≤ 21 := by
  show (Lib.itoa n).toArray.size ≤ 21
  rw [List.size_toArray]
  unfold Lib.itoa
  split
  · have := decDigits_len (n := n.natAbs) (by omega); simp; omega
  · have := decDigits_len (n := n.toNat) (by omega); omega
/-- the numerals of the first j -/
def numTo (l : List Int) (j : Nat) : List ByteArray := (l.take j).map numB
theorem numTo_len {l : List Int} {j : Nat} (h : j ≤ l.length) : (numTo l j).length = j := by simp [numTo]; omega
theorem numTo_succ {l : List Int} {j : Nat} (h : j < l.length) : numTo l (j + 1) = numTo l j ++ [numB (nthZ l j)] := by
  unfold numTo; rw [List.take_succ_eq_append_getElem h, nthZ_lt h, List.map_append]; rfl
theorem numTo_sum {l : List Int} (hr : Rng64 l) : ∀ j, j ≤ l.length → strSum (numTo l j) ≤ 21 * j
  | 0, _ => by simp [numTo, strSum]
  | j + 1, h => by
    have h1 := numTo_sum hr j (by omega)
    have h2 := itoa_len (hr j (by omega)).1 (hr j (by omega)).2
    rw [numTo_succ (by omega)]
    unfold strSum at *
    rw [List.map_append, List.sum_append]
    simp only [List.map_cons, List.map_nil, List.sum_cons, List.sum_nil, Nat.add_zero]
    omega
/-- FormatNumbers as a function of plain data -/
def fmtNums (l : List Int) : ByteArray := if l.length = 0 then ⟨#[45]⟩ else joinF (numTo l l.length) ⟨#[44]⟩
theorem fmtNums_zero {l : List Int} (h : l.length = 0) : fmtNums l = ⟨#[45]⟩ := by simp [fmtNums, h]
theorem fmtNums_pos {l : List Int} (h : 0 < l.length) : fmtNums l = joinF (numTo l l.length) ⟨#[44]⟩ := by simp only [fmtNums, if_neg (show ¬ l.length = 0 by omega)]
theorem fmtNums_size {l : List Int} (hr : Rng64 l) (h : l.length ≤ 2 ^ 40) : (joinF (numTo l l.length) ⟨#[44]⟩).size ≤ 2 ^ 46 := by
  have h1 := joinF_size (numTo l l.length) ⟨#[44]⟩
  have h3 := numTo_sum hr l.length (Nat.le_refl _)
  rw [numTo_len (Nat.le_refl _)] at h1
  have : (ByteArray.mk #[44]).size = 1 := rfl
  rw [this] at h1
  omega
set_option maxHeartbeats 1000000 in
theorem implFormatNumbers_any (l : List Int) (a : Option Addr) (cap : Nat) (w : World) (hl : IntsIn w a l) (hlen : l.length ≤ 2 ^ 40) (hr : Rng64 l) (ht : Tab10 w) :
    Calls Tryz.prog 19 #[.slice a l.length cap] w fun e w' => e = .returned (.string (fmtNums l)) ∧ Below w.heap.size w w' := by
  have HL := Lib.hid hl
  have HT := Lib.hid ht
  have HZ := Lib.hid (fmtNums_size hr hlen)
  have HR := Lib.hid hr
  clear hl hr ht
  rcases Nat.eq_zero_or_pos l.length with h0 | h0
  · have F := Lib.hid (fmtNums_zero h0)
    rw [h0]
    go_enter Tryz.func19, Tryz.ntmps19
    go_wp2_with fail
    go_ret
    exact ⟨ret_str F.out.symm, Below.refl _ _⟩
  have F := Lib.hid (fmtNums_pos h0)
  have HS := Lib.hid (Bld.nil 9 1 (Below.refl w.heap.size w))
  have hn0 : ((l.length : Int) == 0) = false := by rw [beq_eq_false_iff_ne]; omega
  go_enter Tryz.func19, Tryz.ntmps19
  go_wp2_with fail
  go_loopw [3, 11] (fun v i wr => ∃ j : Nat, j ≤ l.length ∧ i = .int .i64 j ∧ Bld 9 1 w wr v j (strVals (numTo l j))) (fun _ i _ => l.length - (intOf i).toNat)
  case atStart => exact ⟨0, Nat.zero_le _, rfl, HS.out⟩
  case round =>
    clear HS
    obtain ⟨j, hj, rfl, hbd⟩ := hrel
    obtain ⟨a3, c3, rfl⟩ := owns_form hbd.1
    have HB := Lib.hid hbd
    have hbw := hbd.2
    clear hbd
    by_cases hlt : j < l.length
    · obtain ⟨b, off, rfl, hb, hc⟩ := (HL.out.later hbw).cell hlt
      have c1 := hc j hlt
      have F1 := Lib.hid (numTo_succ hlt)
      clear hc
      go_wp2_with fail
      refine (implFormatInt_any _ _ (HR.out j hlt).1 (HR.out j hlt).2 (HT.out.later hbw)).mono ?_
      rintro e w2 ⟨rfl, hb2⟩
      replace HB := Lib.hid (HB.out.later hb2)
      clear hb2 hbw c1 hb
      go_wp2_with (at_builtin; refine wpList_app1 rfl _ _ rfl Tryz.underlying52 Tryz.infoStr rfl (by decide) rfl HB.out rfl rfl ?c1 ?c2 ?c3 ?c4)
      case c1 => simp [Value.oneCell']
      case c2 => unfold maxLen; omega
      case c3 => omega
      intro v2 w4 hb2
      have F2 : Hid (Bld 9 1 w w4 v2 (j + 1) (strVals (numTo l (j + 1)))) := by
        rw [F1.out]; unfold strVals at *; rw [List.map_append]; exact Lib.hid hb2
      clear hb2
      go_wp2_with fail
      go_roundw
      case rel => exact ⟨j + 1, by omega, by go_num, F2.out⟩
      case measure => simp [intOf]; omega
    · obtain rfl : j = l.length := by omega
      have hdl := numTo_len (l := l) (Nat.le_refl _)
      go_wp2_with fail
      have hJ := implJoin_any (numTo l l.length) ⟨#[44]⟩ a3 c3 wr (owns_strs HB.out.1) (by decide) (by decide) (by omega) (by rw [hdl]; exact owns_capS HB.out.1) HZ.out
      rw [hdl] at hJ
      refine hJ.mono ?_
      rintro e w5 ⟨rfl, hb5⟩
      replace hbw := Below.now hbw hb5
      clear hb5 hJ
      go_wp2_with fail
      go_ret
      exact ⟨ret_str F.out.symm, hbw⟩
end Go.Proofs.YtdhaebbfiaddnaaGreatDoor
