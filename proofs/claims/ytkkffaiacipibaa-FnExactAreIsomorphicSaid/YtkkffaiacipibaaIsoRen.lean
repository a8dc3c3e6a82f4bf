/-
  The program's search for a renaming.
-/
import Derived.Test.YtkkffaiacipibaaIsoIm
namespace Go.Proofs.Ytkkffaiacipibaa
open Go.RowKit
set_option linter.unusedVariables false
theorem isoThree (w : World) (o1 o2 o3 : Obj) : (((w.alloc o1).alloc o2).alloc o3).heap[w.heap.size]? = some o1 ∧ (((w.alloc o1).alloc o2).alloc o3).heap[w.heap.size + 1]? = some o2 ∧ (((w.alloc o1).alloc o2).alloc o3).heap[w.heap.size + 1 + 1]? = some o3 ∧ (((w.alloc o1).alloc o2).alloc o3).heap.size = w.heap.size + 3 := by
  have s1 : (w.alloc o1).heap.size = w.heap.size + 1 := by simp
  have s2 : ((w.alloc o1).alloc o2).heap.size = w.heap.size + 1 + 1 := by simp
  have old : ∀ (W : World) (o : Obj) (k : Nat), k < W.heap.size → (W.alloc o).heap[k]? = W.heap[k]? := fun W o k hk => Below.heap_alloc W o k hk
  refine ⟨?_, ?_, ?_, by simp⟩
  · rw [old _ _ _ (by omega)]; exact isoLo _ _ _
  · rw [old _ _ _ (by omega)]; exact isoHi _ _ _
  · rw [← s2]; exact isoNew _ _
theorem cloneZ_any (l : List Nat) (b off cap : Nat) (w : World) (hl : NatsIn w (some ⟨b, off, none⟩) l) (hpos : 0 < l.length) (hlen : l.length ≤ 1000000) :
    Calls Try.prog 97 #[.slice (some ⟨b, off, none⟩) l.length cap] w fun e w' => ∃ v', e = .returned v' ∧ Bld 3 1 w w' v' l.length (ivs l) := by
  obtain ⟨b2, o2, he, hc⟩ := nm_cells' hl hpos
  simp only [Option.some.injEq, Addr.mk.injEq, and_true] at he
  obtain ⟨rfl, rfl⟩ := he
  have := Try.slices_Clone_int b off l.length cap (l.map Int.ofNat) w (by simp) (by omega) (fun j hj => by
    rw [List.length_map] at hj
    rw [hc w (Below.refl _ _) j hj]
    simp [nm, List.getD_eq_getElem?_getD, hj])
  rw [List.take_of_length_le (by simp)] at this
  exact this.mono fun _ _ ⟨v', he, ho, _, hb⟩ => ⟨v', he, ho, hb⟩
theorem containsZ_any (l : List Nat) (b off cap x : Nat) (w : World) (hl : NatsIn w (some ⟨b, off, none⟩) l) (hpos : 0 < l.length) (hlen : l.length ≤ 1000000) :
    Calls Try.prog 84 #[.slice (some ⟨b, off, none⟩) l.length cap, .int .i64 (x : Nat)] w fun e w' => e = .returned (.bool (l.contains x)) ∧ w' = w := by
  obtain ⟨b2, o2, he, hc⟩ := nm_cells' hl hpos
  simp only [Option.some.injEq, Addr.mk.injEq, and_true] at he
  obtain ⟨rfl, rfl⟩ := he
  have := Try.slices_Contains_int b off l.length cap (l.map Int.ofNat) (x : Nat) w (by simp) (by omega) (fun j hj => by
    rw [List.length_map] at hj
    rw [hc w (Below.refl _ _) j hj]
    simp [nm, List.getD_eq_getElem?_getD, hj])
  rw [List.take_of_length_le (by simp)] at this
  have e : (l.map Int.ofNat).contains ((x : Nat) : Int) = l.contains x := by
    rw [Bool.eq_iff_iff, List.contains_iff_mem, List.contains_iff_mem, List.mem_map]
    constructor
    · rintro ⟨y, hy, he⟩
      have : y = x := by have h2 : (y : Int) = (x : Int) := he; omega
      rw [← this]; exact hy
    · exact fun h => ⟨x, h, rfl⟩
  rw [e] at this
  exact this
set_option maxRecDepth 20000 in
set_option maxHeartbeats 4000000 in
theorem renames_any (m : Nat) (ln lu : List Nat) (a au : Option Addr) (len cap lenu capu : Nat) (hT : Tb m ln) (hU : Tb m lu) (hlen : len = m * m) (hlenu : lenu = m * m) : ∀ (f : Nat) (ps : List Nat) (ap : Option Addr) (capp : Nat) (w : World), NatsIn w a ln → NatsIn w au lu → NatsIn w ap ps → ps.length + f = m → (∀ y ∈ ps, y < m) → 0 ∈ ps →
    Calls Try.prog 66 #[.agg #[.int .i64 m, .slice a len cap], .agg #[.int .i64 m, .slice au lenu capu], .slice ap ps.length capp] w fun e w' => e = .returned (.bool (srch m ln lu f ps)) ∧ Below w.heap.size w w' := by
  intro f
  induction f with
  | zero =>
    intro ps ap capp w hl hu hp hf hlt h0
    have hps : ps.length = m := hf
    have hm := hT.hi
    have FS : Hid (srch m ln lu 0 ps = carB m ln lu ps) := Lib.hid rfl
    have FB : Hid (carB m ln lu ps = (List.range m).all (carR m ln lu ps)) := Lib.hid rfl
    have hq1 : decide (m < m) = false := by simp
    have hbel : Below w.heap.size w (((w.alloc (.cells #[.int .i64 m, .slice a len cap] 27)).alloc (.cells #[.int .i64 m, .slice au lenu capu] 27)).alloc (.cells #[.slice ap m capp] 22)) := by
      repeat (first | exact Below.refl _ _ | refine Below.alloc ?_ (by simp; try omega) _)
    have X := isoThree w (.cells #[.int .i64 m, .slice a len cap] 27) (.cells #[.int .i64 m, .slice au lenu capu] 27) (.cells #[.slice ap m capp] 22)
    have HP : Hid (PredEl (((w.alloc (.cells #[.int .i64 m, .slice a len cap] 27)).alloc (.cells #[.int .i64 m, .slice au lenu capu] 27)).alloc (.cells #[.slice ap m capp] 22)).heap.size 98 #[.pointer (some ⟨w.heap.size, 0, none⟩), .pointer (some ⟨w.heap.size + 1 + 1, 0, none⟩), .pointer (some ⟨w.heap.size + 1, 0, none⟩)] (carR m ln lu ps) m (((w.alloc (.cells #[.int .i64 m, .slice a len cap] 27)).alloc (.cells #[.int .i64 m, .slice au lenu capu] 27)).alloc (.cells #[.slice ap m capp] 22))) := Lib.hid (by
      obtain ⟨x1, x2, x3, _⟩ := X
      exact renOut_pred m ln lu ps a au ap len cap lenu capu capp (w.heap.size + 1 + 1) w.heap.size (w.heap.size + 1) _ (by rw [cell_of_row _ _ 0 _ _ _ x3]; rfl) (by rw [cell_of_row _ _ 0 _ _ _ x1]; rfl) (by rw [cell_of_row _ _ 1 _ _ _ x1]; rfl) (by rw [cell_of_row _ _ 0 _ _ _ x2]; rfl) (by rw [cell_of_row _ _ 1 _ _ _ x2]; rfl) (hl.later hbel) (hu.later hbel) (hp.later hbel) hT hU hlen hlenu hps hlt)
    have HBE := Lib.hid hbel
    rw [hps]
    clear hps hl hu hp hf hlt h0 hT hU hlen hlenu hbel X
    go_enter Try.func66, Try.ntmps66
    go_wp2_with fail
    refine (all_any _ _ _ (carR m ln lu ps) m a len cap _ (by omega) HP.out (Nat.le_refl _) (enters_of Try.func98 (by kernel_rfl) rfl)).mono ?_
    rintro e w2 ⟨rfl, hb2⟩
    have hbel2 := Below.now HBE.out hb2
    clear hb2 HP HBE
    generalize (List.range m).all (carR m ln lu ps) = q at *
    go_wp2_with fail
    go_ret
    exact ⟨ret_bool (by rw [FS.out, FB.out]), hbel2⟩
  | succ f ih =>
    intro ps ap capp w hl hu hp hf hlt h0
    have hpos := hT.lo
    have hm := hT.hi
    have hpl : ps.length < m := by omega
    have hp0 : 0 < ps.length := List.length_pos_of_mem h0
    have hq1 : decide (ps.length < m) = true := by simpa using hpl
    have hq2 : decide ((ps.length : Int) < (m : Int)) = true := by simpa using hpl
    have HA := Lib.hid hl
    have HB := Lib.hid hu
    have HF := Lib.hid hf
    have HQ := Lib.hid hlt
    have H0 := Lib.hid h0
    have IH := Lib.hid ih
    have HPN := Lib.hid hp
    obtain ⟨bp, op, rfl, hc⟩ := nm_cells' hp hp0
    have HC := Lib.hid hc
    clear hl hu hp hf hlt h0 hT hU hlen hlenu hc ih
    go_enter Try.func66, Try.ntmps66
    go_upto_region 1 with fail
    have B0 : Hid (Below w.heap.size w (((w.alloc (.cells #[.int .i64 m, .slice a len cap] 27)).alloc (.cells #[.int .i64 m, .slice au lenu capu] 27)).alloc (.cells #[.slice (some ⟨bp, op, none⟩) ps.length capp] 22))) := Lib.hid (by repeat (first | exact Below.refl _ _ | refine Below.alloc ?_ (by simp; try omega) _))
    have X := isoThree w (.cells #[.int .i64 m, .slice a len cap] 27) (.cells #[.int .i64 m, .slice au lenu capu] 27) (.cells #[.slice (some ⟨bp, op, none⟩) ps.length capp] 22)
    generalize (((w.alloc (.cells #[.int .i64 m, .slice a len cap] 27)).alloc (.cells #[.int .i64 m, .slice au lenu capu] 27)).alloc (.cells #[.slice (some ⟨bp, op, none⟩) ps.length capp] 22)) = W0 at *
    have K1 : Hid (∀ W, Below W0.heap.size W0 W → W.cell? ⟨w.heap.size, 0, none⟩ = some (.int .i64 m) ∧ W.cell? ⟨w.heap.size, 1, none⟩ = some (.slice a len cap) ∧ W.cell? ⟨w.heap.size + 1, 0, none⟩ = some (.int .i64 m) ∧ W.cell? ⟨w.heap.size + 1, 1, none⟩ = some (.slice au lenu capu) ∧ W.cell? ⟨w.heap.size + 1 + 1, 0, none⟩ = some (.slice (some ⟨bp, op, none⟩) ps.length capp)) := Lib.hid (fun W hW => by
      obtain ⟨x1, x2, x3, x4⟩ := X
      have e1 := (hW.block w.heap.size (by omega)).trans x1
      have e2 := (hW.block (w.heap.size + 1) (by omega)).trans x2
      have e3 := (hW.block (w.heap.size + 1 + 1) (by omega)).trans x3
      refine ⟨by simp [World.cell?, e1], by simp [World.cell?, e1], by simp [World.cell?, e2], by simp [World.cell?, e2], by simp [World.cell?, e3]⟩)
    obtain ⟨z0, z1, z2, z3, z4⟩ := K1.out _ (Below.refl _ _)
    clear X
    go_wp2_with fail
    clear z0 z1 z2 z3 z4
    go_loopw [15] (fun i wr => ∃ x : Nat, x ≤ m ∧ i = .int .i64 x ∧ Below W0.heap.size W0 wr ∧ Hid (∀ y, y < x → tryB m ln lu f ps y = false)) (fun i _ => m - (intOf i).toNat)
    case atStart => exact ⟨0, Nat.zero_le _, rfl, Below.refl _ _, Lib.hid (fun y hy => by omega)⟩
    case round =>
      obtain ⟨x, hxm, rfl, hbw, hall⟩ := hrel
      by_cases hxi : x < m
      · have TRY : Hid (tryB m ln lu f ps x = (!ps.contains x && srch m ln lu f (ps ++ [x]))) := Lib.hid rfl
        have HS : Hid (∀ W, Below W0.heap.size W0 W → Calls Try.prog 84 #[.slice (some ⟨bp, op, none⟩) ps.length capp, .int .i64 (x : Nat)] W fun e w' => e = .returned (.bool (ps.contains x)) ∧ w' = W) := Lib.hid (fun W hW => containsZ_any ps bp op capp x W (HPN.out.later (Below.now B0.out hW)) hp0 (by omega))
        have HLEN : Hid ((ps ++ [x]).length = ps.length + 1) := Lib.hid (by simp)
        have IHC : Hid (∀ (g c : Nat) (W : World), Below W0.heap.size W0 W → W.ownsRow wr.heap.size 3 1 (.slice (some ⟨g, 0, none⟩) (ps.length + 1) c) (ps.length + 1) (ivs ps ++ [.int .i64 (x : Nat)]) → Calls Try.prog 66 #[.agg #[.int .i64 m, .slice a len cap], .agg #[.int .i64 m, .slice au lenu capu], .slice (some ⟨g, 0, none⟩) (ps.length + 1) c] W fun e w' => e = .returned (.bool (srch m ln lu f (ps ++ [x]))) ∧ Below W.heap.size W w') := Lib.hid (fun g c W hW ho => by
          have h1 := IH.out (ps ++ [x]) (some ⟨g, 0, none⟩) c W (HA.out.later (Below.now B0.out hW)) (HB.out.later (Below.now B0.out hW)) (owns_nats (by rw [ivs_app]; exact ho)) (by rw [HLEN.out]; have := HF.out; omega) (fun y hy => by
            rcases List.mem_append.1 hy with h | h
            · exact HQ.out y h
            · rw [List.mem_singleton.1 h]; exact hxi) (List.mem_append.2 (.inl H0.out))
          rw [HLEN.out] at h1
          exact h1)
        have HCl : Hid (∀ W, Below wr.heap.size wr W → Calls Try.prog 97 #[.slice (some ⟨bp, op, none⟩) ps.length capp] W fun e w' => ∃ v', e = .returned v' ∧ Bld 3 1 W w' v' ps.length (ivs ps)) := Lib.hid (fun W hW => cloneZ_any ps bp op capp W (HPN.out.later (Below.now B0.out (Below.now hbw hW))) hp0 (by omega))
        have M1 : Hid (∀ u ∈ [Value.int .i64 ((x : Nat) : Int)], u.oneCell' = true) := Lib.hid (fun u hu => by rw [List.mem_singleton.1 hu]; rfl)
        have M3 : Hid (ps.length + 1 ≤ maxLen) := Lib.hid (by unfold maxLen; omega)
        have M4 : Hid ((ps.length + 1) * 8 ≤ 140737488355328) := Lib.hid (by omega)
        have TF : Hid (tryB m ln lu f ps x = true → srch m ln lu (f + 1) ps = true) := Lib.hid (fun h => srch_true hxi h)
        generalize ps.contains x = cb at *
        generalize srch m ln lu f (ps ++ [x]) = r at *
        obtain ⟨tb, htb⟩ : ∃ tb, tb = tryB m ln lu f ps x := ⟨_, rfl⟩
        rw [← htb] at TRY TF
        have TTT := Lib.hid htb
        clear htb
        go_upto_region 5 with fail
        go_cut [15, 31] from 15 to 32 (fun c v wx => c = .int .i64 x ∧ v = .bool tb ∧ Below W0.heap.size W0 wx)
        case first =>
          obtain ⟨k0, k1, k2, k3, k4⟩ := K1.out _ hbw
          have kr0 := Below.refl wr.heap.size wr
          have kr := kr0
          cases cb
          · go_region_held3 (fun w' => w'.cell? ⟨w.heap.size, 0, none⟩ = some (.int .i64 m) ∧ w'.cell? ⟨w.heap.size, 1, none⟩ = some (.slice a len cap) ∧ w'.cell? ⟨w.heap.size + 1, 0, none⟩ = some (.int .i64 m) ∧ w'.cell? ⟨w.heap.size + 1, 1, none⟩ = some (.slice au lenu capu) ∧ w'.cell? ⟨w.heap.size + 1 + 1, 0, none⟩ = some (.slice (some ⟨bp, op, none⟩) ps.length capp)) (go_keep) (first
              | (go_at_call 84; refine (HS.out _ (Below.now hbw (by repeat (first | exact kr0 | refine Below.drew ?_ | refine below_drewN ?_ _)))).mono ?_; rintro e w2 ⟨rfl, hw2⟩; obtain rfl := hw2.symm)
              | (go_at_call 97; refine (HCl.out _ (by repeat (first | exact kr | refine Below.drew ?_ | refine below_drewN ?_ _ | refine Below.alloc ?_ (by have := kr.size; simp; try omega) _))).mono ?_; rintro e w2 ⟨v2, rfl, hb2⟩; have KB := Lib.hid hb2.2; replace kr : Below wr.heap.size wr w2 := Below.now (by repeat (first | exact kr | refine Below.drew ?_ | refine below_drewN ?_ _ | refine Below.alloc ?_ (by have := kr.size; simp; try omega) _)) hb2.2; have H2 : Hid (w2.ownsRow wr.heap.size 3 1 v2 ps.length (ivs ps)) := Lib.hid (owns_mono hb2.1 (by simp)); have s0 : w2.cell? ⟨w.heap.size, 0, none⟩ = some (.int .i64 m) := (K1.out _ (Below.now hbw kr)).1; have s1 : w2.cell? ⟨w.heap.size, 1, none⟩ = some (.slice a len cap) := (K1.out _ (Below.now hbw kr)).2.1; have s2 : w2.cell? ⟨w.heap.size + 1, 0, none⟩ = some (.int .i64 m) := (K1.out _ (Below.now hbw kr)).2.2.1; have s3 : w2.cell? ⟨w.heap.size + 1, 1, none⟩ = some (.slice au lenu capu) := (K1.out _ (Below.now hbw kr)).2.2.2.1; have s4 : w2.cell? ⟨w.heap.size + 1 + 1, 0, none⟩ = some (.slice (some ⟨bp, op, none⟩) ps.length capp) := (K1.out _ (Below.now hbw kr)).2.2.2.2; clear hb2)
              | (refine step_appM_g (w := wr) (by first | rfl | simp [Region.wanted, yielded, go_sem]) (.tmp 26) (.tmp 28) (by rfl) Try.underlying22 Try.infoInt rfl (by decide) (by rfl) (Bld.later (w := wr) ⟨H2.out, kr⟩ ((Below.refl _ _).alloc (Nat.le_refl _) _)) (by rfl) (src_at (T := 3) (isoNew _ _)) (by rfl) M1.out M3.out M4.out ?_; intro v9 w9 hb9 hg9 ho9; obtain ⟨g5, c5, hv5⟩ := owns_some hb9.1 (by omega); subst hv5; have H9 : Hid (Bld 3 1 wr w9 (.slice (some ⟨g5, 0, none⟩) (ps.length + 1) c5) (ps.length + 1) (ivs ps ++ [.int .i64 (x : Nat)])) := Lib.hid hb9; have t0 : w9.cell? ⟨w.heap.size, 0, none⟩ = some (.int .i64 m) := (K1.out _ (Below.now hbw H9.out.2)).1; have t1 : w9.cell? ⟨w.heap.size, 1, none⟩ = some (.slice a len cap) := (K1.out _ (Below.now hbw H9.out.2)).2.1; have t2 : w9.cell? ⟨w.heap.size + 1, 0, none⟩ = some (.int .i64 m) := (K1.out _ (Below.now hbw H9.out.2)).2.2.1; have t3 : w9.cell? ⟨w.heap.size + 1, 1, none⟩ = some (.slice au lenu capu) := (K1.out _ (Below.now hbw H9.out.2)).2.2.2.1; have t4 : w9.cell? ⟨w.heap.size + 1 + 1, 0, none⟩ = some (.slice (some ⟨bp, op, none⟩) ps.length capp) := (K1.out _ (Below.now hbw H9.out.2)).2.2.2.2; clear hb9 hg9 ho9)
              | (refine step_appM_g (w := wr) (by first | rfl | simp [Region.wanted, yielded, go_sem]) (.tmp 26) (.tmp 28) (by rfl) Try.underlying22 Try.infoInt rfl (by decide) (by rfl) (show Bld 3 1 wr w2 v2 ps.length (ivs ps) from ⟨H2.out, kr⟩) (by rfl) (Src.later (w := (wr.alloc (.cells #[.int .i64 (x : Nat)] 3)).drew) (src_at (T := 3) (isoNew wr _)) KB.out) (by rfl) M1.out M3.out M4.out ?_; intro v9 w9 hb9 hg9 ho9; obtain ⟨g5, c5, hv5⟩ := owns_some hb9.1 (by omega); subst hv5; have H9 : Hid (Bld 3 1 wr w9 (.slice (some ⟨g5, 0, none⟩) (ps.length + 1) c5) (ps.length + 1) (ivs ps ++ [.int .i64 (x : Nat)])) := Lib.hid hb9; have t0 : w9.cell? ⟨w.heap.size, 0, none⟩ = some (.int .i64 m) := (K1.out _ (Below.now hbw H9.out.2)).1; have t1 : w9.cell? ⟨w.heap.size, 1, none⟩ = some (.slice a len cap) := (K1.out _ (Below.now hbw H9.out.2)).2.1; have t2 : w9.cell? ⟨w.heap.size + 1, 0, none⟩ = some (.int .i64 m) := (K1.out _ (Below.now hbw H9.out.2)).2.2.1; have t3 : w9.cell? ⟨w.heap.size + 1, 1, none⟩ = some (.slice au lenu capu) := (K1.out _ (Below.now hbw H9.out.2)).2.2.2.1; have t4 : w9.cell? ⟨w.heap.size + 1 + 1, 0, none⟩ = some (.slice (some ⟨bp, op, none⟩) ps.length capp) := (K1.out _ (Below.now hbw H9.out.2)).2.2.2.2; clear hb9 hg9 ho9)
              | (go_at_call 66; refine (IHC.out g5 c5 _ (Below.now hbw H9.out.2) H9.out.1).mono ?_; rintro e w6 ⟨rfl, hb6⟩; have K6 : Hid (Below wr.heap.size wr w6) := Lib.hid (Below.now H9.out.2 hb6); have r0 : w6.cell? ⟨w.heap.size, 0, none⟩ = some (.int .i64 m) := (K1.out _ (Below.now hbw K6.out)).1; have r1 : w6.cell? ⟨w.heap.size, 1, none⟩ = some (.slice a len cap) := (K1.out _ (Below.now hbw K6.out)).2.1; have r2 : w6.cell? ⟨w.heap.size + 1, 0, none⟩ = some (.int .i64 m) := (K1.out _ (Below.now hbw K6.out)).2.2.1; have r3 : w6.cell? ⟨w.heap.size + 1, 1, none⟩ = some (.slice au lenu capu) := (K1.out _ (Below.now hbw K6.out)).2.2.2.1; have r4 : w6.cell? ⟨w.heap.size + 1 + 1, 0, none⟩ = some (.slice (some ⟨bp, op, none⟩) ps.length capp) := (K1.out _ (Below.now hbw K6.out)).2.2.2.2; clear hb6))
            all_goals
              go_wp2_with fail
              go_meet
              exact ⟨rfl, by rw [TRY.out]; rfl, Below.now hbw K6.out⟩
          · have q4 : ∀ x', (wide wr x').cell? ⟨w.heap.size + 1 + 1, 0, none⟩ = some (.slice (some ⟨bp, op, none⟩) ps.length capp) := wide_cell k4
            have HS2 : Hid (∀ x', Calls Try.prog 84 #[.slice (some ⟨bp, op, none⟩) ps.length capp, .int .i64 (x : Nat)] (wide wr x') fun e w' => e = .returned (.bool true) ∧ w' = wide wr x') := Lib.hid (fun x' => HS.out _ (Below.now hbw (below_wide wr x')))
            clear k0 k1 k2 k3 k4 kr0 kr
            go_wp2_with fail
            refine region_wide (by kernel_rfl) (by kernel_rfl) ?_
            repeat (quiet_step ((go_at_call 84; refine (HS2.out _).mono ?_; rintro e w2 ⟨rfl, rfl⟩; exact ⟨rfl, _, rfl⟩)))
            refine wpQuiet_nil ?_
            rintro w4 ⟨x4, rfl⟩
            have hb4 := Below.now hbw (below_wide wr x4)
            clear q4 HS2
            go_wp2_with fail
            go_meet
            exact ⟨rfl, by rw [TRY.out]; rfl, hb4⟩
        case rest =>
          obtain ⟨rfl, rfl, hbc⟩ := hcut
          cases tb
          · go_wp2_with fail
            go_roundw
            case rel => exact ⟨x + 1, by omega, by go_num, hbc, Lib.hid (fun y hy => by
              by_cases hyx : y = x
              · rw [hyx]; exact TTT.out.symm
              · exact hall.out y (by omega))⟩
            case measure => simp [intOf]; omega
          · have TF2 := Lib.hid (TF.out rfl)
            go_wp2_with fail
            go_ret
            exact ⟨by rw [TF2.out]; rfl, Below.now B0.out hbc⟩
      · have F := Lib.hid (srch_false (fun y hy => hall.out y (by omega)))
        go_wp2_with fail
        go_ret
        exact ⟨by rw [F.out]; rfl, Below.now B0.out hbw⟩
end Go.Proofs.Ytkkffaiacipibaa
