/-
  The walk of 'FnSquareFree'.
-/
import Derived.Test.YtnnboeeogbgmdaaRep
import Derived.Test.YtnnboeeogbgmdaaCountAI
import Derived.Test.YtnnboeeogbgmdaaCur
import Derived.Test.YtnnboeeogbgmdaaLift
import Derived.RegionTactic
import Derived.Deep.DrawnRows
import Derived.Deep.DeepCutAuto
namespace Go.Proofs.Ytnnboeeogbgmdaa.fnSquareFree
open Go.RowKit
set_option linter.unusedVariables false
attribute [local go_sem ↓] Go.wp_at_zero Go.wp_at_succ
theorem sq3 : ∀ n, n < 8 → (sqfL 3 n).length = [1, 3, 6, 12, 18, 30, 42, 60].getD n 0 := by decide +kernel
theorem sq2 : ∀ n, n < 8 → (sqfL 2 n).length = [1, 2, 2, 2, 0, 0, 0, 0].getD n 0 := by decide +kernel
def lstOk (m : Nat) : Bool := match leastL 3 m [] with
  | some w => decide (w.length = m) && (repFst (powLen 2) w == none) && w.all (fun c => decide (97 ≤ c.toNat) && decide (c.toNat ≤ 100))
  | none => false
theorem least3 : ∀ m, m < 40 → lstOk m = true := by decide +kernel
theorem least2 : ∀ n, n < 8 → (leastL 2 n []).isSome = decide (n < 4) := by decide +kernel
theorem caSq : ∀ k, k < 4 → 1 ≤ k → ∀ j, j < 5 → caV ⟨#[88, 88]⟩ ((k : Nat) : Int) ((j : Nat) : Int) = (((sqfL k j).length : Nat) : Int) := by decide +kernel
theorem least3_word {m : Nat} (hm : m < 40) : ∃ u, leastF 3 m ⟨#[]⟩ = some u ∧ u.size = m ∧ noRep (powR 2 u) u = true := by
  have h := least3 m hm
  unfold lstOk at h
  have e : leastL 3 m [] = (leastF 3 m ⟨#[]⟩).map bl := (leastF_map 3 m ⟨#[]⟩).symm
  rw [e] at h
  cases hf : leastF 3 m ⟨#[]⟩ with
  | none => rw [hf] at h; cases h
  | some u =>
    rw [hf] at h
    simp only [Option.map_some, Bool.and_eq_true, decide_eq_true_eq, beq_iff_eq] at h
    obtain ⟨⟨h1, h2⟩, h3⟩ := h
    rw [bl_len] at h1
    have hl : longOkB 4 u = true := by
      unfold longOkB allB
      have h4 : u.data.toList.all (letB 4) = true := by
        rw [List.all_eq_true] at h3 ⊢
        intro c hc
        have := h3 c hc
        simp only [Bool.and_eq_true, decide_eq_true_eq] at this
        simp [letB, inB]; omega
      rw [h4]
      have h5 : decide (u.size ≤ 400) = true := by simp; omega
      rw [h5]; rfl
    refine ⟨u, rfl, h1, ?_⟩
    rw [noRep_yes hl]
    unfold powR
    rw [if_pos hl, h2]; rfl
theorem least2_some {n : Nat} (hn : n < 8) : (leastF 2 n ⟨#[]⟩).isSome = decide (n < 4) := by
  have h := least2 n hn
  have e : leastL 2 n [] = (leastF 2 n ⟨#[]⟩).map bl := (leastF_map 2 n ⟨#[]⟩).symm
  rw [e, Option.isSome_map] at h
  exact h
theorem tabA {n : Nat} (hn : n < 8) (W : World) : (W.alloc (.cells #[.int .i64 1, .int .i64 3, .int .i64 6, .int .i64 12, .int .i64 18, .int .i64 30, .int .i64 42, .int .i64 60] 3)).cell? ⟨W.heap.size, n, none⟩ = some (.int .i64 (((sqfL 3 n).length : Nat) : Int)) := by
  rw [World.cell?_alloc_new, sq3 n hn]
  match n, hn with
  | 0, _ => rfl
  | 1, _ => rfl
  | 2, _ => rfl
  | 3, _ => rfl
  | 4, _ => rfl
  | 5, _ => rfl
  | 6, _ => rfl
  | 7, _ => rfl
theorem tabB2 {n : Nat} (hn : n < 8) (W : World) : (W.alloc (.cells #[.int .i64 1, .int .i64 2, .int .i64 2, .int .i64 2, .int .i64 0, .int .i64 0, .int .i64 0, .int .i64 0] 3)).cell? ⟨W.heap.size, n, none⟩ = some (.int .i64 (((sqfL 2 n).length : Nat) : Int)) := by
  rw [World.cell?_alloc_new, sq2 n hn]
  match n, hn with
  | 0, _ => rfl
  | 1, _ => rfl
  | 2, _ => rfl
  | 3, _ => rfl
  | 4, _ => rfl
  | 5, _ => rfl
  | 6, _ => rfl
  | 7, _ => rfl
theorem bcell {W w1 : World} (hb : Below W.heap.size W w1) : ∀ b o, b < W.heap.size → w1.cell? ⟨b, o, none⟩ = W.cell? ⟨b, o, none⟩ := fun b o h => hb.cell (p := ⟨b, o, none⟩) h
set_option maxRecDepth 20000 in
set_option maxHeartbeats 8000000 in
theorem walkSmall (a : Option Addr) (l : List UInt8) (cap : Nat) (w : World) (hl : BytesIn w a l) (hlen : l.length ≤ 1048576) :
    Calls Try.prog 3 #[.slice a l.length cap] w fun e w' => e = .returned (.bool true) ∧ Below w.heap.size w w' := by
  have HL := Lib.hid hl
  have hq0 : ¬ (1048576 : Int) < (l.length : Int) := by omega
  have HM : Hid (∀ (k : Nat) (W : World), k ≤ 1000 → Below w.heap.size w W → Calls Try.prog 6 #[.slice a l.length cap, .int .i64 (k : Nat)] W fun e w' => ∃ x : Nat, x < 65536 ∧ e = .returned (.int .i64 ((x : Nat) : Int)) ∧ Below W.heap.size W w') := Lib.hid (fun k W hk hW => makeNum_any a l cap k W (hl.later hW) (by omega) hk)
  have HM0 : Hid (∀ W, Below w.heap.size w W → Calls Try.prog 6 #[.slice a l.length cap, .int .i64 0] W fun e w' => ∃ x : Nat, x < 65536 ∧ e = .returned (.int .i64 ((x : Nat) : Int)) ∧ Below W.heap.size W w') := Lib.hid (fun W hW => HM.out 0 W (by omega) hW)
  have HM2 : Hid (∀ W, Below w.heap.size w W → Calls Try.prog 6 #[.slice a l.length cap, .int .i64 2] W fun e w' => ∃ x : Nat, x < 65536 ∧ e = .returned (.int .i64 ((x : Nat) : Int)) ∧ Below W.heap.size W w') := Lib.hid (fun W hW => HM.out 2 W (by omega) hW)
  have HM4 : Hid (∀ W, Below w.heap.size w W → Calls Try.prog 6 #[.slice a l.length cap, .int .i64 4] W fun e w' => ∃ x : Nat, x < 65536 ∧ e = .returned (.int .i64 ((x : Nat) : Int)) ∧ Below W.heap.size W w') := Lib.hid (fun W hW => HM.out 4 W (by omega) hW)
  clear hl HM
  go_enter Try.func3, Try.ntmps3
  go_wp2_with fail
  refine (HM0.out _ (Below.refl _ _)).mono ?_
  rintro e w1 ⟨x, hx, rfl, hb1⟩
  have B1 := Lib.hid hb1
  clear hb1
  have hxe : (x : Int) % 8 = ((x % 8 : Nat) : Int) := by omega
  have hn : x % 8 < 8 := by omega
  generalize x % 8 = n at *
  go_wp2_with fail
  rw [hxe]
  clear hxe hx
  refine (HM2.out _ B1.out).mono ?_
  rintro e w2 ⟨y, hy, rfl, hb2⟩
  have B2 := Lib.hid (Below.now B1.out hb2)
  clear hb2
  obtain ⟨k, hk⟩ : ∃ k : Nat, k = 1 + y % 3 := ⟨_, rfl⟩
  have hye : 1 + (y : Int) % 3 = (k : Int) := by omega
  have hk1 : 1 ≤ k := by omega
  have hk3 : k < 4 := by omega
  clear hk
  go_wp2_with fail
  clear hye hy
  refine (HM4.out _ B2.out).mono ?_
  rintro e w3 ⟨z, hz, rfl, hb3⟩
  have B3 := Lib.hid (Below.now B2.out hb3)
  clear hb3
  have hze : (z : Int) % 40 = ((z % 40 : Nat) : Int) := by omega
  have hm : z % 40 < 40 := by omega
  generalize z % 40 = m at *
  obtain ⟨u, hu, husz, hur⟩ := least3_word hm
  have HLS : Hid (∀ W, Calls Try.prog 7 #[.int .i64 3, .int .i64 (m : Nat)] W fun e w' => e = .returned (.tuple #[.string u, .bool true]) ∧ Below W.heap.size W w') := Lib.hid (fun W => by
    have h := leastSquareFree_any 3 m W (by omega) (by omega) (by omega)
    unfold RetO at h
    rw [hu] at h
    exact h)
  go_wp2_with fail
  rw [hze]
  clear hze hz
  refine (HLS.out _).mono ?_
  rintro e w4 ⟨rfl, hb4⟩
  have B4 := Lib.hid (Below.now B3.out hb4)
  clear hb4
  have HSF : Hid (∀ W, Calls Try.prog 8 #[.string u] W fun e w' => e = .returned (.bool true) ∧ Below W.heap.size W w') := Lib.hid (fun W => by
    have h := isSquareFree_any u W (by unfold maxLen; omega)
    rw [hur] at h
    exact h)
  have HC3 : Hid (∀ W, Calls Try.prog 9 #[.int .i64 3, .int .i64 (n : Nat)] W fun e w' => e = .returned (.int .i64 (((sqfL 3 n).length : Nat) : Int)) ∧ Below W.heap.size W w') := Lib.hid (fun W => countSquareFree_any 3 n W (by omega) (by omega) (by omega))
  have HC2 : Hid (∀ W, Calls Try.prog 9 #[.int .i64 2, .int .i64 (n : Nat)] W fun e w' => e = .returned (.int .i64 (((sqfL 2 n).length : Nat) : Int)) ∧ Below W.heap.size W w') := Lib.hid (fun W => countSquareFree_any 2 n W (by omega) (by omega) (by omega))
  have tA := fun W => tabA hn W
  have tB := fun W => tabB2 hn W
  have tB1 : ∀ (W : World) (o : Obj), ((W.alloc o).alloc (.cells #[.int .i64 1, .int .i64 2, .int .i64 2, .int .i64 2, .int .i64 0, .int .i64 0, .int .i64 0, .int .i64 0] 3)).cell? ⟨W.heap.size + 1, n, none⟩ = some (.int .i64 (((sqfL 2 n).length : Nat) : Int)) := fun W o => by
    have h := tB (W.alloc o)
    rw [show (W.alloc o).heap.size = W.heap.size + 1 by simp] at h
    exact h
  have HLT : Hid (∀ W, Calls Try.prog 7 #[.int .i64 2, .int .i64 (n : Nat)] W fun e w' => e = .returned (.tuple #[.string ((leastF 2 n ⟨#[]⟩).getD ⟨#[]⟩), .bool (decide (n < 4))]) ∧ Below W.heap.size W w') := Lib.hid (fun W => by
    have h := leastSquareFree_any 2 n W (by omega) (by omega) (by omega)
    unfold RetO at h
    rw [least2_some hn] at h
    exact h)
  have HCK : Hid (∀ W (j : Nat), j < 5 → Calls Try.prog 9 #[.int .i64 (k : Nat), .int .i64 (j : Nat)] W fun e w' => e = .returned (.int .i64 (((sqfL k j).length : Nat) : Int)) ∧ Below W.heap.size W w') := Lib.hid (fun W j hj => countSquareFree_any k j W hk1 (by omega) (by omega))
  have HCA : Hid (∀ W (j : Nat), j < 5 → Calls Try.prog 10 #[.string ⟨#[88, 88]⟩, .int .i64 (k : Nat), .int .i64 (j : Nat)] W fun e w' => e = .returned (.int .i64 (((sqfL k j).length : Nat) : Int)) ∧ Below W.heap.size W w') := Lib.hid (fun W j hj => by
    have h := implCountAvoiding_any ⟨#[88, 88]⟩ ((k : Nat) : Int) ((j : Nat) : Int) W (by simp [ByteArray.size, maxLen])
    rw [caSq k hk3 hk1 j hj] at h
    exact h)
  have hn0 : (0 : Int) ≤ (n : Int) := by omega
  have hn8 : (n : Int) < 8 := by omega
  have HHN := Lib.hid hn
  subst husz
  clear hu hur HLS HM0 HM2 HM4 B1 B2 B3 hm hn
  generalize (sqfL 3 n).length = c3 at *
  generalize (sqfL 2 n).length = c2 at *
  go_upto_region 7 with fail
  go_cut [59] (fun v wx => v = .bool false ∧ Below w4.heap.size w4 wx)
  case first =>
    have r0 : Hid (Below w4.heap.size w4 w4) := Lib.hid (Below.refl _ _)
    refine wp_region_held_drew (S := fun w' => Hid (Below w4.heap.size w4 w')) (by kernel_rfl) ?_ (fun hHeld => ?_)
    · exact Lib.hid (Below.drew (Below.refl _ _))
    refine wpAnyH_take (i := 0) (v := ?_) rfl (by kernel_rfl) (by kernel_rfl) (by kernel_rfl) (fun _ _ _ h => h) (Or.inl ⟨by rfl, ?_⟩) (by assumption) ?_
    rotate_left
    · (intro wz hSw; (try dsimp only at hSw); go_simp <;> (try with_reducible rfl))
    simp only [Act.put, List.getElem_toArray, List.getElem_cons_zero, List.setIfInBounds_toArray, List.set_cons_zero, List.set_cons_succ]
    refine wpAnyH_take (i := 1) (v := ?_) rfl (by kernel_rfl) (by kernel_rfl) (by kernel_rfl) (fun _ _ _ h => h) (Or.inl ⟨by rfl, ?_⟩) (by assumption) ?_
    rotate_left
    · (intro wz hSw; (try dsimp only at hSw); go_simp <;> (try with_reducible rfl))
    simp only [Act.put, List.getElem_toArray, List.getElem_cons_succ, List.getElem_cons_zero, List.setIfInBounds_toArray, List.set_cons_zero, List.set_cons_succ]
    refine wpAnyH_take (i := 2) (v := ?_) rfl (by kernel_rfl) (by kernel_rfl) (by kernel_rfl) (fun _ _ _ h => h) (Or.inl ⟨by rfl, ?_⟩) (by assumption) ?_
    rotate_left
    · (intro wz hSw; (try dsimp only at hSw); go_simp <;> (try with_reducible rfl))
    simp only [Act.put, List.getElem_toArray, List.getElem_cons_succ, List.getElem_cons_zero, List.setIfInBounds_toArray, List.set_cons_zero, List.set_cons_succ]
    refine wpAnyH_take (i := 3) (v := ?_) rfl (by kernel_rfl) (by kernel_rfl) (by kernel_rfl) (fun _ _ _ h => h) (Or.inl ⟨by rfl, ?_⟩) (by assumption) ?_
    rotate_left
    · (intro wz hSw; (try dsimp only at hSw); go_simp <;> (try with_reducible rfl))
    simp only [Act.put, List.getElem_toArray, List.getElem_cons_succ, List.getElem_cons_zero, List.setIfInBounds_toArray, List.set_cons_zero, List.set_cons_succ]
    refine wpAnyH_take (i := 4) (v := ?_) rfl (by kernel_rfl) (by kernel_rfl) (by kernel_rfl) (fun _ _ _ h => h) (Or.inl ⟨by rfl, ?_⟩) (by assumption) ?_
    rotate_left
    · (intro wz hSw; (try dsimp only at hSw); go_simp <;> (try with_reducible rfl))
    simp only [Act.put, List.getElem_toArray, List.getElem_cons_succ, List.getElem_cons_zero, List.setIfInBounds_toArray, List.set_cons_zero, List.set_cons_succ]
    refine wpAnyH_take (i := 5) (v := ?_) rfl (by kernel_rfl) (by kernel_rfl) (by kernel_rfl) (fun _ _ _ h => h) (Or.inl ⟨by rfl, ?_⟩) (by assumption) ?_
    rotate_left
    · (intro wz hSw; (try dsimp only at hSw); go_simp <;> (try with_reducible rfl))
    simp only [Act.put, List.getElem_toArray, List.getElem_cons_succ, List.getElem_cons_zero, List.setIfInBounds_toArray, List.set_cons_zero, List.set_cons_succ]
    refine wpAnyH_take (i := 6) (v := ?_) rfl (by kernel_rfl) (by kernel_rfl) (by kernel_rfl) (fun _ _ _ h => h) (Or.inl ⟨by rfl, ?_⟩) (by assumption) ?_
    rotate_left
    · (intro wz hSw; (try dsimp only at hSw); go_simp <;> (try with_reducible rfl))
    simp only [Act.put, List.getElem_toArray, List.getElem_cons_succ, List.getElem_cons_zero, List.setIfInBounds_toArray, List.set_cons_zero, List.set_cons_succ]
    refine wpAnyH_take (i := 7) (v := ?_) rfl (by kernel_rfl) (by kernel_rfl) (by kernel_rfl) (fun _ _ _ h => h) (Or.inl ⟨by rfl, ?_⟩) (by assumption) ?_
    rotate_left
    · (intro wz hSw; (try dsimp only at hSw); go_simp <;> (try with_reducible rfl))
    simp only [Act.put, List.getElem_toArray, List.getElem_cons_succ, List.getElem_cons_zero, List.setIfInBounds_toArray, List.set_cons_zero, List.set_cons_succ]
    refine wpAnyH_take (i := 8) (v := ?_) rfl (by kernel_rfl) (by kernel_rfl) (by kernel_rfl) (fun _ _ _ h => h) (Or.inl ⟨by rfl, ?_⟩) (by assumption) ?_
    rotate_left
    · (intro wz hSw; (try dsimp only at hSw); go_simp <;> (try with_reducible rfl))
    simp only [Act.put, List.getElem_toArray, List.getElem_cons_succ, List.getElem_cons_zero, List.setIfInBounds_toArray, List.set_cons_zero, List.set_cons_succ]
    refine wpAnyH_take (i := 9) (v := ?_) rfl (by kernel_rfl) (by kernel_rfl) (by kernel_rfl) (fun _ _ _ h => h) (Or.inl ⟨by rfl, ?_⟩) (by assumption) ?_
    rotate_left
    · (intro wz hSw; (try dsimp only at hSw); go_simp <;> (try with_reducible rfl))
    simp only [Act.put, List.getElem_toArray, List.getElem_cons_succ, List.getElem_cons_zero, List.setIfInBounds_toArray, List.set_cons_zero, List.set_cons_succ]
    refine wpAnyH_ready (rs := [10]) (by kernel_rfl) (by simp) ?_
    refine AllReadyH.cons rfl (fun K hK => ?_) ?_
    · go_simp
      (with_reducible refine (HSF.out _).mono ?_)
      rintro e w5 ⟨rfl, hb5⟩
      have kr5 : Below w4.heap.size w4 w5 := Below.now (by repeat (first | exact (Below.refl w4.heap.size w4) | refine Below.drew ?_ | refine below_drewN ?_ _ | (refine Below.alloc ?_ (by first | (have := ((Below.refl w4.heap.size w4)).size; simp; omega) | simp) _))) hb5
      clear hb5
      go_wp2_with fail
      refine hK.out _ _ ?_ (fun hHeld => ?_)
      · exact Lib.hid (kr5)
      clear hK K
      refine wpAnyH_take (i := 11) (v := ?_) rfl (by kernel_rfl) (by kernel_rfl) (by kernel_rfl) (fun _ _ _ h => h) (Or.inl ⟨by rfl, ?_⟩) (by assumption) ?_
      rotate_left
      · (intro wz hSw; (try dsimp only at hSw); go_simp <;> (try with_reducible rfl))
      simp only [Act.put, List.getElem_toArray, List.getElem_cons_succ, List.getElem_cons_zero, List.setIfInBounds_toArray, List.set_cons_zero, List.set_cons_succ]
      refine wpAnyH_take (i := 12) (v := ?_) rfl (by kernel_rfl) (by kernel_rfl) (by kernel_rfl) (fun _ _ _ h => h) (Or.inl ⟨by rfl, ?_⟩) (by assumption) ?_
      rotate_left
      · (intro wz hSw; (try dsimp only at hSw); go_simp <;> (try with_reducible rfl))
      simp only [Act.put, List.getElem_toArray, List.getElem_cons_succ, List.getElem_cons_zero, List.setIfInBounds_toArray, List.set_cons_zero, List.set_cons_succ]
      refine wpAnyH_take (i := 13) (v := ?_) rfl (by kernel_rfl) (by kernel_rfl) (by kernel_rfl) (fun _ _ _ h => h) (Or.inl ⟨by rfl, ?_⟩) (by assumption) ?_
      rotate_left
      · (intro wz hSw; (try dsimp only at hSw); go_simp <;> (try with_reducible rfl))
      simp only [Act.put, List.getElem_toArray, List.getElem_cons_succ, List.getElem_cons_zero, List.setIfInBounds_toArray, List.set_cons_zero, List.set_cons_succ]
      refine wpAnyH_take (i := 14) (v := ?_) rfl (by kernel_rfl) (by kernel_rfl) (by kernel_rfl) (fun _ _ _ h => h) (Or.inl ⟨by rfl, ?_⟩) (by assumption) ?_
      rotate_left
      · (intro wz hSw; (try dsimp only at hSw); go_simp <;> (try with_reducible rfl))
      simp only [Act.put, List.getElem_toArray, List.getElem_cons_succ, List.getElem_cons_zero, List.setIfInBounds_toArray, List.set_cons_zero, List.set_cons_succ]
      refine wpAnyH_take (i := 17) (v := ?_) rfl (by kernel_rfl) (by kernel_rfl) (by kernel_rfl) (fun _ _ _ h => h) (Or.inl ⟨by rfl, ?_⟩) (by assumption) ?_
      rotate_left
      · (intro wz hSw; (try dsimp only at hSw); go_simp <;> (try with_reducible rfl))
      simp only [Act.put, List.getElem_toArray, List.getElem_cons_succ, List.getElem_cons_zero, List.setIfInBounds_toArray, List.set_cons_zero, List.set_cons_succ]
      refine wpAnyH_ready (rs := [15, 16]) (by kernel_rfl) (by simp) ?_
      refine AllReadyH.cons rfl (fun K hK => ?_) ?_
      · go_simp
        (with_reducible refine (HC3.out _).mono ?_)
        rintro e w6 ⟨rfl, hb6⟩
        have kr6 : Below w4.heap.size w4 w6 := Below.now (by repeat (first | exact kr5 | refine Below.drew ?_ | refine below_drewN ?_ _ | (refine Below.alloc ?_ (by first | (have := (kr5).size; simp; omega) | simp) _))) hb6
        have hc6 := bcell hb6
        clear hb6
        go_wp2_with fail
        refine hK.out _ _ ?_ (fun hHeld => ?_)
        · exact Lib.hid (kr6)
        clear hK K
        refine wpAnyH_ready (rs := [16]) (by kernel_rfl) (by simp) ?_
        refine AllReadyH.cons rfl (fun K hK => ?_) ?_
        · go_simp
          refine hK.out _ _ ?_ (fun hHeld => ?_)
          · exact Lib.hid (by repeat (first | exact kr6 | exact kr5 | exact (Below.refl w4.heap.size w4) | refine Below.drew ?_ | refine below_drewN ?_ _ | (refine Below.alloc ?_ (by first | (have := (kr6).size; simp; omega) | (have := (kr5).size; simp; omega) | (have := ((Below.refl w4.heap.size w4)).size; simp; omega) | simp) _)))
          clear hK K
          refine wpAnyH_take (i := 18) (v := ?_) rfl (by kernel_rfl) (by kernel_rfl) (by kernel_rfl) (fun _ _ _ h => h) (Or.inl ⟨by rfl, ?_⟩) (by assumption) ?_
          rotate_left
          · (intro wz hSw; (try dsimp only at hSw); go_simp <;> (try with_reducible rfl))
          simp only [Act.put, List.getElem_toArray, List.getElem_cons_succ, List.getElem_cons_zero, List.setIfInBounds_toArray, List.set_cons_zero, List.set_cons_succ]
          refine wpAnyH_ready (rs := [19]) (by kernel_rfl) (by simp) ?_
          refine AllReadyH.cons rfl (fun K hK => ?_) ?_
          · go_simp
            refine hK.out _ _ ?_ (fun hHeld => ?_)
            · exact Lib.hid (by repeat (first | exact kr6 | exact kr5 | exact (Below.refl w4.heap.size w4) | refine Below.drew ?_ | refine below_drewN ?_ _ | (refine Below.alloc ?_ (by first | (have := (kr6).size; simp; omega) | (have := (kr5).size; simp; omega) | (have := ((Below.refl w4.heap.size w4)).size; simp; omega) | simp) _)))
            clear hK K
            refine wpAnyH_take (i := 20) (v := ?_) rfl (by kernel_rfl) (by kernel_rfl) (by kernel_rfl) (fun _ _ _ h => h) (Or.inl ⟨by rfl, ?_⟩) (by assumption) ?_
            rotate_left
            · (intro wz hSw; (try dsimp only at hSw); go_simp <;> (try with_reducible rfl))
            simp only [Act.put, List.getElem_toArray, List.getElem_cons_succ, List.getElem_cons_zero, List.setIfInBounds_toArray, List.set_cons_zero, List.set_cons_succ]
            refine wpAnyH_take (i := 21) (v := ?_) rfl (by kernel_rfl) (by kernel_rfl) (by kernel_rfl) (fun _ _ _ h => h) (Or.inl ⟨by rfl, ?_⟩) (by assumption) ?_
            rotate_left
            · (intro wz hSw; (try dsimp only at hSw); go_simp <;> (try with_reducible rfl))
            simp only [Act.put, List.getElem_toArray, List.getElem_cons_succ, List.getElem_cons_zero, List.setIfInBounds_toArray, List.set_cons_zero, List.set_cons_succ]
            refine wpAnyH_take (i := 22) (v := ?_) rfl (by kernel_rfl) (by kernel_rfl) (by kernel_rfl) (fun _ _ _ h => h) (Or.inl ⟨by rfl, ?_⟩) (by assumption) ?_
            rotate_left
            · (intro wz hSw; (try dsimp only at hSw); go_simp <;> (try with_reducible rfl))
            simp only [Act.put, List.getElem_toArray, List.getElem_cons_succ, List.getElem_cons_zero, List.setIfInBounds_toArray, List.set_cons_zero, List.set_cons_succ]
            refine wpAnyH_take (i := 23) (v := ?_) rfl (by kernel_rfl) (by kernel_rfl) (by kernel_rfl) (fun _ _ _ h => h) (Or.inl ⟨by rfl, ?_⟩) (by assumption) ?_
            rotate_left
            · (intro wz hSw; (try dsimp only at hSw); go_simp <;> (try with_reducible rfl))
            simp only [Act.put, List.getElem_toArray, List.getElem_cons_succ, List.getElem_cons_zero, List.setIfInBounds_toArray, List.set_cons_zero, List.set_cons_succ]
            refine wpAnyH_take (i := 26) (v := ?_) rfl (by kernel_rfl) (by kernel_rfl) (by kernel_rfl) (fun _ _ _ h => h) (Or.inl ⟨by rfl, ?_⟩) (by assumption) ?_
            rotate_left
            · (intro wz hSw; (try dsimp only at hSw); go_simp <;> (try with_reducible rfl))
            simp only [Act.put, List.getElem_toArray, List.getElem_cons_succ, List.getElem_cons_zero, List.setIfInBounds_toArray, List.set_cons_zero, List.set_cons_succ]
            refine wpAnyH_ready (rs := [24, 25]) (by kernel_rfl) (by simp) ?_
            refine AllReadyH.cons rfl (fun K hK => ?_) ?_
            · go_simp
              (with_reducible refine (HC2.out _).mono ?_)
              rintro e w7 ⟨rfl, hb7⟩
              have kr7 : Below w4.heap.size w4 w7 := Below.now (by repeat (first | exact kr6 | refine Below.drew ?_ | refine below_drewN ?_ _ | (refine Below.alloc ?_ (by first | (have := (kr6).size; simp; omega) | simp) _))) hb7
              have hc7 := bcell hb7
              clear hb7
              go_wp2_with fail
              refine hK.out _ _ ?_ (fun hHeld => ?_)
              · exact Lib.hid (kr7)
              clear hK K
              refine wpAnyH_ready (rs := [25]) (by kernel_rfl) (by simp) ?_
              refine AllReadyH.cons rfl (fun K hK => ?_) ?_
              · go_simp
                refine hK.out _ _ ?_ (fun hHeld => ?_)
                · exact Lib.hid (by repeat (first | exact kr7 | exact kr6 | exact kr5 | exact (Below.refl w4.heap.size w4) | refine Below.drew ?_ | refine below_drewN ?_ _ | (refine Below.alloc ?_ (by first | (have := (kr7).size; simp; omega) | (have := (kr6).size; simp; omega) | (have := (kr5).size; simp; omega) | (have := ((Below.refl w4.heap.size w4)).size; simp; omega) | simp) _)))
                clear hK K
                refine wpAnyH_take (i := 27) (v := ?_) rfl (by kernel_rfl) (by kernel_rfl) (by kernel_rfl) (fun _ _ _ h => h) (Or.inl ⟨by rfl, ?_⟩) (by assumption) ?_
                rotate_left
                · (intro wz hSw; (try dsimp only at hSw); go_simp <;> (try with_reducible rfl))
                simp only [Act.put, List.getElem_toArray, List.getElem_cons_succ, List.getElem_cons_zero, List.setIfInBounds_toArray, List.set_cons_zero, List.set_cons_succ]
                refine wpAnyH_ready (rs := [28]) (by kernel_rfl) (by simp) ?_
                refine AllReadyH.cons rfl (fun K hK => ?_) ?_
                · go_simp
                  refine hK.out _ _ ?_ (fun hHeld => ?_)
                  · exact Lib.hid (by repeat (first | exact kr7 | exact kr6 | exact kr5 | exact (Below.refl w4.heap.size w4) | refine Below.drew ?_ | refine below_drewN ?_ _ | (refine Below.alloc ?_ (by first | (have := (kr7).size; simp; omega) | (have := (kr6).size; simp; omega) | (have := (kr5).size; simp; omega) | (have := ((Below.refl w4.heap.size w4)).size; simp; omega) | simp) _)))
                  clear hK K
                  refine wpAnyH_take (i := 29) (v := ?_) rfl (by kernel_rfl) (by kernel_rfl) (by kernel_rfl) (fun _ _ _ h => h) (Or.inl ⟨by rfl, ?_⟩) (by assumption) ?_
                  rotate_left
                  · (intro wz hSw; (try dsimp only at hSw); go_simp <;> (try with_reducible rfl))
                  simp only [Act.put, List.getElem_toArray, List.getElem_cons_succ, List.getElem_cons_zero, List.setIfInBounds_toArray, List.set_cons_zero, List.set_cons_succ]
                  refine wpAnyH_take (i := 30) (v := ?_) rfl (by kernel_rfl) (by kernel_rfl) (by kernel_rfl) (fun _ _ _ h => h) (Or.inl ⟨by rfl, ?_⟩) (by assumption) ?_
                  rotate_left
                  · (intro wz hSw; (try dsimp only at hSw); go_simp <;> (try with_reducible rfl))
                  simp only [Act.put, List.getElem_toArray, List.getElem_cons_succ, List.getElem_cons_zero, List.setIfInBounds_toArray, List.set_cons_zero, List.set_cons_succ]
                  refine wpAnyH_done (by kernel_rfl) ?_ _
                  go_wp2_with fail
                  go_meet
                  exact ⟨rfl, by repeat (first | exact kr7 | refine Below.drew ?_ | refine below_drewN ?_ _ | (refine Below.alloc ?_ (by first | (have := (kr7).size; simp; omega) | simp) _))⟩
                exact AllReadyH.nil
              exact AllReadyH.nil
            refine AllReadyH.cons rfl (fun K hK => ?_) ?_
            · go_simp
              refine hK.out _ _ ?_ (fun hHeld => ?_)
              · exact Lib.hid (by repeat (first | exact kr6 | exact kr5 | exact (Below.refl w4.heap.size w4) | refine Below.drew ?_ | refine below_drewN ?_ _ | (refine Below.alloc ?_ (by first | (have := (kr6).size; simp; omega) | (have := (kr5).size; simp; omega) | (have := ((Below.refl w4.heap.size w4)).size; simp; omega) | simp) _)))
              clear hK K
              refine wpAnyH_take (i := 27) (v := ?_) rfl (by kernel_rfl) (by kernel_rfl) (by kernel_rfl) (fun _ _ _ h => h) (Or.inl ⟨by rfl, ?_⟩) (by assumption) ?_
              rotate_left
              · (intro wz hSw; (try dsimp only at hSw); go_simp <;> (try with_reducible rfl))
              simp only [Act.put, List.getElem_toArray, List.getElem_cons_succ, List.getElem_cons_zero, List.setIfInBounds_toArray, List.set_cons_zero, List.set_cons_succ]
              refine wpAnyH_ready (rs := [24, 28]) (by kernel_rfl) (by simp) ?_
              refine AllReadyH.cons rfl (fun K hK => ?_) ?_
              · go_simp
                (with_reducible refine (HC2.out _).mono ?_)
                rintro e w7 ⟨rfl, hb7⟩
                have kr7 : Below w4.heap.size w4 w7 := Below.now (by repeat (first | exact kr6 | refine Below.drew ?_ | refine below_drewN ?_ _ | (refine Below.alloc ?_ (by first | (have := (kr6).size; simp; omega) | simp) _))) hb7
                have hc7 := bcell hb7
                clear hb7
                go_wp2_with fail
                refine hK.out _ _ ?_ (fun hHeld => ?_)
                · exact Lib.hid (kr7)
                clear hK K
                refine wpAnyH_ready (rs := [28]) (by kernel_rfl) (by simp) ?_
                refine AllReadyH.cons rfl (fun K hK => ?_) ?_
                · go_simp
                  refine hK.out _ _ ?_ (fun hHeld => ?_)
                  · exact Lib.hid (by repeat (first | exact kr7 | exact kr6 | exact kr5 | exact (Below.refl w4.heap.size w4) | refine Below.drew ?_ | refine below_drewN ?_ _ | (refine Below.alloc ?_ (by first | (have := (kr7).size; simp; omega) | (have := (kr6).size; simp; omega) | (have := (kr5).size; simp; omega) | (have := ((Below.refl w4.heap.size w4)).size; simp; omega) | simp) _)))
                  clear hK K
                  refine wpAnyH_take (i := 29) (v := ?_) rfl (by kernel_rfl) (by kernel_rfl) (by kernel_rfl) (fun _ _ _ h => h) (Or.inl ⟨by rfl, ?_⟩) (by assumption) ?_
                  rotate_left
                  · (intro wz hSw; (try dsimp only at hSw); go_simp <;> (try with_reducible rfl))
                  simp only [Act.put, List.getElem_toArray, List.getElem_cons_succ, List.getElem_cons_zero, List.setIfInBounds_toArray, List.set_cons_zero, List.set_cons_succ]
                  refine wpAnyH_take (i := 30) (v := ?_) rfl (by kernel_rfl) (by kernel_rfl) (by kernel_rfl) (fun _ _ _ h => h) (Or.inl ⟨by rfl, ?_⟩) (by assumption) ?_
                  rotate_left
                  · (intro wz hSw; (try dsimp only at hSw); go_simp <;> (try with_reducible rfl))
                  simp only [Act.put, List.getElem_toArray, List.getElem_cons_succ, List.getElem_cons_zero, List.setIfInBounds_toArray, List.set_cons_zero, List.set_cons_succ]
                  refine wpAnyH_done (by kernel_rfl) ?_ _
                  go_wp2_with fail
                  go_meet
                  exact ⟨rfl, by repeat (first | exact kr7 | refine Below.drew ?_ | refine below_drewN ?_ _ | (refine Below.alloc ?_ (by first | (have := (kr7).size; simp; omega) | simp) _))⟩
                exact AllReadyH.nil
              refine AllReadyH.cons rfl (fun K hK => ?_) ?_
              · go_simp
                refine hK.out _ _ ?_ (fun hHeld => ?_)
                · exact Lib.hid (by repeat (first | exact kr6 | exact kr5 | exact (Below.refl w4.heap.size w4) | refine Below.drew ?_ | refine below_drewN ?_ _ | (refine Below.alloc ?_ (by first | (have := (kr6).size; simp; omega) | (have := (kr5).size; simp; omega) | (have := ((Below.refl w4.heap.size w4)).size; simp; omega) | simp) _)))
                clear hK K
                refine wpAnyH_ready (rs := [24]) (by kernel_rfl) (by simp) ?_
                refine AllReadyH.cons rfl (fun K hK => ?_) ?_
                · go_simp
                  (with_reducible refine (HC2.out _).mono ?_)
                  rintro e w7 ⟨rfl, hb7⟩
                  have kr7 : Below w4.heap.size w4 w7 := Below.now (by repeat (first | exact kr6 | refine Below.drew ?_ | refine below_drewN ?_ _ | (refine Below.alloc ?_ (by first | (have := (kr6).size; simp; omega) | simp) _))) hb7
                  have hc7 := bcell hb7
                  clear hb7
                  go_wp2_with fail
                  refine hK.out _ _ ?_ (fun hHeld => ?_)
                  · exact Lib.hid (kr7)
                  clear hK K
                  refine wpAnyH_take (i := 29) (v := ?_) rfl (by kernel_rfl) (by kernel_rfl) (by kernel_rfl) (fun _ _ _ h => h) (Or.inl ⟨by rfl, ?_⟩) (by assumption) ?_
                  rotate_left
                  · (intro wz hSw; (try dsimp only at hSw); go_simp <;> (try with_reducible rfl))
                  simp only [Act.put, List.getElem_toArray, List.getElem_cons_succ, List.getElem_cons_zero, List.setIfInBounds_toArray, List.set_cons_zero, List.set_cons_succ]
                  refine wpAnyH_take (i := 30) (v := ?_) rfl (by kernel_rfl) (by kernel_rfl) (by kernel_rfl) (fun _ _ _ h => h) (Or.inl ⟨by rfl, ?_⟩) (by assumption) ?_
                  rotate_left
                  · (intro wz hSw; (try dsimp only at hSw); go_simp <;> (try with_reducible rfl))
                  simp only [Act.put, List.getElem_toArray, List.getElem_cons_succ, List.getElem_cons_zero, List.setIfInBounds_toArray, List.set_cons_zero, List.set_cons_succ]
                  refine wpAnyH_done (by kernel_rfl) ?_ _
                  go_wp2_with fail
                  go_meet
                  exact ⟨rfl, by repeat (first | exact kr7 | refine Below.drew ?_ | refine below_drewN ?_ _ | (refine Below.alloc ?_ (by first | (have := (kr7).size; simp; omega) | simp) _))⟩
                exact AllReadyH.nil
              exact AllReadyH.nil
            exact AllReadyH.nil
          exact AllReadyH.nil
        exact AllReadyH.nil
      refine AllReadyH.cons rfl (fun K hK => ?_) ?_
      · go_simp
        refine hK.out _ _ ?_ (fun hHeld => ?_)
        · exact Lib.hid (by repeat (first | exact kr5 | exact (Below.refl w4.heap.size w4) | refine Below.drew ?_ | refine below_drewN ?_ _ | (refine Below.alloc ?_ (by first | (have := (kr5).size; simp; omega) | (have := ((Below.refl w4.heap.size w4)).size; simp; omega) | simp) _)))
        clear hK K
        refine wpAnyH_take (i := 18) (v := ?_) rfl (by kernel_rfl) (by kernel_rfl) (by kernel_rfl) (fun _ _ _ h => h) (Or.inl ⟨by rfl, ?_⟩) (by assumption) ?_
        rotate_left
        · (intro wz hSw; (try dsimp only at hSw); go_simp <;> (try with_reducible rfl))
        simp only [Act.put, List.getElem_toArray, List.getElem_cons_succ, List.getElem_cons_zero, List.setIfInBounds_toArray, List.set_cons_zero, List.set_cons_succ]
        refine wpAnyH_ready (rs := [15, 19]) (by kernel_rfl) (by simp) ?_
        refine AllReadyH.cons rfl (fun K hK => ?_) ?_
        · go_simp
          (with_reducible refine (HC3.out _).mono ?_)
          rintro e w6 ⟨rfl, hb6⟩
          have kr6 : Below w4.heap.size w4 w6 := Below.now (by repeat (first | exact kr5 | refine Below.drew ?_ | refine below_drewN ?_ _ | (refine Below.alloc ?_ (by first | (have := (kr5).size; simp; omega) | simp) _))) hb6
          have hc6 := bcell hb6
          clear hb6
          go_wp2_with fail
          refine hK.out _ _ ?_ (fun hHeld => ?_)
          · exact Lib.hid (kr6)
          clear hK K
          refine wpAnyH_ready (rs := [19]) (by kernel_rfl) (by simp) ?_
          refine AllReadyH.cons rfl (fun K hK => ?_) ?_
          · go_simp
            refine hK.out _ _ ?_ (fun hHeld => ?_)
            · exact Lib.hid (by repeat (first | exact kr6 | exact kr5 | exact (Below.refl w4.heap.size w4) | refine Below.drew ?_ | refine below_drewN ?_ _ | (refine Below.alloc ?_ (by first | (have := (kr6).size; simp; omega) | (have := (kr5).size; simp; omega) | (have := ((Below.refl w4.heap.size w4)).size; simp; omega) | simp) _)))
            clear hK K
            refine wpAnyH_take (i := 20) (v := ?_) rfl (by kernel_rfl) (by kernel_rfl) (by kernel_rfl) (fun _ _ _ h => h) (Or.inl ⟨by rfl, ?_⟩) (by assumption) ?_
            rotate_left
            · (intro wz hSw; (try dsimp only at hSw); go_simp <;> (try with_reducible rfl))
            simp only [Act.put, List.getElem_toArray, List.getElem_cons_succ, List.getElem_cons_zero, List.setIfInBounds_toArray, List.set_cons_zero, List.set_cons_succ]
            refine wpAnyH_take (i := 21) (v := ?_) rfl (by kernel_rfl) (by kernel_rfl) (by kernel_rfl) (fun _ _ _ h => h) (Or.inl ⟨by rfl, ?_⟩) (by assumption) ?_
            rotate_left
            · (intro wz hSw; (try dsimp only at hSw); go_simp <;> (try with_reducible rfl))
            simp only [Act.put, List.getElem_toArray, List.getElem_cons_succ, List.getElem_cons_zero, List.setIfInBounds_toArray, List.set_cons_zero, List.set_cons_succ]
            refine wpAnyH_take (i := 22) (v := ?_) rfl (by kernel_rfl) (by kernel_rfl) (by kernel_rfl) (fun _ _ _ h => h) (Or.inl ⟨by rfl, ?_⟩) (by assumption) ?_
            rotate_left
            · (intro wz hSw; (try dsimp only at hSw); go_simp <;> (try with_reducible rfl))
            simp only [Act.put, List.getElem_toArray, List.getElem_cons_succ, List.getElem_cons_zero, List.setIfInBounds_toArray, List.set_cons_zero, List.set_cons_succ]
            refine wpAnyH_take (i := 23) (v := ?_) rfl (by kernel_rfl) (by kernel_rfl) (by kernel_rfl) (fun _ _ _ h => h) (Or.inl ⟨by rfl, ?_⟩) (by assumption) ?_
            rotate_left
            · (intro wz hSw; (try dsimp only at hSw); go_simp <;> (try with_reducible rfl))
            simp only [Act.put, List.getElem_toArray, List.getElem_cons_succ, List.getElem_cons_zero, List.setIfInBounds_toArray, List.set_cons_zero, List.set_cons_succ]
            refine wpAnyH_take (i := 26) (v := ?_) rfl (by kernel_rfl) (by kernel_rfl) (by kernel_rfl) (fun _ _ _ h => h) (Or.inl ⟨by rfl, ?_⟩) (by assumption) ?_
            rotate_left
            · (intro wz hSw; (try dsimp only at hSw); go_simp <;> (try with_reducible rfl))
            simp only [Act.put, List.getElem_toArray, List.getElem_cons_succ, List.getElem_cons_zero, List.setIfInBounds_toArray, List.set_cons_zero, List.set_cons_succ]
            refine wpAnyH_ready (rs := [24, 25]) (by kernel_rfl) (by simp) ?_
            refine AllReadyH.cons rfl (fun K hK => ?_) ?_
            · go_simp
              (with_reducible refine (HC2.out _).mono ?_)
              rintro e w7 ⟨rfl, hb7⟩
              have kr7 : Below w4.heap.size w4 w7 := Below.now (by repeat (first | exact kr6 | refine Below.drew ?_ | refine below_drewN ?_ _ | (refine Below.alloc ?_ (by first | (have := (kr6).size; simp; omega) | simp) _))) hb7
              have hc7 := bcell hb7
              clear hb7
              go_wp2_with fail
              refine hK.out _ _ ?_ (fun hHeld => ?_)
              · exact Lib.hid (kr7)
              clear hK K
              refine wpAnyH_ready (rs := [25]) (by kernel_rfl) (by simp) ?_
              refine AllReadyH.cons rfl (fun K hK => ?_) ?_
              · go_simp
                refine hK.out _ _ ?_ (fun hHeld => ?_)
                · exact Lib.hid (by repeat (first | exact kr7 | exact kr6 | exact kr5 | exact (Below.refl w4.heap.size w4) | refine Below.drew ?_ | refine below_drewN ?_ _ | (refine Below.alloc ?_ (by first | (have := (kr7).size; simp; omega) | (have := (kr6).size; simp; omega) | (have := (kr5).size; simp; omega) | (have := ((Below.refl w4.heap.size w4)).size; simp; omega) | simp) _)))
                clear hK K
                refine wpAnyH_take (i := 27) (v := ?_) rfl (by kernel_rfl) (by kernel_rfl) (by kernel_rfl) (fun _ _ _ h => h) (Or.inl ⟨by rfl, ?_⟩) (by assumption) ?_
                rotate_left
                · (intro wz hSw; (try dsimp only at hSw); go_simp <;> (try with_reducible rfl))
                simp only [Act.put, List.getElem_toArray, List.getElem_cons_succ, List.getElem_cons_zero, List.setIfInBounds_toArray, List.set_cons_zero, List.set_cons_succ]
                refine wpAnyH_ready (rs := [28]) (by kernel_rfl) (by simp) ?_
                refine AllReadyH.cons rfl (fun K hK => ?_) ?_
                · go_simp
                  refine hK.out _ _ ?_ (fun hHeld => ?_)
                  · exact Lib.hid (by repeat (first | exact kr7 | exact kr6 | exact kr5 | exact (Below.refl w4.heap.size w4) | refine Below.drew ?_ | refine below_drewN ?_ _ | (refine Below.alloc ?_ (by first | (have := (kr7).size; simp; omega) | (have := (kr6).size; simp; omega) | (have := (kr5).size; simp; omega) | (have := ((Below.refl w4.heap.size w4)).size; simp; omega) | simp) _)))
                  clear hK K
                  refine wpAnyH_take (i := 29) (v := ?_) rfl (by kernel_rfl) (by kernel_rfl) (by kernel_rfl) (fun _ _ _ h => h) (Or.inl ⟨by rfl, ?_⟩) (by assumption) ?_
                  rotate_left
                  · (intro wz hSw; (try dsimp only at hSw); go_simp <;> (try with_reducible rfl))
                  simp only [Act.put, List.getElem_toArray, List.getElem_cons_succ, List.getElem_cons_zero, List.setIfInBounds_toArray, List.set_cons_zero, List.set_cons_succ]
                  refine wpAnyH_take (i := 30) (v := ?_) rfl (by kernel_rfl) (by kernel_rfl) (by kernel_rfl) (fun _ _ _ h => h) (Or.inl ⟨by rfl, ?_⟩) (by assumption) ?_
                  rotate_left
                  · (intro wz hSw; (try dsimp only at hSw); go_simp <;> (try with_reducible rfl))
                  simp only [Act.put, List.getElem_toArray, List.getElem_cons_succ, List.getElem_cons_zero, List.setIfInBounds_toArray, List.set_cons_zero, List.set_cons_succ]
                  refine wpAnyH_done (by kernel_rfl) ?_ _
                  go_wp2_with fail
                  go_meet
                  exact ⟨rfl, by repeat (first | exact kr7 | refine Below.drew ?_ | refine below_drewN ?_ _ | (refine Below.alloc ?_ (by first | (have := (kr7).size; simp; omega) | simp) _))⟩
                exact AllReadyH.nil
              exact AllReadyH.nil
            refine AllReadyH.cons rfl (fun K hK => ?_) ?_
            · go_simp
              refine hK.out _ _ ?_ (fun hHeld => ?_)
              · exact Lib.hid (by repeat (first | exact kr6 | exact kr5 | exact (Below.refl w4.heap.size w4) | refine Below.drew ?_ | refine below_drewN ?_ _ | (refine Below.alloc ?_ (by first | (have := (kr6).size; simp; omega) | (have := (kr5).size; simp; omega) | (have := ((Below.refl w4.heap.size w4)).size; simp; omega) | simp) _)))
              clear hK K
              refine wpAnyH_take (i := 27) (v := ?_) rfl (by kernel_rfl) (by kernel_rfl) (by kernel_rfl) (fun _ _ _ h => h) (Or.inl ⟨by rfl, ?_⟩) (by assumption) ?_
              rotate_left
              · (intro wz hSw; (try dsimp only at hSw); go_simp <;> (try with_reducible rfl))
              simp only [Act.put, List.getElem_toArray, List.getElem_cons_succ, List.getElem_cons_zero, List.setIfInBounds_toArray, List.set_cons_zero, List.set_cons_succ]
              refine wpAnyH_ready (rs := [24, 28]) (by kernel_rfl) (by simp) ?_
              refine AllReadyH.cons rfl (fun K hK => ?_) ?_
              · go_simp
                (with_reducible refine (HC2.out _).mono ?_)
                rintro e w7 ⟨rfl, hb7⟩
                have kr7 : Below w4.heap.size w4 w7 := Below.now (by repeat (first | exact kr6 | refine Below.drew ?_ | refine below_drewN ?_ _ | (refine Below.alloc ?_ (by first | (have := (kr6).size; simp; omega) | simp) _))) hb7
                have hc7 := bcell hb7
                clear hb7
                go_wp2_with fail
                refine hK.out _ _ ?_ (fun hHeld => ?_)
                · exact Lib.hid (kr7)
                clear hK K
                refine wpAnyH_ready (rs := [28]) (by kernel_rfl) (by simp) ?_
                refine AllReadyH.cons rfl (fun K hK => ?_) ?_
                · go_simp
                  refine hK.out _ _ ?_ (fun hHeld => ?_)
                  · exact Lib.hid (by repeat (first | exact kr7 | exact kr6 | exact kr5 | exact (Below.refl w4.heap.size w4) | refine Below.drew ?_ | refine below_drewN ?_ _ | (refine Below.alloc ?_ (by first | (have := (kr7).size; simp; omega) | (have := (kr6).size; simp; omega) | (have := (kr5).size; simp; omega) | (have := ((Below.refl w4.heap.size w4)).size; simp; omega) | simp) _)))
                  clear hK K
                  refine wpAnyH_take (i := 29) (v := ?_) rfl (by kernel_rfl) (by kernel_rfl) (by kernel_rfl) (fun _ _ _ h => h) (Or.inl ⟨by rfl, ?_⟩) (by assumption) ?_
                  rotate_left
                  · (intro wz hSw; (try dsimp only at hSw); go_simp <;> (try with_reducible rfl))
                  simp only [Act.put, List.getElem_toArray, List.getElem_cons_succ, List.getElem_cons_zero, List.setIfInBounds_toArray, List.set_cons_zero, List.set_cons_succ]
                  refine wpAnyH_take (i := 30) (v := ?_) rfl (by kernel_rfl) (by kernel_rfl) (by kernel_rfl) (fun _ _ _ h => h) (Or.inl ⟨by rfl, ?_⟩) (by assumption) ?_
                  rotate_left
                  · (intro wz hSw; (try dsimp only at hSw); go_simp <;> (try with_reducible rfl))
                  simp only [Act.put, List.getElem_toArray, List.getElem_cons_succ, List.getElem_cons_zero, List.setIfInBounds_toArray, List.set_cons_zero, List.set_cons_succ]
                  refine wpAnyH_done (by kernel_rfl) ?_ _
                  go_wp2_with fail
                  go_meet
                  exact ⟨rfl, by repeat (first | exact kr7 | refine Below.drew ?_ | refine below_drewN ?_ _ | (refine Below.alloc ?_ (by first | (have := (kr7).size; simp; omega) | simp) _))⟩
                exact AllReadyH.nil
              refine AllReadyH.cons rfl (fun K hK => ?_) ?_
              · go_simp
                refine hK.out _ _ ?_ (fun hHeld => ?_)
                · exact Lib.hid (by repeat (first | exact kr6 | exact kr5 | exact (Below.refl w4.heap.size w4) | refine Below.drew ?_ | refine below_drewN ?_ _ | (refine Below.alloc ?_ (by first | (have := (kr6).size; simp; omega) | (have := (kr5).size; simp; omega) | (have := ((Below.refl w4.heap.size w4)).size; simp; omega) | simp) _)))
                clear hK K
                refine wpAnyH_ready (rs := [24]) (by kernel_rfl) (by simp) ?_
                refine AllReadyH.cons rfl (fun K hK => ?_) ?_
                · go_simp
                  (with_reducible refine (HC2.out _).mono ?_)
                  rintro e w7 ⟨rfl, hb7⟩
                  have kr7 : Below w4.heap.size w4 w7 := Below.now (by repeat (first | exact kr6 | refine Below.drew ?_ | refine below_drewN ?_ _ | (refine Below.alloc ?_ (by first | (have := (kr6).size; simp; omega) | simp) _))) hb7
                  have hc7 := bcell hb7
                  clear hb7
                  go_wp2_with fail
                  refine hK.out _ _ ?_ (fun hHeld => ?_)
                  · exact Lib.hid (kr7)
                  clear hK K
                  refine wpAnyH_take (i := 29) (v := ?_) rfl (by kernel_rfl) (by kernel_rfl) (by kernel_rfl) (fun _ _ _ h => h) (Or.inl ⟨by rfl, ?_⟩) (by assumption) ?_
                  rotate_left
                  · (intro wz hSw; (try dsimp only at hSw); go_simp <;> (try with_reducible rfl))
                  simp only [Act.put, List.getElem_toArray, List.getElem_cons_succ, List.getElem_cons_zero, List.setIfInBounds_toArray, List.set_cons_zero, List.set_cons_succ]
                  refine wpAnyH_take (i := 30) (v := ?_) rfl (by kernel_rfl) (by kernel_rfl) (by kernel_rfl) (fun _ _ _ h => h) (Or.inl ⟨by rfl, ?_⟩) (by assumption) ?_
                  rotate_left
                  · (intro wz hSw; (try dsimp only at hSw); go_simp <;> (try with_reducible rfl))
                  simp only [Act.put, List.getElem_toArray, List.getElem_cons_succ, List.getElem_cons_zero, List.setIfInBounds_toArray, List.set_cons_zero, List.set_cons_succ]
                  refine wpAnyH_done (by kernel_rfl) ?_ _
                  go_wp2_with fail
                  go_meet
                  exact ⟨rfl, by repeat (first | exact kr7 | refine Below.drew ?_ | refine below_drewN ?_ _ | (refine Below.alloc ?_ (by first | (have := (kr7).size; simp; omega) | simp) _))⟩
                exact AllReadyH.nil
              exact AllReadyH.nil
            exact AllReadyH.nil
          exact AllReadyH.nil
        refine AllReadyH.cons rfl (fun K hK => ?_) ?_
        · go_simp
          refine hK.out _ _ ?_ (fun hHeld => ?_)
          · exact Lib.hid (by repeat (first | exact kr5 | exact (Below.refl w4.heap.size w4) | refine Below.drew ?_ | refine below_drewN ?_ _ | (refine Below.alloc ?_ (by first | (have := (kr5).size; simp; omega) | (have := ((Below.refl w4.heap.size w4)).size; simp; omega) | simp) _)))
          clear hK K
          refine wpAnyH_ready (rs := [15]) (by kernel_rfl) (by simp) ?_
          refine AllReadyH.cons rfl (fun K hK => ?_) ?_
          · go_simp
            (with_reducible refine (HC3.out _).mono ?_)
            rintro e w6 ⟨rfl, hb6⟩
            have kr6 : Below w4.heap.size w4 w6 := Below.now (by repeat (first | exact kr5 | refine Below.drew ?_ | refine below_drewN ?_ _ | (refine Below.alloc ?_ (by first | (have := (kr5).size; simp; omega) | simp) _))) hb6
            have hc6 := bcell hb6
            clear hb6
            go_wp2_with fail
            refine hK.out _ _ ?_ (fun hHeld => ?_)
            · exact Lib.hid (kr6)
            clear hK K
            refine wpAnyH_take (i := 20) (v := ?_) rfl (by kernel_rfl) (by kernel_rfl) (by kernel_rfl) (fun _ _ _ h => h) (Or.inl ⟨by rfl, ?_⟩) (by assumption) ?_
            rotate_left
            · (intro wz hSw; (try dsimp only at hSw); go_simp <;> (try with_reducible rfl))
            simp only [Act.put, List.getElem_toArray, List.getElem_cons_succ, List.getElem_cons_zero, List.setIfInBounds_toArray, List.set_cons_zero, List.set_cons_succ]
            refine wpAnyH_take (i := 21) (v := ?_) rfl (by kernel_rfl) (by kernel_rfl) (by kernel_rfl) (fun _ _ _ h => h) (Or.inl ⟨by rfl, ?_⟩) (by assumption) ?_
            rotate_left
            · (intro wz hSw; (try dsimp only at hSw); go_simp <;> (try with_reducible rfl))
            simp only [Act.put, List.getElem_toArray, List.getElem_cons_succ, List.getElem_cons_zero, List.setIfInBounds_toArray, List.set_cons_zero, List.set_cons_succ]
            refine wpAnyH_take (i := 22) (v := ?_) rfl (by kernel_rfl) (by kernel_rfl) (by kernel_rfl) (fun _ _ _ h => h) (Or.inl ⟨by rfl, ?_⟩) (by assumption) ?_
            rotate_left
            · (intro wz hSw; (try dsimp only at hSw); go_simp <;> (try with_reducible rfl))
            simp only [Act.put, List.getElem_toArray, List.getElem_cons_succ, List.getElem_cons_zero, List.setIfInBounds_toArray, List.set_cons_zero, List.set_cons_succ]
            refine wpAnyH_take (i := 23) (v := ?_) rfl (by kernel_rfl) (by kernel_rfl) (by kernel_rfl) (fun _ _ _ h => h) (Or.inl ⟨by rfl, ?_⟩) (by assumption) ?_
            rotate_left
            · (intro wz hSw; (try dsimp only at hSw); go_simp <;> (try with_reducible rfl))
            simp only [Act.put, List.getElem_toArray, List.getElem_cons_succ, List.getElem_cons_zero, List.setIfInBounds_toArray, List.set_cons_zero, List.set_cons_succ]
            refine wpAnyH_take (i := 26) (v := ?_) rfl (by kernel_rfl) (by kernel_rfl) (by kernel_rfl) (fun _ _ _ h => h) (Or.inl ⟨by rfl, ?_⟩) (by assumption) ?_
            rotate_left
            · (intro wz hSw; (try dsimp only at hSw); go_simp <;> (try with_reducible rfl))
            simp only [Act.put, List.getElem_toArray, List.getElem_cons_succ, List.getElem_cons_zero, List.setIfInBounds_toArray, List.set_cons_zero, List.set_cons_succ]
            refine wpAnyH_ready (rs := [24, 25]) (by kernel_rfl) (by simp) ?_
            refine AllReadyH.cons rfl (fun K hK => ?_) ?_
            · go_simp
              (with_reducible refine (HC2.out _).mono ?_)
              rintro e w7 ⟨rfl, hb7⟩
              have kr7 : Below w4.heap.size w4 w7 := Below.now (by repeat (first | exact kr6 | refine Below.drew ?_ | refine below_drewN ?_ _ | (refine Below.alloc ?_ (by first | (have := (kr6).size; simp; omega) | simp) _))) hb7
              have hc7 := bcell hb7
              clear hb7
              go_wp2_with fail
              refine hK.out _ _ ?_ (fun hHeld => ?_)
              · exact Lib.hid (kr7)
              clear hK K
              refine wpAnyH_ready (rs := [25]) (by kernel_rfl) (by simp) ?_
              refine AllReadyH.cons rfl (fun K hK => ?_) ?_
              · go_simp
                refine hK.out _ _ ?_ (fun hHeld => ?_)
                · exact Lib.hid (by repeat (first | exact kr7 | exact kr6 | exact kr5 | exact (Below.refl w4.heap.size w4) | refine Below.drew ?_ | refine below_drewN ?_ _ | (refine Below.alloc ?_ (by first | (have := (kr7).size; simp; omega) | (have := (kr6).size; simp; omega) | (have := (kr5).size; simp; omega) | (have := ((Below.refl w4.heap.size w4)).size; simp; omega) | simp) _)))
                clear hK K
                refine wpAnyH_take (i := 27) (v := ?_) rfl (by kernel_rfl) (by kernel_rfl) (by kernel_rfl) (fun _ _ _ h => h) (Or.inl ⟨by rfl, ?_⟩) (by assumption) ?_
                rotate_left
                · (intro wz hSw; (try dsimp only at hSw); go_simp <;> (try with_reducible rfl))
                simp only [Act.put, List.getElem_toArray, List.getElem_cons_succ, List.getElem_cons_zero, List.setIfInBounds_toArray, List.set_cons_zero, List.set_cons_succ]
                refine wpAnyH_ready (rs := [28]) (by kernel_rfl) (by simp) ?_
                refine AllReadyH.cons rfl (fun K hK => ?_) ?_
                · go_simp
                  refine hK.out _ _ ?_ (fun hHeld => ?_)
                  · exact Lib.hid (by repeat (first | exact kr7 | exact kr6 | exact kr5 | exact (Below.refl w4.heap.size w4) | refine Below.drew ?_ | refine below_drewN ?_ _ | (refine Below.alloc ?_ (by first | (have := (kr7).size; simp; omega) | (have := (kr6).size; simp; omega) | (have := (kr5).size; simp; omega) | (have := ((Below.refl w4.heap.size w4)).size; simp; omega) | simp) _)))
                  clear hK K
                  refine wpAnyH_take (i := 29) (v := ?_) rfl (by kernel_rfl) (by kernel_rfl) (by kernel_rfl) (fun _ _ _ h => h) (Or.inl ⟨by rfl, ?_⟩) (by assumption) ?_
                  rotate_left
                  · (intro wz hSw; (try dsimp only at hSw); go_simp <;> (try with_reducible rfl))
                  simp only [Act.put, List.getElem_toArray, List.getElem_cons_succ, List.getElem_cons_zero, List.setIfInBounds_toArray, List.set_cons_zero, List.set_cons_succ]
                  refine wpAnyH_take (i := 30) (v := ?_) rfl (by kernel_rfl) (by kernel_rfl) (by kernel_rfl) (fun _ _ _ h => h) (Or.inl ⟨by rfl, ?_⟩) (by assumption) ?_
                  rotate_left
                  · (intro wz hSw; (try dsimp only at hSw); go_simp <;> (try with_reducible rfl))
                  simp only [Act.put, List.getElem_toArray, List.getElem_cons_succ, List.getElem_cons_zero, List.setIfInBounds_toArray, List.set_cons_zero, List.set_cons_succ]
                  refine wpAnyH_done (by kernel_rfl) ?_ _
                  go_wp2_with fail
                  go_meet
                  exact ⟨rfl, by repeat (first | exact kr7 | refine Below.drew ?_ | refine below_drewN ?_ _ | (refine Below.alloc ?_ (by first | (have := (kr7).size; simp; omega) | simp) _))⟩
                exact AllReadyH.nil
              exact AllReadyH.nil
            refine AllReadyH.cons rfl (fun K hK => ?_) ?_
            · go_simp
              refine hK.out _ _ ?_ (fun hHeld => ?_)
              · exact Lib.hid (by repeat (first | exact kr6 | exact kr5 | exact (Below.refl w4.heap.size w4) | refine Below.drew ?_ | refine below_drewN ?_ _ | (refine Below.alloc ?_ (by first | (have := (kr6).size; simp; omega) | (have := (kr5).size; simp; omega) | (have := ((Below.refl w4.heap.size w4)).size; simp; omega) | simp) _)))
              clear hK K
              refine wpAnyH_take (i := 27) (v := ?_) rfl (by kernel_rfl) (by kernel_rfl) (by kernel_rfl) (fun _ _ _ h => h) (Or.inl ⟨by rfl, ?_⟩) (by assumption) ?_
              rotate_left
              · (intro wz hSw; (try dsimp only at hSw); go_simp <;> (try with_reducible rfl))
              simp only [Act.put, List.getElem_toArray, List.getElem_cons_succ, List.getElem_cons_zero, List.setIfInBounds_toArray, List.set_cons_zero, List.set_cons_succ]
              refine wpAnyH_ready (rs := [24, 28]) (by kernel_rfl) (by simp) ?_
              refine AllReadyH.cons rfl (fun K hK => ?_) ?_
              · go_simp
                (with_reducible refine (HC2.out _).mono ?_)
                rintro e w7 ⟨rfl, hb7⟩
                have kr7 : Below w4.heap.size w4 w7 := Below.now (by repeat (first | exact kr6 | refine Below.drew ?_ | refine below_drewN ?_ _ | (refine Below.alloc ?_ (by first | (have := (kr6).size; simp; omega) | simp) _))) hb7
                have hc7 := bcell hb7
                clear hb7
                go_wp2_with fail
                refine hK.out _ _ ?_ (fun hHeld => ?_)
                · exact Lib.hid (kr7)
                clear hK K
                refine wpAnyH_ready (rs := [28]) (by kernel_rfl) (by simp) ?_
                refine AllReadyH.cons rfl (fun K hK => ?_) ?_
                · go_simp
                  refine hK.out _ _ ?_ (fun hHeld => ?_)
                  · exact Lib.hid (by repeat (first | exact kr7 | exact kr6 | exact kr5 | exact (Below.refl w4.heap.size w4) | refine Below.drew ?_ | refine below_drewN ?_ _ | (refine Below.alloc ?_ (by first | (have := (kr7).size; simp; omega) | (have := (kr6).size; simp; omega) | (have := (kr5).size; simp; omega) | (have := ((Below.refl w4.heap.size w4)).size; simp; omega) | simp) _)))
                  clear hK K
                  refine wpAnyH_take (i := 29) (v := ?_) rfl (by kernel_rfl) (by kernel_rfl) (by kernel_rfl) (fun _ _ _ h => h) (Or.inl ⟨by rfl, ?_⟩) (by assumption) ?_
                  rotate_left
                  · (intro wz hSw; (try dsimp only at hSw); go_simp <;> (try with_reducible rfl))
                  simp only [Act.put, List.getElem_toArray, List.getElem_cons_succ, List.getElem_cons_zero, List.setIfInBounds_toArray, List.set_cons_zero, List.set_cons_succ]
                  refine wpAnyH_take (i := 30) (v := ?_) rfl (by kernel_rfl) (by kernel_rfl) (by kernel_rfl) (fun _ _ _ h => h) (Or.inl ⟨by rfl, ?_⟩) (by assumption) ?_
                  rotate_left
                  · (intro wz hSw; (try dsimp only at hSw); go_simp <;> (try with_reducible rfl))
                  simp only [Act.put, List.getElem_toArray, List.getElem_cons_succ, List.getElem_cons_zero, List.setIfInBounds_toArray, List.set_cons_zero, List.set_cons_succ]
                  refine wpAnyH_done (by kernel_rfl) ?_ _
                  go_wp2_with fail
                  go_meet
                  exact ⟨rfl, by repeat (first | exact kr7 | refine Below.drew ?_ | refine below_drewN ?_ _ | (refine Below.alloc ?_ (by first | (have := (kr7).size; simp; omega) | simp) _))⟩
                exact AllReadyH.nil
              refine AllReadyH.cons rfl (fun K hK => ?_) ?_
              · go_simp
                refine hK.out _ _ ?_ (fun hHeld => ?_)
                · exact Lib.hid (by repeat (first | exact kr6 | exact kr5 | exact (Below.refl w4.heap.size w4) | refine Below.drew ?_ | refine below_drewN ?_ _ | (refine Below.alloc ?_ (by first | (have := (kr6).size; simp; omega) | (have := (kr5).size; simp; omega) | (have := ((Below.refl w4.heap.size w4)).size; simp; omega) | simp) _)))
                clear hK K
                refine wpAnyH_ready (rs := [24]) (by kernel_rfl) (by simp) ?_
                refine AllReadyH.cons rfl (fun K hK => ?_) ?_
                · go_simp
                  (with_reducible refine (HC2.out _).mono ?_)
                  rintro e w7 ⟨rfl, hb7⟩
                  have kr7 : Below w4.heap.size w4 w7 := Below.now (by repeat (first | exact kr6 | refine Below.drew ?_ | refine below_drewN ?_ _ | (refine Below.alloc ?_ (by first | (have := (kr6).size; simp; omega) | simp) _))) hb7
                  have hc7 := bcell hb7
                  clear hb7
                  go_wp2_with fail
                  refine hK.out _ _ ?_ (fun hHeld => ?_)
                  · exact Lib.hid (kr7)
                  clear hK K
                  refine wpAnyH_take (i := 29) (v := ?_) rfl (by kernel_rfl) (by kernel_rfl) (by kernel_rfl) (fun _ _ _ h => h) (Or.inl ⟨by rfl, ?_⟩) (by assumption) ?_
                  rotate_left
                  · (intro wz hSw; (try dsimp only at hSw); go_simp <;> (try with_reducible rfl))
                  simp only [Act.put, List.getElem_toArray, List.getElem_cons_succ, List.getElem_cons_zero, List.setIfInBounds_toArray, List.set_cons_zero, List.set_cons_succ]
                  refine wpAnyH_take (i := 30) (v := ?_) rfl (by kernel_rfl) (by kernel_rfl) (by kernel_rfl) (fun _ _ _ h => h) (Or.inl ⟨by rfl, ?_⟩) (by assumption) ?_
                  rotate_left
                  · (intro wz hSw; (try dsimp only at hSw); go_simp <;> (try with_reducible rfl))
                  simp only [Act.put, List.getElem_toArray, List.getElem_cons_succ, List.getElem_cons_zero, List.setIfInBounds_toArray, List.set_cons_zero, List.set_cons_succ]
                  refine wpAnyH_done (by kernel_rfl) ?_ _
                  go_wp2_with fail
                  go_meet
                  exact ⟨rfl, by repeat (first | exact kr7 | refine Below.drew ?_ | refine below_drewN ?_ _ | (refine Below.alloc ?_ (by first | (have := (kr7).size; simp; omega) | simp) _))⟩
                exact AllReadyH.nil
              exact AllReadyH.nil
            exact AllReadyH.nil
          exact AllReadyH.nil
        exact AllReadyH.nil
      exact AllReadyH.nil
    exact AllReadyH.nil
  case rest =>
    obtain ⟨rfl, hbc⟩ := hcut
    have B5 := Lib.hid (Below.now B4.out hbc)
    clear hbc tA tB tB1
    go_wp2_with fail
    refine (HLT.out _).mono ?_
    rintro e w8 ⟨rfl, hb8⟩
    have B8 := Lib.hid (Below.now B5.out hb8)
    clear hb8
    have hje : (n : Int) % 5 = ((n % 5 : Nat) : Int) := by omega
    have hj5 : n % 5 < 5 := by omega
    have hd : (decide (n < 4) == decide ((n : Int) < 4)) = true := by
      rw [beq_iff_eq, Bool.eq_iff_iff, decide_eq_true_eq, decide_eq_true_eq]
      omega
    generalize n % 5 = j at *
    have HA := Lib.hid (fun W => HCA.out W j hj5)
    have HK := Lib.hid (fun W => HCK.out W j hj5)
    generalize (sqfL k j).length = q at *
    go_wp2_with fail
    refine (HA.out _).mono ?_
    rintro e w9 ⟨rfl, hb9⟩
    have B9 := Lib.hid (Below.now B8.out hb9)
    clear hb9
    go_wp2_with fail
    refine (HK.out _).mono ?_
    rintro e w10 ⟨rfl, hb10⟩
    have B10 := Lib.hid (Below.now B9.out hb10)
    clear hb10
    go_wp2_with fail
    go_ret
    exact ⟨by simp, B10.out⟩
set_option maxHeartbeats 400000 in
theorem walkBig (a : Option Addr) (n cap : Nat) (w : World) (hn : n ≤ 9223372036854775807) (hlen : 1048576 < n) :
    Calls Try.prog 3 #[.slice a n cap] w fun e w' => e = .returned (.bool true) ∧ Below w.heap.size w w' := by
  have hq0 : (1048576 : Int) < (n : Int) := by omega
  go_enter Try.func3, Try.ntmps3
  go_wp2_with fail
  go_ret
  exact ⟨rfl, Below.refl _ _⟩
end Go.Proofs.Ytnnboeeogbgmdaa.fnSquareFree
