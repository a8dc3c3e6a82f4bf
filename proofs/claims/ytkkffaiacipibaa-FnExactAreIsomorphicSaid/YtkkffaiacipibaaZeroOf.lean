/-
  ZeroOf, of the program and of the reference.
-/
import Derived.Test.YtkkffaiacipibaaThose
namespace Go.Proofs.Ytkkffaiacipibaa
open Go.RowKit
set_option linter.unusedVariables false
/-- the element is a zero -/
def zerB (m : Nat) (ln : List Nat) (z i : Nat) : Bool := decide (tm m ln z i = z) && decide (tm m ln i z = z)
def zeroB (m : Nat) (ln : List Nat) (z : Nat) : Bool := (List.range m).all (zerB m ln z)
def firstZ (l : List Int) : Int := match l with | [] => -1 | x :: _ => x
/-- ZeroOf as a function of plain data -/
def zeroF (n : Int) (l : List Int) : Int := firstZ (thoseL n l (zeroB n.toNat (l.map Int.toNat)))
theorem zerB_of1 {m : Nat} {ln : List Nat} {z i : Nat} (h : (((tm m ln z i : Nat) : Int) == (z : Nat)) = false) : zerB m ln z i = false := by
  simp at h; simp [zerB]; omega
theorem zerB_of2 {m : Nat} {ln : List Nat} {z i : Nat} (h : (((tm m ln z i : Nat) : Int) == (z : Nat)) = true) {b : Bool} (h2 : (((tm m ln i z : Nat) : Int) == (z : Nat)) = b) : zerB m ln z i = b := by
  cases b <;> simp at h h2 <;> simp [zerB] <;> omega
set_option maxHeartbeats 800000 in
theorem zeroIn_pred (m : Nat) (ln : List Nat) (a : Option Addr) (len cap bt bz z : Nat) (w : World) (hx0 : w.cell? ⟨bt, 0, none⟩ = some (.int .i64 m)) (hx1 : w.cell? ⟨bt, 1, none⟩ = some (.slice a len cap))
    (hzc : w.cell? ⟨bz, 0, none⟩ = some (.int .i64 (z : Nat))) (hn : NatsIn w a ln) (hT : Tb m ln) (hlen : len = m * m) (hz : z < m) :
    PredEl w.heap.size 59 #[.pointer (some ⟨bt, 0, none⟩), .pointer (some ⟨bz, 0, none⟩)] (zerB m ln z) m w := by
  intro i hi W hW
  have k0 : ∀ x, (wide W x).cell? ⟨bt, 0, none⟩ = some (.int .i64 m) := wide_cell (by rw [hW.cell (World.block_lt_of_cell? w _ hx0)]; exact hx0)
  have k1 : ∀ x, (wide W x).cell? ⟨bt, 1, none⟩ = some (.slice a len cap) := wide_cell (by rw [hW.cell (World.block_lt_of_cell? w _ hx1)]; exact hx1)
  have k2 : ∀ x, (wide W x).cell? ⟨bz, 0, none⟩ = some (.int .i64 (z : Nat)) := wide_cell (by rw [hW.cell (World.block_lt_of_cell? w _ hzc)]; exact hzc)
  have HN : Hid (∀ x, NatsIn (wide W x) a ln) := fun x => (hn.later hW).later (below_wide _ _)
  have HT := Lib.hid hT
  have HL := Lib.hid hlen
  clear hx0 hx1 hzc hn hT hlen hW
  cases e1 : (((tm m ln z i : Nat) : Int) == (z : Nat))
  · have F := Lib.hid (zerB_of1 e1)
    go_enter Try.func59, Try.ntmps59
    go_wp2_with fail
    refine region_wide (by kernel_rfl) (by kernel_rfl) ?_
    repeat (quiet_step ((refine (implTimes_any m ln a _ _ _ _ _ (HN.out _) HT.out HL.out (by assumption) (by assumption)).mono ?_; rintro e w2 ⟨rfl, hb2⟩; exact ⟨rfl, wide_next hb2⟩)))
    refine wpQuiet_nil ?_
    rintro w4 ⟨x4, rfl⟩
    go_wp2_with fail
    go_ret
    exact ⟨ret_bool F.out.symm, below_wide _ _⟩
  · cases e2 : (((tm m ln i z : Nat) : Int) == (z : Nat))
    · have F := Lib.hid (zerB_of2 e1 e2)
      go_enter Try.func59, Try.ntmps59
      go_wp2_with fail
      refine region_wide (by kernel_rfl) (by kernel_rfl) ?_
      repeat (quiet_step ((refine (implTimes_any m ln a _ _ _ _ _ (HN.out _) HT.out HL.out (by assumption) (by assumption)).mono ?_; rintro e w2 ⟨rfl, hb2⟩; exact ⟨rfl, wide_next hb2⟩)))
      refine wpQuiet_nil ?_
      rintro w4 ⟨x4, rfl⟩
      go_wp2_with fail
      go_ret
      exact ⟨ret_bool F.out.symm, below_wide _ _⟩
    · have F := Lib.hid (zerB_of2 e1 e2)
      go_enter Try.func59, Try.ntmps59
      go_wp2_with fail
      refine region_wide (by kernel_rfl) (by kernel_rfl) ?_
      repeat (quiet_step ((refine (implTimes_any m ln a _ _ _ _ _ (HN.out _) HT.out HL.out (by assumption) (by assumption)).mono ?_; rintro e w2 ⟨rfl, hb2⟩; exact ⟨rfl, wide_next hb2⟩)))
      refine wpQuiet_nil ?_
      rintro w4 ⟨x4, rfl⟩
      go_wp2_with fail
      go_ret
      exact ⟨ret_bool F.out.symm, below_wide _ _⟩
set_option maxHeartbeats 800000 in
theorem zeroOut_pred (m : Nat) (ln : List Nat) (a : Option Addr) (len cap bt : Nat) (w : World) (hx0 : w.cell? ⟨bt, 0, none⟩ = some (.int .i64 m)) (hx1 : w.cell? ⟨bt, 1, none⟩ = some (.slice a len cap))
    (hn : NatsIn w a ln) (hT : Tb m ln) (hlen : len = m * m) :
    PredEl w.heap.size 57 #[.pointer (some ⟨bt, 0, none⟩)] (zeroB m ln) m w := by
  intro z hz W hW
  have k0 : W.cell? ⟨bt, 0, none⟩ = some (.int .i64 m) := by rw [hW.cell (World.block_lt_of_cell? w _ hx0)]; exact hx0
  have k1 : W.cell? ⟨bt, 1, none⟩ = some (.slice a len cap) := by rw [hW.cell (World.block_lt_of_cell? w _ hx1)]; exact hx1
  have b0 := World.block_lt_of_cell? W _ k0
  have HN := Lib.hid (hn.later hW)
  have HT := Lib.hid hT
  have HL := Lib.hid hlen
  have hm := hT.hi
  clear hx0 hx1 hn hT hlen hW
  have hb0 : bt < W.heap.size := b0
  go_enter Try.func57, Try.ntmps57
  go_wp2_with fail
  have hbel : Below W.heap.size W (W.alloc (.cells #[.int .i64 (z : Nat)] 3)) := (Below.refl _ _).alloc (Nat.le_refl _) _
  have hp := zeroIn_pred m ln a len cap bt W.heap.size z (W.alloc (.cells #[.int .i64 (z : Nat)] 3)) (by rw [hbel.cell hb0]; exact k0) (by rw [hbel.cell hb0]; exact k1) (by simp) (HN.out.later hbel) HT.out HL.out hz
  refine (all_any _ _ _ (zerB m ln z) m a len cap _ (by omega) hp (Nat.le_refl _) (enters_of Try.func59 (by kernel_rfl) rfl)).mono ?_
  rintro e w2 ⟨rfl, hb2⟩
  have hbel2 := Below.now hbel hb2
  clear hp hb2 hbel
  go_wp2_with fail
  go_ret
  exact ⟨rfl, hbel2⟩
theorem ownsInts_first {w : World} {base : Nat} {T : TypeId} {a : Option Addr} {n cap : Nat} {l : List Int} (h : w.ownsRow base T 1 (.slice a n cap) n (intVals l)) (hl : 0 < l.length) : ∃ g, a = some ⟨g, 0, none⟩ ∧ w.cell? ⟨g, 0, none⟩ = some (.int .i64 (nthZ l 0)) := by
  have h1 := h.1
  rcases h.2 with ⟨hv, h0⟩ | ⟨g, cap', cur, hv, _⟩
  · simp [intVals] at h1; omega
  · simp only [Value.slice.injEq] at hv
    obtain ⟨rfl, _, rfl⟩ := hv
    exact ⟨g, rfl, by rw [h.cellAt 0 (by simp [intVals] at h1; omega)]; simp [intVals, hl, nthZ_lt hl]⟩
theorem map_toNat (ln : List Nat) : (ln.map Int.ofNat).map Int.toNat = ln := by rw [List.map_map]; exact List.map_id'' (fun x => rfl) ln
set_option maxHeartbeats 800000 in
theorem implZeroOf_any (n : Int) (l : List Int) (a : Option Addr) (cap : Nat) (w : World) (hl : IntsIn w a l) (hlen : l.length ≤ 2 ^ 47) :
    Calls Try.prog 20 #[.agg #[.int .i64 n, .slice a l.length cap]] w fun e w' => e = .returned (.int .i64 (zeroF n l)) ∧ Below w.heap.size w w' := by
  have HL := Lib.hid hl
  clear hl
  go_enter Try.func20, Try.ntmps20
  go_wp2_with fail
  have hbel : Below w.heap.size w (w.alloc (.cells #[.int .i64 n, .slice a l.length cap] 27)) := (Below.refl _ _).alloc (Nat.le_refl _) _
  refine (those_any n l a cap _ (HL.out.later hbel) hlen _ _ _ (zeroB n.toNat (l.map Int.toNat)) (Nat.le_refl _) ?_ (enters_of Try.func57 (by kernel_rfl) rfl)).mono ?_
  · intro ht
    obtain ⟨m, ln, rfl, rfl, hT⟩ := tabOk_out ht
    rw [map_toNat]
    exact zeroOut_pred m ln a (ln.map Int.ofNat).length cap w.heap.size _ (by simp) (by simp) (HL.out.later hbel) hT.toTb (by rw [List.length_map]; exact hT.len)
  rintro e w2 ⟨a2, c2, rfl, ho, hb2⟩
  have hbel2 := Below.now hbel hb2
  have HZ : Hid (zeroF n l = firstZ (thoseL n l (zeroB n.toNat (l.map Int.toNat)))) := rfl
  generalize thoseL n l (zeroB n.toNat (l.map Int.toNat)) = ls at ho HZ ⊢
  clear hb2 hbel
  cases ls with
  | nil =>
    clear ho
    go_wp2_with fail
    go_ret
    exact ⟨ret_int HZ.out.symm, hbel2⟩
  | cons x xs =>
    obtain ⟨g, rfl, hc⟩ := ownsInts_first ho (by simp)
    have hz : (((x :: xs).length : Int) == 0) = false := by rw [beq_eq_false_iff_ne]; simp; omega
    clear ho
    go_wp2_with fail
    go_ret
    exact ⟨ret_int HZ.out.symm, hbel2⟩
end Go.Proofs.Ytkkffaiacipibaa
