/-
  AreIsomorphic, of the program and of the reference.
-/
import Derived.Test.YtkkffaiacipibaaIsoRen
namespace Go.Proofs.Ytkkffaiacipibaa
open Go.RowKit
set_option linter.unusedVariables false
/-- AreIsomorphic as a function of plain data -/
def isoOk (n : Int) (l : List Int) (n2 : Int) (l2 : List Int) : Bool := tabB n l && (tabB n2 l2 && (decide (n = n2) && decide (n ≤ 6)))
def isoF (n : Int) (l : List Int) (n2 : Int) (l2 : List Int) : Bool := isoOk n l n2 l2 && srch n.toNat (l.map Int.toNat) (l2.map Int.toNat) (n.toNat - 1) [0]
theorem isoF_not1 {n n2 : Int} {l l2 : List Int} (h : tabB n l = false) : isoF n l n2 l2 = false := by simp [isoF, isoOk, h]
theorem isoF_not2 {n n2 : Int} {l l2 : List Int} (h : tabB n2 l2 = false) : isoF n l n2 l2 = false := by simp [isoF, isoOk, h]
theorem isoF_not3 {n n2 : Int} {l l2 : List Int} (h : ¬ n = n2) : isoF n l n2 l2 = false := by simp [isoF, isoOk, h]
theorem isoF_not4 {n n2 : Int} {l l2 : List Int} (h : 6 < n) : isoF n l n2 l2 = false := by simp [isoF, isoOk, show ¬ n ≤ 6 by omega]
theorem isoF_yes {n : Int} {l l2 : List Int} (h1 : tabB n l = true) (h2 : tabB n l2 = true) (h : n ≤ 6) : isoF n l n l2 = srch n.toNat (l.map Int.toNat) (l2.map Int.toNat) (n.toNat - 1) [0] := by simp [isoF, isoOk, h1, h2, h]
set_option maxRecDepth 20000 in
set_option maxHeartbeats 2000000 in
theorem specAreIsomorphic_any (n : Int) (l : List Int) (a : Option Addr) (cap : Nat) (n2 : Int) (l2 : List Int) (a2 : Option Addr) (cap2 : Nat) (w : World) (hl : IntsIn w a l) (hlen : l.length ≤ 2 ^ 47) (hl2 : IntsIn w a2 l2) (hlen2 : l2.length ≤ 2 ^ 47) :
    Calls Try.prog 30 #[.agg #[.int .i64 n, .slice a l.length cap], .agg #[.int .i64 n2, .slice a2 l2.length cap2]] w fun e w' => e = .returned (.bool (isoF n l n2 l2)) ∧ Below w.heap.size w w' := by
  have B0 : Hid (Below w.heap.size w ((w.alloc (.cells #[.int .i64 n, .slice a l.length cap] 27)).alloc (.cells #[.int .i64 n2, .slice a2 l2.length cap2] 27))) := Lib.hid (((Below.refl _ _).alloc (Nat.le_refl _) _).alloc (by simp) _)
  have X1 := isoLo w (.cells #[.int .i64 n, .slice a l.length cap] 27) (.cells #[.int .i64 n2, .slice a2 l2.length cap2] 27)
  have X2 := isoHi w (.cells #[.int .i64 n, .slice a l.length cap] 27) (.cells #[.int .i64 n2, .slice a2 l2.length cap2] 27)
  have hs2 : ((w.alloc (.cells #[.int .i64 n, .slice a l.length cap] 27)).alloc (.cells #[.int .i64 n2, .slice a2 l2.length cap2] 27)).heap.size = w.heap.size + 2 := by simp
  have K1 : Hid (∀ W, Below ((w.alloc (.cells #[.int .i64 n, .slice a l.length cap] 27)).alloc (.cells #[.int .i64 n2, .slice a2 l2.length cap2] 27)).heap.size ((w.alloc (.cells #[.int .i64 n, .slice a l.length cap] 27)).alloc (.cells #[.int .i64 n2, .slice a2 l2.length cap2] 27)) W → W.cell? ⟨w.heap.size, 0, none⟩ = some (.int .i64 n) ∧ W.cell? ⟨w.heap.size, 1, none⟩ = some (.slice a l.length cap) ∧ W.cell? ⟨w.heap.size + 1, 0, none⟩ = some (.int .i64 n2) ∧ W.cell? ⟨w.heap.size + 1, 1, none⟩ = some (.slice a2 l2.length cap2)) := Lib.hid (fun W hW => by
    have e1 := (hW.block w.heap.size (by omega)).trans X1
    have e2 := (hW.block (w.heap.size + 1) (by omega)).trans X2
    refine ⟨by simp [World.cell?, e1], by simp [World.cell?, e1], by simp [World.cell?, e2], by simp [World.cell?, e2]⟩)
  have HT1 : Hid (∀ W, Below w.heap.size w W → Calls Try.prog 54 #[.agg #[.int .i64 n, .slice a l.length cap]] W fun e w' => e = .returned (.bool (tabB n l)) ∧ Below W.heap.size W w') := Lib.hid (fun W hW => specTableOk_any n l a cap W (hl.later hW) hlen)
  have HT2 : Hid (∀ W, Below w.heap.size w W → Calls Try.prog 54 #[.agg #[.int .i64 n2, .slice a2 l2.length cap2]] W fun e w' => e = .returned (.bool (tabB n2 l2)) ∧ Below W.heap.size W w') := Lib.hid (fun W hW => specTableOk_any n2 l2 a2 cap2 W (hl2.later hW) hlen2)
  clear X1 X2 hs2
  cases h1 : tabB n l
  · have F := Lib.hid (isoF_not1 (n2 := n2) (l2 := l2) h1)
    rw [h1] at HT1
    clear hl hl2 h1
    go_enter Try.func30, Try.ntmps30
    go_wp2_with fail
    refine (HT1.out _ B0.out).mono ?_
    rintro e w2 ⟨rfl, hb2⟩
    have B2 := Lib.hid (Below.now B0.out hb2)
    clear hb2
    go_wp2_with fail
    go_ret
    exact ⟨ret_bool F.out.symm, B2.out⟩
  cases h2 : tabB n2 l2
  · have F := Lib.hid (isoF_not2 (n := n) (l := l) h2)
    rw [h1] at HT1
    rw [h2] at HT2
    clear hl hl2 h1 h2
    go_enter Try.func30, Try.ntmps30
    go_wp2_with fail
    refine (HT1.out _ B0.out).mono ?_
    rintro e w2 ⟨rfl, hb2⟩
    have B2 := Lib.hid (Below.now B0.out hb2)
    have C2 := K1.out _ hb2
    obtain ⟨k0, k1, k2, k3⟩ := C2
    clear hb2
    go_wp2_with fail
    refine (HT2.out _ B2.out).mono ?_
    rintro e w3 ⟨rfl, hb3⟩
    have B3 := Lib.hid (Below.now B2.out hb3)
    clear hb3 k0 k1 k2 k3
    go_wp2_with fail
    go_ret
    exact ⟨ret_bool F.out.symm, B3.out⟩
  have HIF : Hid (∀ b : Bool, decide (n = n2) = b → (b = false → isoF n l n2 l2 = false)) := Lib.hid (fun b h1 h2 => isoF_not3 (by subst h2; simpa using h1))
  by_cases h3 : n = n2
  rotate_left
  · have F := Lib.hid (isoF_not3 (l := l) (l2 := l2) h3)
    have hne1 : (n != n2) = true := by rw [bne_iff_ne]; exact h3
    have hne2 : (n == n2) = false := by rw [beq_eq_false_iff_ne]; exact h3
    rw [h1] at HT1
    rw [h2] at HT2
    clear hl hl2 h1 h2 HIF
    go_enter Try.func30, Try.ntmps30
    go_wp2_with fail
    refine (HT1.out _ B0.out).mono ?_
    rintro e w2 ⟨rfl, hb2⟩
    have B2 := Lib.hid (Below.now B0.out hb2)
    have G2 := Lib.hid hb2
    obtain ⟨k0, k1, k2, k3⟩ := K1.out _ hb2
    clear hb2
    go_wp2_with fail
    refine (HT2.out _ B2.out).mono ?_
    rintro e w3 ⟨rfl, hb3⟩
    have B3 := Lib.hid (Below.now B2.out hb3)
    clear k0 k1 k2 k3
    obtain ⟨k0, k1, k2, k3⟩ := K1.out _ (Below.now G2.out hb3)
    clear hb3
    go_wp2_with fail
    go_ret
    exact ⟨ret_bool F.out.symm, B3.out⟩
  clear HIF
  subst h3
  by_cases h4 : 6 < n
  · have F := Lib.hid (isoF_not4 (l := l) (n2 := n) (l2 := l2) h4)
    have hne4 : ¬ n ≤ 6 := by omega
    rw [h1] at HT1
    rw [h2] at HT2
    clear hl hl2 h1 h2
    go_enter Try.func30, Try.ntmps30
    go_wp2_with fail
    refine (HT1.out _ B0.out).mono ?_
    rintro e w2 ⟨rfl, hb2⟩
    have B2 := Lib.hid (Below.now B0.out hb2)
    have G2 := Lib.hid hb2
    obtain ⟨k0, k1, k2, k3⟩ := K1.out _ hb2
    clear hb2
    go_wp2_with fail
    refine (HT2.out _ B2.out).mono ?_
    rintro e w3 ⟨rfl, hb3⟩
    have B3 := Lib.hid (Below.now B2.out hb3)
    clear k0 k1 k2 k3
    obtain ⟨k0, k1, k2, k3⟩ := K1.out _ (Below.now G2.out hb3)
    clear hb3
    go_wp2_with fail
    go_ret
    exact ⟨ret_bool F.out.symm, B3.out⟩
  have F := Lib.hid (isoF_yes h1 h2 (by omega))
  obtain ⟨m, ln, rfl, rfl, hT⟩ := tabOk_out h1
  obtain ⟨m2, lu, he, rfl, hU⟩ := tabOk_out h2
  obtain rfl : m2 = m := by omega
  have hm6 : (m2 : Int) ≤ 6 := by omega
  have HR : Hid (∀ W, Below w.heap.size w W → Calls Try.prog 65 #[.agg #[.int .i64 m2, .slice a (ln.map Int.ofNat).length cap], .agg #[.int .i64 m2, .slice a2 (lu.map Int.ofNat).length cap2], .slice (some ⟨W.heap.size, 0, none⟩) 1 1] (W.alloc (.cells #[.int .i64 0] 3)) fun e w' => e = .returned (.bool (srch m2 ln lu (m2 - 1) [0])) ∧ Below (W.alloc (.cells #[.int .i64 0] 3)).heap.size (W.alloc (.cells #[.int .i64 0] 3)) w') := Lib.hid (fun W hW => by
    have hk := Below.now hW ((Below.refl _ _).alloc (Nat.le_refl _) (.cells #[.int .i64 0] 3))
    have hlo := hT.1.lo
    exact l13Search_any m2 ln lu a a2 _ cap _ cap2 hT.1 hU.1 (by rw [List.length_map]; exact hT.1.len) (by rw [List.length_map]; exact hU.1.len) (m2 - 1) [0] (some ⟨W.heap.size, 0, none⟩) 1 _ (IntsIn.later hl hk) (IntsIn.later hl2 hk) (.inr ⟨_, _, rfl, fun i hi => by
      obtain rfl : i = 0 := by simp at hi; omega
      simp⟩) (by simp; omega) (fun y hy => by rw [List.mem_singleton.1 hy]; omega) List.mem_cons_self)
  rw [h1] at HT1
  rw [h2] at HT2
  have e1 : ((m2 : Nat) : Int).toNat = m2 := by omega
  have e2 : (ln.map Int.ofNat).map Int.toNat = ln := by rw [List.map_map]; exact List.map_id'' (fun x => rfl) ln
  have e3 : (lu.map Int.ofNat).map Int.toNat = lu := by rw [List.map_map]; exact List.map_id'' (fun x => rfl) lu
  rw [e1, e2, e3] at F
  have hne1 : (((m2 : Nat) : Int) != ((m2 : Nat) : Int)) = false := by simp
  clear hl hl2 h1 h2 hT hU he hlen hlen2 e1 e2 e3
  generalize (ln.map Int.ofNat).length = q1 at *
  generalize (lu.map Int.ofNat).length = q2 at *
  generalize srch m2 ln lu (m2 - 1) [0] = r at *
  go_enter Try.func30, Try.ntmps30
  go_wp2_with fail
  refine (HT1.out _ B0.out).mono ?_
  rintro e w2 ⟨rfl, hb2⟩
  have B2 := Lib.hid (Below.now B0.out hb2)
  have G2 := Lib.hid hb2
  obtain ⟨k0, k1, k2, k3⟩ := K1.out _ hb2
  clear hb2
  go_wp2_with fail
  refine (HT2.out _ B2.out).mono ?_
  rintro e w3 ⟨rfl, hb3⟩
  have B3 := Lib.hid (Below.now B2.out hb3)
  clear k0 k1 k2 k3
  obtain ⟨k0, k1, k2, k3⟩ := K1.out _ (Below.now G2.out hb3)
  clear hb3
  go_wp2_with fail
  refine (HR.out _ B3.out).mono ?_
  rintro e w4 ⟨rfl, hb4⟩
  have B4 := Lib.hid (Below.now B3.out (Below.now ((Below.refl _ _).alloc (Nat.le_refl _) _) hb4))
  clear k0 k1 k2 k3 hb4
  go_wp2_with fail
  go_ret
  exact ⟨ret_bool F.out.symm, B4.out⟩
set_option maxRecDepth 20000 in
set_option maxHeartbeats 2000000 in
theorem implAreIsomorphic_any (n : Int) (l : List Int) (a : Option Addr) (cap : Nat) (n2 : Int) (l2 : List Int) (a2 : Option Addr) (cap2 : Nat) (w : World) (hl : IntsIn w a l) (hlen : l.length ≤ 2 ^ 47) (hl2 : IntsIn w a2 l2) (hlen2 : l2.length ≤ 2 ^ 47) :
    Calls Try.prog 31 #[.agg #[.int .i64 n, .slice a l.length cap], .agg #[.int .i64 n2, .slice a2 l2.length cap2]] w fun e w' => e = .returned (.bool (isoF n l n2 l2)) ∧ Below w.heap.size w w' := by
  have B0 : Hid (Below w.heap.size w ((w.alloc (.cells #[.int .i64 n, .slice a l.length cap] 27)).alloc (.cells #[.int .i64 n2, .slice a2 l2.length cap2] 27))) := Lib.hid (((Below.refl _ _).alloc (Nat.le_refl _) _).alloc (by simp) _)
  have X1 := isoLo w (.cells #[.int .i64 n, .slice a l.length cap] 27) (.cells #[.int .i64 n2, .slice a2 l2.length cap2] 27)
  have X2 := isoHi w (.cells #[.int .i64 n, .slice a l.length cap] 27) (.cells #[.int .i64 n2, .slice a2 l2.length cap2] 27)
  have hs2 : ((w.alloc (.cells #[.int .i64 n, .slice a l.length cap] 27)).alloc (.cells #[.int .i64 n2, .slice a2 l2.length cap2] 27)).heap.size = w.heap.size + 2 := by simp
  have K1 : Hid (∀ W, Below ((w.alloc (.cells #[.int .i64 n, .slice a l.length cap] 27)).alloc (.cells #[.int .i64 n2, .slice a2 l2.length cap2] 27)).heap.size ((w.alloc (.cells #[.int .i64 n, .slice a l.length cap] 27)).alloc (.cells #[.int .i64 n2, .slice a2 l2.length cap2] 27)) W → W.cell? ⟨w.heap.size, 0, none⟩ = some (.int .i64 n) ∧ W.cell? ⟨w.heap.size, 1, none⟩ = some (.slice a l.length cap) ∧ W.cell? ⟨w.heap.size + 1, 0, none⟩ = some (.int .i64 n2) ∧ W.cell? ⟨w.heap.size + 1, 1, none⟩ = some (.slice a2 l2.length cap2)) := Lib.hid (fun W hW => by
    have e1 := (hW.block w.heap.size (by omega)).trans X1
    have e2 := (hW.block (w.heap.size + 1) (by omega)).trans X2
    refine ⟨by simp [World.cell?, e1], by simp [World.cell?, e1], by simp [World.cell?, e2], by simp [World.cell?, e2]⟩)
  have HT1 : Hid (∀ W, Below w.heap.size w W → Calls Try.prog 61 #[.agg #[.int .i64 n, .slice a l.length cap]] W fun e w' => e = .returned (.bool (tabB n l)) ∧ Below W.heap.size W w') := Lib.hid (fun W hW => implTableOk_any n l a cap W (hl.later hW) hlen)
  have HT2 : Hid (∀ W, Below w.heap.size w W → Calls Try.prog 61 #[.agg #[.int .i64 n2, .slice a2 l2.length cap2]] W fun e w' => e = .returned (.bool (tabB n2 l2)) ∧ Below W.heap.size W w') := Lib.hid (fun W hW => implTableOk_any n2 l2 a2 cap2 W (hl2.later hW) hlen2)
  clear X1 X2 hs2
  cases h1 : tabB n l
  · have F := Lib.hid (isoF_not1 (n2 := n2) (l2 := l2) h1)
    rw [h1] at HT1
    clear hl hl2 h1
    go_enter Try.func31, Try.ntmps31
    go_wp2_with fail
    refine (HT1.out _ B0.out).mono ?_
    rintro e w2 ⟨rfl, hb2⟩
    have B2 := Lib.hid (Below.now B0.out hb2)
    clear hb2
    go_wp2_with fail
    go_ret
    exact ⟨ret_bool F.out.symm, B2.out⟩
  cases h2 : tabB n2 l2
  · have F := Lib.hid (isoF_not2 (n := n) (l := l) h2)
    rw [h1] at HT1
    rw [h2] at HT2
    clear hl hl2 h1 h2
    go_enter Try.func31, Try.ntmps31
    go_wp2_with fail
    refine (HT1.out _ B0.out).mono ?_
    rintro e w2 ⟨rfl, hb2⟩
    have B2 := Lib.hid (Below.now B0.out hb2)
    have C2 := K1.out _ hb2
    obtain ⟨k0, k1, k2, k3⟩ := C2
    clear hb2
    go_wp2_with fail
    refine (HT2.out _ B2.out).mono ?_
    rintro e w3 ⟨rfl, hb3⟩
    have B3 := Lib.hid (Below.now B2.out hb3)
    clear hb3 k0 k1 k2 k3
    go_wp2_with fail
    go_ret
    exact ⟨ret_bool F.out.symm, B3.out⟩
  have HIF : Hid (∀ b : Bool, decide (n = n2) = b → (b = false → isoF n l n2 l2 = false)) := Lib.hid (fun b h1 h2 => isoF_not3 (by subst h2; simpa using h1))
  by_cases h3 : n = n2
  rotate_left
  · have F := Lib.hid (isoF_not3 (l := l) (l2 := l2) h3)
    have hne1 : (n != n2) = true := by rw [bne_iff_ne]; exact h3
    have hne2 : (n == n2) = false := by rw [beq_eq_false_iff_ne]; exact h3
    rw [h1] at HT1
    rw [h2] at HT2
    clear hl hl2 h1 h2 HIF
    go_enter Try.func31, Try.ntmps31
    go_wp2_with fail
    refine (HT1.out _ B0.out).mono ?_
    rintro e w2 ⟨rfl, hb2⟩
    have B2 := Lib.hid (Below.now B0.out hb2)
    have G2 := Lib.hid hb2
    obtain ⟨k0, k1, k2, k3⟩ := K1.out _ hb2
    clear hb2
    go_wp2_with fail
    refine (HT2.out _ B2.out).mono ?_
    rintro e w3 ⟨rfl, hb3⟩
    have B3 := Lib.hid (Below.now B2.out hb3)
    clear k0 k1 k2 k3
    obtain ⟨k0, k1, k2, k3⟩ := K1.out _ (Below.now G2.out hb3)
    clear hb3
    go_wp2_with fail
    go_ret
    exact ⟨ret_bool F.out.symm, B3.out⟩
  clear HIF
  subst h3
  by_cases h4 : 6 < n
  · have F := Lib.hid (isoF_not4 (l := l) (n2 := n) (l2 := l2) h4)
    have hne4 : ¬ n ≤ 6 := by omega
    rw [h1] at HT1
    rw [h2] at HT2
    clear hl hl2 h1 h2
    go_enter Try.func31, Try.ntmps31
    go_wp2_with fail
    refine (HT1.out _ B0.out).mono ?_
    rintro e w2 ⟨rfl, hb2⟩
    have B2 := Lib.hid (Below.now B0.out hb2)
    have G2 := Lib.hid hb2
    obtain ⟨k0, k1, k2, k3⟩ := K1.out _ hb2
    clear hb2
    go_wp2_with fail
    refine (HT2.out _ B2.out).mono ?_
    rintro e w3 ⟨rfl, hb3⟩
    have B3 := Lib.hid (Below.now B2.out hb3)
    clear k0 k1 k2 k3
    obtain ⟨k0, k1, k2, k3⟩ := K1.out _ (Below.now G2.out hb3)
    clear hb3
    go_wp2_with fail
    go_ret
    exact ⟨ret_bool F.out.symm, B3.out⟩
  have F := Lib.hid (isoF_yes h1 h2 (by omega))
  obtain ⟨m, ln, rfl, rfl, hT⟩ := tabOk_out h1
  obtain ⟨m2, lu, he, rfl, hU⟩ := tabOk_out h2
  obtain rfl : m2 = m := by omega
  have hm6 : (m2 : Int) ≤ 6 := by omega
  have HR : Hid (∀ W, Below w.heap.size w W → Calls Try.prog 66 #[.agg #[.int .i64 m2, .slice a (ln.map Int.ofNat).length cap], .agg #[.int .i64 m2, .slice a2 (lu.map Int.ofNat).length cap2], .slice (some ⟨W.heap.size, 0, none⟩) 1 1] (W.alloc (.cells #[.int .i64 0] 3)) fun e w' => e = .returned (.bool (srch m2 ln lu (m2 - 1) [0])) ∧ Below (W.alloc (.cells #[.int .i64 0] 3)).heap.size (W.alloc (.cells #[.int .i64 0] 3)) w') := Lib.hid (fun W hW => by
    have hk := Below.now hW ((Below.refl _ _).alloc (Nat.le_refl _) (.cells #[.int .i64 0] 3))
    have hlo := hT.1.lo
    exact renames_any m2 ln lu a a2 _ cap _ cap2 hT.1 hU.1 (by rw [List.length_map]; exact hT.1.len) (by rw [List.length_map]; exact hU.1.len) (m2 - 1) [0] (some ⟨W.heap.size, 0, none⟩) 1 _ (IntsIn.later hl hk) (IntsIn.later hl2 hk) (.inr ⟨_, _, rfl, fun i hi => by
      obtain rfl : i = 0 := by simp at hi; omega
      simp⟩) (by simp; omega) (fun y hy => by rw [List.mem_singleton.1 hy]; omega) List.mem_cons_self)
  rw [h1] at HT1
  rw [h2] at HT2
  have e1 : ((m2 : Nat) : Int).toNat = m2 := by omega
  have e2 : (ln.map Int.ofNat).map Int.toNat = ln := by rw [List.map_map]; exact List.map_id'' (fun x => rfl) ln
  have e3 : (lu.map Int.ofNat).map Int.toNat = lu := by rw [List.map_map]; exact List.map_id'' (fun x => rfl) lu
  rw [e1, e2, e3] at F
  have hne1 : (((m2 : Nat) : Int) != ((m2 : Nat) : Int)) = false := by simp
  clear hl hl2 h1 h2 hT hU he hlen hlen2 e1 e2 e3
  generalize (ln.map Int.ofNat).length = q1 at *
  generalize (lu.map Int.ofNat).length = q2 at *
  generalize srch m2 ln lu (m2 - 1) [0] = r at *
  go_enter Try.func31, Try.ntmps31
  go_wp2_with fail
  refine (HT1.out _ B0.out).mono ?_
  rintro e w2 ⟨rfl, hb2⟩
  have B2 := Lib.hid (Below.now B0.out hb2)
  have G2 := Lib.hid hb2
  obtain ⟨k0, k1, k2, k3⟩ := K1.out _ hb2
  clear hb2
  go_wp2_with fail
  refine (HT2.out _ B2.out).mono ?_
  rintro e w3 ⟨rfl, hb3⟩
  have B3 := Lib.hid (Below.now B2.out hb3)
  clear k0 k1 k2 k3
  obtain ⟨k0, k1, k2, k3⟩ := K1.out _ (Below.now G2.out hb3)
  clear hb3
  go_wp2_with fail
  refine (HR.out _ B3.out).mono ?_
  rintro e w4 ⟨rfl, hb4⟩
  have B4 := Lib.hid (Below.now B3.out (Below.now ((Below.refl _ _).alloc (Nat.le_refl _) _) hb4))
  clear k0 k1 k2 k3 hb4
  go_wp2_with fail
  go_ret
  exact ⟨ret_bool F.out.symm, B4.out⟩
end Go.Proofs.Ytkkffaiacipibaa
