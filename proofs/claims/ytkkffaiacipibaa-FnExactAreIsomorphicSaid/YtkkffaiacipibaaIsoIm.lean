/-
  The program's renamings: its closures.
-/
import Derived.Test.YtkkffaiacipibaaIsoSe
namespace Go.Proofs.Ytkkffaiacipibaa
open Go.RowKit
set_option linter.unusedVariables false
set_option maxRecDepth 20000 in
set_option maxHeartbeats 1000000 in
theorem renIn_pred (m : Nat) (ln lu ps : List Nat) (a au ap : Option Addr) (len cap lenu capu capp bn bt bi bu i : Nat) (w : World) (hn : w.cell? ⟨bn, 0, none⟩ = some (.slice ap m capp)) (ht0 : w.cell? ⟨bt, 0, none⟩ = some (.int .i64 m)) (ht1 : w.cell? ⟨bt, 1, none⟩ = some (.slice a len cap))
    (hi0 : w.cell? ⟨bi, 0, none⟩ = some (.int .i64 (i : Nat))) (hu0 : w.cell? ⟨bu, 0, none⟩ = some (.int .i64 m)) (hu1 : w.cell? ⟨bu, 1, none⟩ = some (.slice au lenu capu)) (hl : NatsIn w a ln) (hu : NatsIn w au lu) (hp : NatsIn w ap ps) (hT : Tb m ln) (hU : Tb m lu) (hlen : len = m * m) (hlenu : lenu = m * m)
    (hps : ps.length = m) (hlt : ∀ y ∈ ps, y < m) (hi : i < m) :
    PredEl w.heap.size 99 #[.pointer (some ⟨bn, 0, none⟩), .pointer (some ⟨bt, 0, none⟩), .pointer (some ⟨bi, 0, none⟩), .pointer (some ⟨bu, 0, none⟩)] (carP m ln lu ps i) m w := by
  intro k hk W hW
  have hpos := hT.lo
  have hm := hT.hi
  have HN := Lib.hid (fun i (hi : i < m) => nm_lt hps hlt hi)
  obtain ⟨bp, op, rfl, hc⟩ := nm_cells hp hps hpos
  have q1 : ∀ x, (wide W x).cell? ⟨bp, op + tm m ln i k, none⟩ = some (.int .i64 ((nm ps (tm m ln i k) : Nat) : Int)) := wide_cell (hc _ hW _ (hT.tm_lt hi hk))
  have q2 : ∀ x, (wide W x).cell? ⟨bp, op + i, none⟩ = some (.int .i64 ((nm ps i : Nat) : Int)) := wide_cell (hc _ hW _ hi)
  have q3 : ∀ x, (wide W x).cell? ⟨bp, op + k, none⟩ = some (.int .i64 ((nm ps k : Nat) : Int)) := wide_cell (hc _ hW _ hk)
  have p0 : ∀ x, (wide W x).cell? ⟨bn, 0, none⟩ = some (.slice (some ⟨bp, op, none⟩) m capp) := wide_cell (by rw [hW.cell (World.block_lt_of_cell? w _ hn)]; exact hn)
  have p1 : ∀ x, (wide W x).cell? ⟨bt, 0, none⟩ = some (.int .i64 m) := wide_cell (by rw [hW.cell (World.block_lt_of_cell? w _ ht0)]; exact ht0)
  have p2 : ∀ x, (wide W x).cell? ⟨bt, 1, none⟩ = some (.slice a len cap) := wide_cell (by rw [hW.cell (World.block_lt_of_cell? w _ ht1)]; exact ht1)
  have p3 : ∀ x, (wide W x).cell? ⟨bi, 0, none⟩ = some (.int .i64 (i : Nat)) := wide_cell (by rw [hW.cell (World.block_lt_of_cell? w _ hi0)]; exact hi0)
  have p4 : ∀ x, (wide W x).cell? ⟨bu, 0, none⟩ = some (.int .i64 m) := wide_cell (by rw [hW.cell (World.block_lt_of_cell? w _ hu0)]; exact hu0)
  have p5 : ∀ x, (wide W x).cell? ⟨bu, 1, none⟩ = some (.slice au lenu capu) := wide_cell (by rw [hW.cell (World.block_lt_of_cell? w _ hu1)]; exact hu1)
  have N1 : Hid (∀ x, NatsIn (wide W x) a ln) := Lib.hid (fun x => (hl.later hW).later (below_wide _ _))
  have N2 : Hid (∀ x, NatsIn (wide W x) au lu) := Lib.hid (fun x => (hu.later hW).later (below_wide _ _))
  have HT := Lib.hid hT
  have HU := Lib.hid hU
  have HL := Lib.hid hlen
  have HLU := Lib.hid hlenu
  have hti := hT.tm_lt hi hk
  have hni := HN.out i hi
  have hnk := HN.out k hk
  have F : Hid (∀ x y z : Nat, nm ps (tm m ln i k) = x → nm ps i = y → nm ps k = z → carP m ln lu ps i k = (((x : Nat) : Int) == ((tm m lu y z : Nat) : Int))) := Lib.hid (fun x y z hx hy hz => by
    subst hx hy hz
    unfold carP
    rw [Bool.eq_iff_iff]
    simp
    constructor <;> intro h <;> omega)
  have F2 := Lib.hid (F.out _ _ _ rfl rfl rfl)
  clear F hc hn ht0 ht1 hi0 hu0 hu1 hl hu hp hT hU hlen hlenu hps hlt HN hW
  generalize nm ps i = ei at *
  generalize nm ps k = ek at *
  generalize nm ps (tm m ln i k) = et at *
  go_enter Try.func99, Try.ntmps99
  go_wp2_with fail
  refine region_wide (by kernel_rfl) (by kernel_rfl) ?_
  repeat (quiet_step ((first
    | (go_at_call 60; (with_reducible refine (implTimes_any m ln a _ _ _ _ _ (N1.out _) HT.out HL.out (by assumption) (by assumption)).mono ?_); rintro e w2 ⟨rfl, hb2⟩; exact ⟨rfl, wide_next hb2⟩)
    | (go_at_call 60; (with_reducible refine (implTimes_any m lu au _ _ _ _ _ (N2.out _) HU.out HLU.out (by assumption) (by assumption)).mono ?_); rintro e w2 ⟨rfl, hb2⟩; exact ⟨rfl, wide_next hb2⟩))))
  refine wpQuiet_nil ?_
  rintro w4 ⟨x4, rfl⟩
  go_wp2_with fail
  go_ret
  exact ⟨ret_bool (by rw [F2.out]), below_wide _ _⟩
set_option maxRecDepth 20000 in
set_option maxHeartbeats 1000000 in
theorem renOut_pred (m : Nat) (ln lu ps : List Nat) (a au ap : Option Addr) (len cap lenu capu capp bn bt bu : Nat) (w : World) (hn : w.cell? ⟨bn, 0, none⟩ = some (.slice ap m capp)) (ht0 : w.cell? ⟨bt, 0, none⟩ = some (.int .i64 m)) (ht1 : w.cell? ⟨bt, 1, none⟩ = some (.slice a len cap))
    (hu0 : w.cell? ⟨bu, 0, none⟩ = some (.int .i64 m)) (hu1 : w.cell? ⟨bu, 1, none⟩ = some (.slice au lenu capu)) (hl : NatsIn w a ln) (hu : NatsIn w au lu) (hp : NatsIn w ap ps) (hT : Tb m ln) (hU : Tb m lu) (hlen : len = m * m) (hlenu : lenu = m * m)
    (hps : ps.length = m) (hlt : ∀ y ∈ ps, y < m) :
    PredEl w.heap.size 98 #[.pointer (some ⟨bt, 0, none⟩), .pointer (some ⟨bn, 0, none⟩), .pointer (some ⟨bu, 0, none⟩)] (carR m ln lu ps) m w := by
  intro i hi W hW
  have hm := hT.hi
  have k0 : W.cell? ⟨bt, 0, none⟩ = some (.int .i64 m) := by rw [hW.cell (World.block_lt_of_cell? w _ ht0)]; exact ht0
  have k1 : W.cell? ⟨bt, 1, none⟩ = some (.slice a len cap) := by rw [hW.cell (World.block_lt_of_cell? w _ ht1)]; exact ht1
  have hb0 : bt < W.heap.size := World.block_lt_of_cell? W _ k0
  have hb : ∀ W2, Below W.heap.size W W2 → ∀ ad v, w.cell? ad = some v → W2.cell? ad = some v := fun W2 h2 ad v hv => by
    have h3 := hW.trans (h2.mono hW.size)
    rw [h3.cell (World.block_lt_of_cell? w _ hv)]; exact hv
  have HP : Hid (∀ (bi : Nat) (W2 : World), Below W.heap.size W W2 → W2.cell? ⟨bi, 0, none⟩ = some (.int .i64 (i : Nat)) → PredEl W2.heap.size 99 #[.pointer (some ⟨bn, 0, none⟩), .pointer (some ⟨bt, 0, none⟩), .pointer (some ⟨bi, 0, none⟩), .pointer (some ⟨bu, 0, none⟩)] (carP m ln lu ps i) m W2) := Lib.hid (fun bi W2 h2 hbi =>
    renIn_pred m ln lu ps a au ap len cap lenu capu capp bn bt bi bu i W2 (hb _ h2 _ _ hn) (hb _ h2 _ _ ht0) (hb _ h2 _ _ ht1) hbi (hb _ h2 _ _ hu0) (hb _ h2 _ _ hu1) ((hl.later hW).later h2) ((hu.later hW).later h2) ((hp.later hW).later h2) hT hU hlen hlenu hps hlt hi)
  have HB : Hid (carR m ln lu ps i = (List.range m).all (carP m ln lu ps i)) := Lib.hid rfl
  clear hn ht0 ht1 hu0 hu1 hl hu hp hT hU hlen hlenu hps hlt hb hW
  go_enter Try.func98, Try.ntmps98
  go_wp2_with fail
  have hbel : Below W.heap.size W (W.alloc (.cells #[.int .i64 (i : Nat)] 3)) := (Below.refl _ _).alloc (Nat.le_refl _) _
  have hp := HP.out W.heap.size (W.alloc (.cells #[.int .i64 (i : Nat)] 3)) hbel (by simp)
  refine (all_any _ _ _ (carP m ln lu ps i) m a len cap _ (by omega) hp (Nat.le_refl _) (enters_of Try.func99 (by kernel_rfl) rfl)).mono ?_
  rintro e w2 ⟨rfl, hb2⟩
  have hbel2 := Below.now hbel hb2
  clear hp hb2 hbel
  generalize (List.range m).all (carP m ln lu ps i) = q at *
  go_wp2_with fail
  go_ret
  exact ⟨ret_bool (by rw [HB.out]), hbel2⟩
end Go.Proofs.Ytkkffaiacipibaa
