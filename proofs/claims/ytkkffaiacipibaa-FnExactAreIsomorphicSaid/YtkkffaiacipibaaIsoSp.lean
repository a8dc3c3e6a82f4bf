/-
  Renamings of a table: the reference's test whether one carries the products.
-/
import Derived.Test.YtkkffaiacipibaaSubOf
import Derived.Laws.Alloc2
namespace Go.Proofs.Ytkkffaiacipibaa
open Go.RowKit
set_option linter.unusedVariables false
def nm (ps : List Nat) (i : Nat) : Nat := ps.getD i 0
/-- the renaming carries one product -/
def carP (m : Nat) (ln lu ps : List Nat) (i k : Nat) : Bool := nm ps (tm m ln i k) == tm m lu (nm ps i) (nm ps k)
def carR (m : Nat) (ln lu ps : List Nat) (i : Nat) : Bool := (List.range m).all (carP m ln lu ps i)
def carB (m : Nat) (ln lu ps : List Nat) : Bool := (List.range m).all (carR m ln lu ps)
theorem nm_lt {m : Nat} {ps : List Nat} (hps : ps.length = m) (hlt : ∀ y ∈ ps, y < m) {i : Nat} (hi : i < m) : nm ps i < m := by
  unfold nm
  rw [List.getD_eq_getElem?_getD, List.getElem?_eq_getElem (by omega)]
  exact hlt _ (List.getElem_mem (by omega))
theorem nm_cells {w : World} {a : Option Addr} {ps : List Nat} {m : Nat} (h : NatsIn w a ps) (hps : ps.length = m) (hm : 0 < m) :
    ∃ b off, a = some ⟨b, off, none⟩ ∧ ∀ W, Below w.heap.size w W → ∀ j, j < m → W.cell? ⟨b, off + j, none⟩ = some (.int .i64 ((nm ps j : Nat) : Int)) := by
  obtain ⟨b, off, ha, hb, hc⟩ := IntsIn.cell h (i := 0) (by simp; omega)
  refine ⟨b, off, ha, fun W hW j hj => ?_⟩
  rw [hW.cell hb, hc j (by simp; omega), nthZ_lt (by simp; omega)]
  simp [nm, List.getD_eq_getElem?_getD, List.getElem?_eq_getElem (show j < ps.length by omega)]
theorem isoLo (w : World) (o o' : Obj) : ((w.alloc o).alloc o').heap[w.heap.size]? = some o := by
  show ((w.heap.push o).push o')[w.heap.size]? = some o
  simp [Array.getElem?_push]
theorem isoHi (w : World) (o o' : Obj) : ((w.alloc o).alloc o').heap[w.heap.size + 1]? = some o' := by
  show ((w.heap.push o).push o')[w.heap.size + 1]? = some o'
  have h := Array.getElem?_push_size (xs := w.heap.push o) (x := o')
  rw [Array.size_push] at h
  exact h
set_option maxRecDepth 20000 in
set_option maxHeartbeats 2000000 in
theorem l13Carries_any (m : Nat) (ln lu ps : List Nat) (a au ap : Option Addr) (len cap lenu capu capp : Nat) (w : World) (hl : NatsIn w a ln) (hu : NatsIn w au lu) (hp : NatsIn w ap ps) (hT : Tb m ln) (hU : Tb m lu) (hlen : len = m * m) (hlenu : lenu = m * m)
    (hps : ps.length = m) (hlt : ∀ y ∈ ps, y < m) :
    Calls Try.prog 96 #[.agg #[.int .i64 m, .slice a len cap], .agg #[.int .i64 m, .slice au lenu capu], .slice ap m capp] w fun e w' => e = .returned (.bool (carB m ln lu ps)) ∧ Below w.heap.size w w' := by
  have hpos := hT.lo
  have hm := hT.hi
  have HN := Lib.hid (fun i (hi : i < m) => nm_lt hps hlt hi)
  obtain ⟨bp, op, rfl, hc⟩ := nm_cells hp hps hpos
  have HT := Lib.hid hT
  have HU := Lib.hid hU
  have HL := Lib.hid hlen
  have HLU := Lib.hid hlenu
  have HC := Lib.hid hc
  have HA := Lib.hid hl
  have HB := Lib.hid hu
  clear hT hU hlen hlenu hc hl hu hp hps hlt
  go_enter Try.func96, Try.ntmps96
  go_wp2_with fail
  have B0 : Hid (Below w.heap.size w ((w.alloc (.cells #[.int .i64 m, .slice a len cap] 27)).alloc (.cells #[.int .i64 m, .slice au lenu capu] 27))) := Lib.hid (((Below.refl _ _).alloc (Nat.le_refl _) _).alloc (by simp) _)
  have X1 := isoLo w (.cells #[.int .i64 m, .slice a len cap] 27) (.cells #[.int .i64 m, .slice au lenu capu] 27)
  have X2 := isoHi w (.cells #[.int .i64 m, .slice a len cap] 27) (.cells #[.int .i64 m, .slice au lenu capu] 27)
  have hs2 : ((w.alloc (.cells #[.int .i64 m, .slice a len cap] 27)).alloc (.cells #[.int .i64 m, .slice au lenu capu] 27)).heap.size = w.heap.size + 2 := by simp
  generalize ((w.alloc (.cells #[.int .i64 m, .slice a len cap] 27)).alloc (.cells #[.int .i64 m, .slice au lenu capu] 27)) = W0 at *
  have K1 : Hid (∀ W, Below W0.heap.size W0 W → W.cell? ⟨w.heap.size, 0, none⟩ = some (.int .i64 m) ∧ W.cell? ⟨w.heap.size, 1, none⟩ = some (.slice a len cap) ∧ W.cell? ⟨w.heap.size + 1, 0, none⟩ = some (.int .i64 m) ∧ W.cell? ⟨w.heap.size + 1, 1, none⟩ = some (.slice au lenu capu)) := Lib.hid (fun W hW => by
    have e1 := (hW.block w.heap.size (by omega)).trans X1
    have e2 := (hW.block (w.heap.size + 1) (by omega)).trans X2
    refine ⟨by simp [World.cell?, e1], by simp [World.cell?, e1], by simp [World.cell?, e2], by simp [World.cell?, e2]⟩)
  clear X1 X2 hs2
  go_loopw [11] (fun i wr => ∃ c : Nat, c ≤ m ∧ i = .int .i64 c ∧ Below W0.heap.size W0 wr ∧ Hid (∀ x, x < c → carR m ln lu ps x = true)) (fun i _ => m - (intOf i).toNat)
  case atStart => exact ⟨0, Nat.zero_le _, rfl, Below.refl _ _, Lib.hid (fun x hx => by omega)⟩
  case round =>
    obtain ⟨c, hcm, rfl, hbw, hall⟩ := hrel
    by_cases hci : c < m
    · go_wp2_with fail
      generalize hW : wr = wr0 at *
      clear hW
      go_loopw [16] (fun i wr => ∃ d : Nat, d ≤ m ∧ i = .int .i64 d ∧ Below W0.heap.size W0 wr ∧ Hid (∀ x, x < d → carP m ln lu ps c x = true)) (fun i _ => m - (intOf i).toNat)
      case atStart => exact ⟨0, Nat.zero_le _, rfl, hbw, Lib.hid (fun x hx => by omega)⟩
      case round =>
        clear hbw
        obtain ⟨d, hdm, rfl, hbw, hin⟩ := hrel
        by_cases hdi : d < m
        · have hbW := Below.now B0.out hbw
          have hti := HT.out.tm_lt hci hdi
          have hni := HN.out c hci
          have hnk := HN.out d hdi
          have q1 : ∀ x, (wide wr x).cell? ⟨bp, op + tm m ln c d, none⟩ = some (.int .i64 ((nm ps (tm m ln c d) : Nat) : Int)) := wide_cell (HC.out _ hbW _ hti)
          have q2 : ∀ x, (wide wr x).cell? ⟨bp, op + c, none⟩ = some (.int .i64 ((nm ps c : Nat) : Int)) := wide_cell (HC.out _ hbW _ hci)
          have q3 : ∀ x, (wide wr x).cell? ⟨bp, op + d, none⟩ = some (.int .i64 ((nm ps d : Nat) : Int)) := wide_cell (HC.out _ hbW _ hdi)
          have p1 : ∀ x, (wide wr x).cell? ⟨w.heap.size, 0, none⟩ = some (.int .i64 m) := wide_cell (K1.out _ hbw).1
          have p2 : ∀ x, (wide wr x).cell? ⟨w.heap.size, 1, none⟩ = some (.slice a len cap) := wide_cell (K1.out _ hbw).2.1
          have p3 : ∀ x, (wide wr x).cell? ⟨w.heap.size + 1, 0, none⟩ = some (.int .i64 m) := wide_cell (K1.out _ hbw).2.2.1
          have p4 : ∀ x, (wide wr x).cell? ⟨w.heap.size + 1, 1, none⟩ = some (.slice au lenu capu) := wide_cell (K1.out _ hbw).2.2.2
          have N1 : Hid (∀ x, NatsIn (wide wr x) a ln) := Lib.hid (fun x => (HA.out.later hbW).later (below_wide _ _))
          have N2 : Hid (∀ x, NatsIn (wide wr x) au lu) := Lib.hid (fun x => (HB.out.later hbW).later (below_wide _ _))
          have HP : Hid (carP m ln lu ps c d = (nm ps (tm m ln c d) == tm m lu (nm ps c) (nm ps d))) := Lib.hid rfl
          clear hbW
          generalize nm ps c = ei at *
          generalize nm ps d = ek at *
          generalize nm ps (tm m ln c d) = et at *
          by_cases hq : et = tm m lu ei ek
          · go_wp2_with fail
            refine region_wide (by kernel_rfl) (by kernel_rfl) ?_
            repeat (quiet_step ((first
              | (go_at_call 55; (with_reducible refine (specTimes_any m ln a _ _ _ _ _ (N1.out _) HT.out HL.out (by assumption) (by assumption)).mono ?_); rintro e w2 ⟨rfl, hb2⟩; exact ⟨rfl, wide_next hb2⟩)
              | (go_at_call 55; (with_reducible refine (specTimes_any m lu au _ _ _ _ _ (N2.out _) HU.out HLU.out (by assumption) (by assumption)).mono ?_); rintro e w2 ⟨rfl, hb2⟩; exact ⟨rfl, wide_next hb2⟩))))
            refine wpQuiet_nil ?_
            rintro w4 ⟨x4, rfl⟩
            have hb4 := Below.now hbw (below_wide wr x4)
            clear q1 q2 q3 p1 p2 p3 p4 N1 N2 hbw
            go_wp2_with fail
            go_roundw
            case rel => exact ⟨d + 1, by omega, by go_num, hb4, Lib.hid (fun x hx => by
              by_cases hxd : x = d
              · rw [hxd, HP.out, hq]; simp
              · exact hin.out x (by omega))⟩
            case measure => simp [intOf]; omega
          · have hqi : ¬ ((et : Nat) : Int) = ((tm m lu ei ek : Nat) : Int) := fun h => hq (by exact_mod_cast h)
            go_wp2_with fail
            refine region_wide (by kernel_rfl) (by kernel_rfl) ?_
            repeat (quiet_step ((first
              | (go_at_call 55; (with_reducible refine (specTimes_any m ln a _ _ _ _ _ (N1.out _) HT.out HL.out (by assumption) (by assumption)).mono ?_); rintro e w2 ⟨rfl, hb2⟩; exact ⟨rfl, wide_next hb2⟩)
              | (go_at_call 55; (with_reducible refine (specTimes_any m lu au _ _ _ _ _ (N2.out _) HU.out HLU.out (by assumption) (by assumption)).mono ?_); rintro e w2 ⟨rfl, hb2⟩; exact ⟨rfl, wide_next hb2⟩))))
            refine wpQuiet_nil ?_
            rintro w4 ⟨x4, rfl⟩
            have hb4 := Below.now hbw (below_wide wr x4)
            have F : Hid (carB m ln lu ps = false) := Lib.hid (all_range_false hci (all_range_false hdi (by rw [HP.out]; simpa using hq)))
            clear q1 q2 q3 p1 p2 p3 p4 N1 N2 hbw
            go_wp2_with fail
            go_ret
            exact ⟨by rw [F.out]; rfl, Below.now B0.out hb4⟩
        · obtain rfl : d = m := by omega
          go_wp2_with fail
          go_roundw
          case rel => exact ⟨c + 1, by omega, by go_num, hbw, Lib.hid (fun x hx => by
            by_cases hxd : x = c
            · rw [hxd]; exact all_range.2 hin.out
            · exact hall.out x (by omega))⟩
          case measure => simp [intOf]; omega
    · obtain rfl : c = m := by omega
      have F : Hid (carB c ln lu ps = true) := Lib.hid (all_range.2 hall.out)
      go_wp2_with fail
      go_ret
      exact ⟨by rw [F.out]; rfl, Below.now B0.out hbw⟩
end Go.Proofs.Ytkkffaiacipibaa
