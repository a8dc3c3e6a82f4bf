/-
  The least subgroup: the walks.
-/
import Derived.Test.YtkkffaiacipibaaConjOf
import Derived.Test.YtkkffaiacipibaaAppM
namespace Go.Proofs.Ytkkffaiacipibaa
open Go.RowKit
set_option linter.unusedVariables false
def ivs (q : List Nat) : List Value := intVals (q.map Int.ofNat)
theorem ivs_app (q : List Nat) (y : Nat) : ivs (q ++ [y]) = ivs q ++ [.int .i64 (y : Nat)] := by simp [ivs, intVals]
theorem ivs_len (q : List Nat) : (ivs q).length = q.length := by simp [ivs, intVals]
theorem ivs_get {q : List Nat} {p : Nat} (h : p < q.length) : (ivs q)[p]? = some (.int .i64 ((q.getD p 0 : Nat) : Int)) := by simp [ivs, intVals, h]
theorem mem_ofNat (q : List Nat) (y : Nat) : ((y : Nat) : Int) ∈ q.map Int.ofNat ↔ y ∈ q := by
  rw [List.mem_map]
  exact ⟨fun ⟨a, ha, e⟩ => by rwa [show a = y from Int.ofNat.inj e] at ha, fun h => ⟨y, h, rfl⟩⟩
theorem cont_ivs (q : List Nat) (y : Nat) : (q.map Int.ofNat).contains ((y : Nat) : Int) = q.contains y := by
  rw [Bool.eq_iff_iff, List.contains_iff_mem, List.contains_iff_mem]; exact mem_ofNat q y
theorem owns_some {w : World} {base n : Nat} {T : TypeId} {v : Value} {xs : List Value} (h : w.ownsRow base T 1 v n xs) (hn : 0 < n) : ∃ g cap, v = .slice (some ⟨g, 0, none⟩) n cap := by
  rcases h.2 with ⟨_, h0⟩ | ⟨g, cap, cur, hv, _⟩
  · omega
  · exact ⟨g, cap, hv⟩
theorem nats_cell {w : World} {a : Option Addr} {z : List Nat} (h : NatsIn w a z) {j : Nat} (hj : j < z.length) : ∃ b off, a = some ⟨b, off, none⟩ ∧ ∀ W, Below w.heap.size w W → W.cell? ⟨b, off + j, none⟩ = some (.int .i64 ((z[j] : Nat) : Int)) := by
  obtain ⟨b, off, ha, hb, hc⟩ := IntsIn.cell h (i := j) (by simpa using hj)
  refine ⟨b, off, ha, fun W hW => ?_⟩
  rw [hW.cell hb, hc j (by simpa using hj), nthZ_lt (by simpa using hj)]
  simp
/-- the elements of the least subgroup, in ascending order -/
def inSub (m : Nat) (ln z : List Nat) (j : Nat) : Bool := (subQ m ln z).contains j
def subL (m : Nat) (ln z : List Nat) : List Int := listTo (inSub m ln z) m
theorem sub_coll {m : Nat} {ln z : List Nat} (hT : Tb m ln) (hz : ∀ x ∈ z, x < m) : collL ((subQ m ln z).map Int.ofNat) = subL m ln z := by
  refine collL_eq (fun x hx => ?_) (fun j hj => by rw [inSub, List.contains_iff_mem]; exact (mem_ofNat _ _).symm)
  obtain ⟨y, hy, rfl⟩ := List.mem_map.1 hx
  exact ⟨y, rfl, ((subQ_mem hT hz y).1 hy).lt hT hz⟩
set_option maxRecDepth 100000 in
set_option maxHeartbeats 2000000 in
theorem subgroup_any (m : Nat) (ln : List Nat) (a : Option Addr) (len cap : Nat) (z : List Nat) (az : Option Addr) (cz : Nat) (w : World) (hl : NatsIn w a ln) (hT : Tb m ln) (hlen : len = m * m) (hz : NatsIn w az z) (hzm : ∀ x ∈ z, x < m) (hzl : z.length ≤ 2 ^ 47) :
    Calls Try.prog 82 #[.agg #[.int .i64 m, .slice a len cap], .slice az z.length cz] w (RetSl 3 1 (subL m ln z).length (intVals (subL m ln z)) w) := by
  have hm := hT.hi
  have hm0 := hT.lo
  have HT := Lib.hid hT
  have HL := Lib.hid hlen
  have HN := Lib.hid hl
  have HZ := Lib.hid hz
  have HM := Lib.hid hzm
  clear hl hT hlen hz hzm
  go_enter Try.func82, Try.ntmps82
  go_wp2_with fail
  obtain ⟨w0, hw0⟩ : ∃ w0, w0 = w.alloc (.cells #[.int .i64 (m : Nat), .slice a len cap] 27) := ⟨_, rfl⟩
  have hb1 : Below w.heap.size w w0 := by rw [hw0]; exact (Below.refl _ _).alloc (Nat.le_refl _) _
  have hx0 : ∀ W, Below w0.heap.size w0 W → W.cell? ⟨w.heap.size, 0, none⟩ = some (.int .i64 (m : Nat)) := fun W hW => by rw [hW.cell (by rw [hw0]; simp), hw0]; simp
  have hx1 : ∀ W, Below w0.heap.size w0 W → W.cell? ⟨w.heap.size, 1, none⟩ = some (.slice a len cap) := fun W hW => by rw [hW.cell (by rw [hw0]; simp), hw0]; simp
  have HN1 : Hid (∀ W, Below w0.heap.size w0 W → NatsIn W a ln) := fun W hW => (HN.out.later hb1).later hW
  have HZ1 : Hid (∀ W, Below w0.heap.size w0 W → NatsIn W az z) := fun W hW => (HZ.out.later hb1).later hW
  have hsz0 : w0.heap.size = w.heap.size + 1 := by rw [hw0]; simp
  have HS : Hid (Bld 3 1 w0 (w0.alloc (.cells #[.int .i64 0] 3)) (.slice (some ⟨w.heap.size + 1, 0, none⟩) 1 1) 1 (ivs [0])) := by
    rw [← hsz0]
    exact ⟨World.ownsRow_lit w0 #[.int .i64 0] 1 (Nat.le_refl _) (by unfold maxLen; omega) rfl, (Below.refl _ _).alloc (Nat.le_refl _) _⟩
  have HB := Lib.hid hb1
  have HA := Lib.hid (SubAt.begin z HT.out)
  rw [← hw0]
  clear hw0 hb1 HN HZ hsz0
  go_loopw [5, 6] (fun v i' wr => ∃ (p : Nat) (q : List Nat), i' = .int .i64 p ∧ Bld 3 1 w0 wr v q.length (ivs q) ∧ SubAt m ln z p q) (fun _ i' _ => m + 1 - (intOf i').toNat)
  case atStart => exact ⟨0, [0], rfl, HS.out, HA.out⟩
  case round =>
    clear HS HA
    obtain ⟨p, q, rfl, hb, hat⟩ := hrel
    have hql := hat.toSubInv.len
    have hpl := hat.le
    have hpos := hat.pos
    have HO := Lib.hid hb
    have HQ := Lib.hid hat
    clear hb hat
    by_cases hlt : p < q.length
    · obtain ⟨g, c, rfl⟩ := owns_some HO.out.1 hpos
      go_wp2_with fail
      have hO0 : Bld 3 1 w0 wr (.slice (some ⟨g, 0, none⟩) q.length c) q.length (ivs q) := HO.out
      clear HO
      go_loopw [5, 19] (fun v i' wr => ∃ j : Nat, j ≤ z.length ∧ i' = .int .i64 j ∧ Bld 3 1 w0 wr v (subTo m ln z q p j).length (ivs (subTo m ln z q p j))) (fun _ i' _ => z.length - (intOf i').toNat)
      case atStart => exact ⟨0, Nat.zero_le _, rfl, by rw [subTo_zero]; exact hO0⟩
      case round =>
        clear hO0
        obtain ⟨j, hj, rfl, hb⟩ := hrel
        obtain ⟨hinv, hpre⟩ := subTo_all HT.out HM.out HQ.out.toSubInv hlt j hj
        have hq2 := hinv.len
        have hpq := Nat.lt_of_lt_of_le hlt hpre.length_le
        have hbw := hb.2
        have HO := Lib.hid hb
        have HI := Lib.hid hinv
        have HP := Lib.hid hpre
        clear hb hinv hpre
        by_cases hlj : j < z.length
        · have HX := Lib.hid (subTo_succ (m := m) (ln := ln) (q := q) (p := p) hlj)
          have hzj : z[j] < m := HM.out _ (List.getElem_mem hlj)
          obtain ⟨bz, oz, hbz, hcz⟩ := nats_cell (HZ1.out _ hbw) hlj
          subst hbz
          have hcz2 : ∀ x, (wide wr x).cell? ⟨bz, oz + j, none⟩ = some (.int .i64 ((z[j] : Nat) : Int)) := wide_cell (hcz _ (Below.refl _ _))
          have hcz3 := hcz _ (Below.refl _ _)
          generalize hq' : subTo m ln z q p j = q' at *
          generalize hy : z[j] = y at *
          have HY := Lib.hid hy
          have HQ' := Lib.hid hq'
          have hqp := HI.out.at hpq
          obtain ⟨e0, he0⟩ : ∃ e0, e0 = q'.getD p 0 := ⟨_, rfl⟩
          rw [← he0] at hqp
          have HE0 := Lib.hid he0
          obtain ⟨g2, c2, rfl⟩ := owns_some HO.out.1 (by omega)
          have hcp : ∀ x, (wide wr x).cell? ⟨g2, p, none⟩ = some (.int .i64 ((e0 : Nat) : Int)) := wide_cell (by rw [World.ownsRow.cellAt HO.out.1 p (by omega), ivs_get hpq, he0])
          have hw0 : ∀ x, (wide wr x).cell? ⟨w.heap.size, 0, none⟩ = some (.int .i64 (m : Nat)) := wide_cell (hx0 _ hbw)
          have hw1 : ∀ x, (wide wr x).cell? ⟨w.heap.size, 1, none⟩ = some (.slice a len cap) := wide_cell (hx1 _ hbw)
          have HNw : Hid (∀ x, NatsIn (wide wr x) a ln) := fun x => (HN1.out _ hbw).later (below_wide _ _)
          clear hcz hy hq' he0
          go_wp2_with fail
          refine region_wide (by kernel_rfl) (by kernel_rfl) ?_
          repeat (quiet_step ((go_at_call 60; refine (implTimes_any m ln a _ _ _ _ _ (HNw.out _) HT.out HL.out (by assumption) (by assumption)).mono ?_; rintro e w2 ⟨rfl, hb2⟩; exact ⟨rfl, wide_next hb2⟩)))
          refine wpQuiet_nil ?_
          rintro w4 ⟨x4, rfl⟩
          have HO4 := Lib.hid (HO.out.later (below_wide wr x4))
          have hc4 : Hid (∀ i, i < (q'.map Int.ofNat).length → (wide wr x4).cell? ⟨g2, 0 + i, none⟩ = some (.int .i64 ((q'.map Int.ofNat).getD i 0))) := fun i hi => by
            rw [List.length_map] at hi
            rw [Nat.zero_add, World.ownsRow.cellAt HO4.out.1 i (by omega), ivs_get hi]
            simp [List.getD_eq_getElem?_getD, hi]
          have hC := Try.slices_Contains_int g2 0 q'.length c2 (q'.map Int.ofNat) ((tm m ln e0 y : Nat) : Int) (wide wr x4) (by simp) (by omega) hc4.out
          rw [List.take_of_length_le (by simp), cont_ivs] at hC
          have HC := Lib.hid hC
          generalize wide wr x4 = w4 at *
          have HXX : Hid (subTo m ln z q p (j + 1) = subOne m ln p q' y) := Lib.hid HX.out
          have hti := HT.out.tm_lt hqp hzj
          clear hcz2 hcz3 hcp hw0 hw1 HNw hc4 hC HX HO HI HP
          cases hcc : q'.contains (tm m ln e0 y)
          · have HF : Hid (subOne m ln p q' y = q' ++ [tm m ln e0 y]) := by unfold subOne; rw [← HE0.out, hcc]; rfl
            go_wp2_with fail
            refine HC.out.mono ?_
            rintro e w5 ⟨h5, rfl⟩
            rw [hcc] at h5
            subst h5
            go_wp2_with (at_builtin; refine wpList_app1 rfl _ _ rfl Try.underlying22 Try.infoInt rfl (by decide) rfl HO4.out rfl rfl ?c1 ?c2 ?c3 ?c4)
            case c1 => simp [Value.oneCell']
            case c2 => unfold maxLen; omega
            case c3 => omega
            intro v6 w6 hb6
            have F6 : Hid (Bld 3 1 w0 w6 v6 (subTo m ln z q p (j + 1)).length (ivs (subTo m ln z q p (j + 1)))) := by
              rw [HXX.out, HF.out, ivs_app, List.length_append]; exact hb6
            clear hb6
            go_wp2_with fail
            go_roundw
            case rel => exact ⟨j + 1, by omega, by go_num, F6.out⟩
            case measure => simp [intOf]; omega
          · have HF : Hid (subOne m ln p q' y = q') := by unfold subOne; rw [← HE0.out, hcc]; rfl
            go_wp2_with fail
            refine HC.out.mono ?_
            rintro e w5 ⟨h5, rfl⟩
            rw [hcc] at h5
            subst h5
            go_wp2_with fail
            go_roundw
            case rel => exact ⟨j + 1, by omega, by go_num, by rw [HXX.out, HF.out]; exact HO4.out⟩
            case measure => simp [intOf]; omega
        · obtain rfl : j = z.length := by omega
          have HQ2 := Lib.hid (HQ.out.next HT.out HM.out hlt)
          go_wp2_with fail
          go_roundw
          case rel => exact ⟨p + 1, _, by go_num, HO.out, HQ2.out⟩
          case measure => simp [intOf]; omega
    · have F := Lib.hid (HQ.out.stop hlt)
      have F1 : Hid (collL (q.map Int.ofNat) = subL m ln z) := by rw [F.out]; exact sub_coll HT.out HM.out
      obtain ⟨g, c, rfl⟩ := owns_some HO.out.1 hpos
      have HI : Hid (IntsIn wr (some ⟨g, 0, none⟩) (q.map Int.ofNat)) := owns_ints (l := q.map Int.ofNat) HO.out.1
      have hC := collected_any (q.map Int.ofNat) (some ⟨g, 0, none⟩) c wr HI.out (by simpa using hpos) (by simp; omega)
      rw [List.length_map, F1.out] at hC
      have HC := Lib.hid hC
      clear hC
      go_wp2_with fail
      refine HC.out.mono ?_
      rintro e w2 ⟨a2, c2, rfl, ho2, hb2⟩
      have F2 : Hid (RetSl 3 1 (subL m ln z).length (intVals (subL m ln z)) w (.returned (.slice a2 (subL m ln z).length c2)) w2) :=
        ⟨_, _, rfl, owns_mono ho2 (Nat.le_trans HB.out.size HO.out.2.size), Below.now HB.out (Below.now HO.out.2 hb2)⟩
      clear ho2 hb2
      go_wp2_with fail
      go_ret
      exact F2.out
end Go.Proofs.Ytkkffaiacipibaa
