/-
  The reference's least subgroup.
-/
import Derived.Test.YtkkffaiacipibaaSubOf
import Derived.Laws.Alloc2
namespace Go.Proofs.Ytkkffaiacipibaa
open Go.RowKit
set_option linter.unusedVariables false
/-- the queue, and which elements are in it -/
def SubSt (w0 wr : World) (g m : Nat) (v : Value) (q : List Nat) : Prop :=
  Bld 3 1 w0 wr v q.length (ivs q) ∧ BoolRow 4 wr w0.heap.size g m (fun j => q.contains j) ∧ v.ownBlock ≠ some g
theorem SubSt.later {w0 wr wr' : World} {g m : Nat} {v : Value} {q : List Nat} (h : SubSt w0 wr g m v q) (hb : Below wr.heap.size wr wr') : SubSt w0 wr' g m v q := ⟨h.1.later hb, h.2.1.later hb, h.2.2⟩
theorem below_of_grown {w wr wr' : World} {own : Option Nat} (h : Below w.heap.size w wr) (hg : wr.grownBy wr' own) (ho : ∀ k, own = some k → w.heap.size ≤ k) : Below w.heap.size w wr' := h.grown hg h.size ho
theorem SubSt.put {w0 wr : World} {g m : Nat} {v : Value} {q : List Nat} {y : Nat} (h : SubSt w0 wr g m v q) :
    Bld 3 1 w0 ((wr.setCell ⟨g, y, none⟩ (.bool true)).alloc (.cells #[.int .i64 (y : Nat)] 3)) v q.length (ivs q) ∧
    Src ((wr.setCell ⟨g, y, none⟩ (.bool true)).alloc (.cells #[.int .i64 (y : Nat)] 3)) (.slice (some ⟨wr.heap.size, 0, none⟩) 1 1) 1 [.int .i64 (y : Nat)] ∧
    ∀ v' w', Bld 3 1 w0 w' v' (q.length + 1) (ivs q ++ [.int .i64 (y : Nat)]) → ((wr.setCell ⟨g, y, none⟩ (.bool true)).alloc (.cells #[.int .i64 (y : Nat)] 3)).grownBy w' v.ownBlock →
      (v'.ownBlock = v.ownBlock ∨ v'.ownBlock = some ((wr.setCell ⟨g, y, none⟩ (.bool true)).alloc (.cells #[.int .i64 (y : Nat)] 3)).heap.size) → SubSt w0 w' g m v' (q ++ [y]) := by
  obtain ⟨hb, hr, hne⟩ := h
  have hst := hr.store y true
  have hgr : wr.grownBy (wr.setCell ⟨g, y, none⟩ (.bool true)) (some g) := (World.ownsRow.stored hr y (.bool true)).2
  have hg0 := hr.range
  have hb1 : Bld 3 1 w0 (wr.setCell ⟨g, y, none⟩ (.bool true)) v q.length (ivs q) :=
    ⟨hb.1.kept hgr (.inr hne), below_of_grown hb.2 hgr (fun k hk => by obtain rfl := Option.some.inj hk; exact hg0.1)⟩
  have hsz : (wr.setCell ⟨g, y, none⟩ (.bool true)).heap.size = wr.heap.size := by simp
  have hal : Below (wr.setCell ⟨g, y, none⟩ (.bool true)).heap.size (wr.setCell ⟨g, y, none⟩ (.bool true)) ((wr.setCell ⟨g, y, none⟩ (.bool true)).alloc (.cells #[.int .i64 (y : Nat)] 3)) := (Below.refl _ _).alloc (Nat.le_refl _) _
  refine ⟨hb1.later hal, ?_, fun v' w' hb' hg' ho' => ⟨?_, ?_, ?_⟩⟩
  · have := Src.lit (w := wr.setCell ⟨g, y, none⟩ (.bool true)) (T := 3) (c := 1) (m := 1) [.int .i64 (y : Nat)]
    rw [hsz] at this
    exact this
  · rw [List.length_append, ivs_app]; exact hb'
  · have h1 := hst.later hal
    have h2 : BoolRow 4 w' w0.heap.size g m _ := World.ownsRow.kept h1 hg' (.inr fun e => hne e.symm)
    refine h2.congr fun j _ => ?_
    by_cases e : j = y
    · subst e; simp
    · rw [if_neg e, Bool.eq_iff_iff]; simp [e]
  · rcases ho' with e | e
    · rw [e]; exact hne
    · rw [e]
      intro h3
      have h4 := Option.some.inj h3
      simp at h4
      omega
theorem SubSt.start (w0 : World) (m : Nat) (hm : 1 ≤ m) (hm1 : m ≤ 40) :
    SubSt w0 (((w0.alloc (.cells (madeCells #[.bool false] m) 4)).setCell ⟨w0.heap.size, 0, none⟩ (.bool true)).alloc (.cells #[.int .i64 0] 3)) w0.heap.size m (.slice (some ⟨w0.heap.size + 1, 0, none⟩) 1 1) [0] := by
  have hrow := BoolRow.start w0 4 (madeCells #[.bool false] m) m (made_bools m) (by unfold maxLen; omega)
  have hst := hrow.store 0 true
  have hgr : (w0.alloc (.cells (madeCells #[.bool false] m) 4)).grownBy ((w0.alloc (.cells (madeCells #[.bool false] m) 4)).setCell ⟨w0.heap.size, 0, none⟩ (.bool true)) (some w0.heap.size) := (World.ownsRow.stored hrow 0 (.bool true)).2
  have hbl : Below w0.heap.size w0 ((w0.alloc (.cells (madeCells #[.bool false] m) 4)).setCell ⟨w0.heap.size, 0, none⟩ (.bool true)) :=
    below_of_grown ((Below.refl _ _).alloc (Nat.le_refl _) _) hgr (fun k hk => by obtain rfl := Option.some.inj hk; exact Nat.le_refl _)
  have hsz : ((w0.alloc (.cells (madeCells #[.bool false] m) 4)).setCell ⟨w0.heap.size, 0, none⟩ (.bool true)).heap.size = w0.heap.size + 1 := by simp
  generalize ((w0.alloc (.cells (madeCells #[.bool false] m) 4)).setCell ⟨w0.heap.size, 0, none⟩ (.bool true)) = w1 at *
  have hal : Below w1.heap.size w1 (w1.alloc (.cells #[.int .i64 0] 3)) := (Below.refl _ _).alloc (Nat.le_refl _) _
  refine ⟨⟨?_, Below.now hbl hal⟩, (hst.later hal).congr fun j _ => ?_, ?_⟩
  · rw [← hsz]
    exact owns_mono (World.ownsRow_lit w1 #[.int .i64 0] 1 (Nat.le_refl _) (by unfold maxLen; omega) rfl) (by omega)
  · by_cases e : j = 0
    · subst e; simp
    · rw [if_neg e]; simp [e]
  · simp [Value.ownBlock]
/-- what a call hands back that makes a row of bools -/
def RetBools (m : Nat) (f : Nat → Bool) (w : World) (e : Ending) (w' : World) : Prop :=
  ∃ g, e = .returned (.slice (some ⟨g, 0, none⟩) m m) ∧ BoolRow 4 w' w.heap.size g m f ∧ Below w.heap.size w w'
set_option maxRecDepth 100000 in
set_option maxHeartbeats 2000000 in
theorem l10Sub_any (m : Nat) (ln : List Nat) (a : Option Addr) (len cap : Nat) (z : List Nat) (az : Option Addr) (cz : Nat) (w : World) (hl : NatsIn w a ln) (hT : Tb m ln) (hlen : len = m * m) (hz : NatsIn w az z) (hzm : ∀ x ∈ z, x < m) (hzl : z.length ≤ 2 ^ 47) :
    Calls Try.prog 80 #[.agg #[.int .i64 m, .slice a len cap], .slice az z.length cz] w (RetBools m (inSub m ln z) w) := by
  have hm := hT.hi
  have hm0 := hT.lo
  have HT := Lib.hid hT
  have HL := Lib.hid hlen
  have HN := Lib.hid hl
  have HZ := Lib.hid hz
  have HM := Lib.hid hzm
  clear hl hT hlen hz hzm
  have hmk := run_make_row' (P := Try.prog) 51 4 (.bool false) 1 Try.underlying51 Try.infoBool rfl .i64 .i64 m (by omega) (by omega)
  have hr0 := BoolRow.start (w.alloc (.cells #[.int .i64 (m : Nat), .slice a len cap] 27)) 4 (madeCells #[.bool false] m) m (made_bools m) (by unfold maxLen; omega)
  have hcell0 := hr0.cell (j := 0) (by omega)
  have hfr0 := hr0.frozen 0
  have hsz0 : (w.alloc (.cells #[.int .i64 (m : Nat), .slice a len cap] 27)).heap.size = w.heap.size + 1 := by simp
  rw [hsz0] at hcell0 hfr0
  clear hr0 hsz0
  go_enter Try.func80, Try.ntmps80
  go_wp2_with fail
  clear hcell0 hfr0 hmk
  obtain ⟨w0, hw0⟩ : ∃ w0, w0 = w.alloc (.cells #[.int .i64 (m : Nat), .slice a len cap] 27) := ⟨_, rfl⟩
  have hb1 : Below w.heap.size w w0 := by rw [hw0]; exact (Below.refl _ _).alloc (Nat.le_refl _) _
  have hx0 : ∀ W, Below w0.heap.size w0 W → W.cell? ⟨w.heap.size, 0, none⟩ = some (.int .i64 (m : Nat)) := fun W hW => by rw [hW.cell (by rw [hw0]; simp), hw0]; simp
  have hx1 : ∀ W, Below w0.heap.size w0 W → W.cell? ⟨w.heap.size, 1, none⟩ = some (.slice a len cap) := fun W hW => by rw [hW.cell (by rw [hw0]; simp), hw0]; simp
  have HN1 : Hid (∀ W, Below w0.heap.size w0 W → NatsIn W a ln) := fun W hW => (HN.out.later hb1).later hW
  have HZ1 : Hid (∀ W, Below w0.heap.size w0 W → NatsIn W az z) := fun W hW => (HZ.out.later hb1).later hW
  have hsz0 : w0.heap.size = w.heap.size + 1 := by rw [hw0]; simp
  have hS0 := SubSt.start w0 m hm0 hm
  rw [World.setCell_alloc_new] at hS0
  have HB := Lib.hid hb1
  have HA := Lib.hid (SubAt.begin z HT.out)
  rw [← hw0]
  clear hw0 hb1 HN HZ
  obtain ⟨g, hg⟩ : ∃ g, g = w.heap.size + 1 := ⟨_, rfl⟩
  rw [hsz0, ← hg] at hS0
  rw [← hg]
  have HS := Lib.hid hS0
  clear hS0 hsz0 hg
  go_loopw [6, 7] (fun v i' wr => ∃ (p : Nat) (q : List Nat), i' = .int .i64 p ∧ SubSt w0 wr g m v q ∧ SubAt m ln z p q) (fun _ i' _ => m + 1 - (intOf i').toNat)
  case atStart => exact ⟨0, [0], rfl, HS.out, HA.out⟩
  case round =>
    clear HS HA
    obtain ⟨p, q, rfl, hb, hat⟩ := hrel
    have hql := hat.toSubInv.len
    have hpl := hat.le
    have hpos := hat.pos
    have HO := Lib.hid hb
    have HQ := Lib.hid hat
    clear hb hat
    by_cases hlt : p < q.length
    · obtain ⟨g1, c, rfl⟩ := owns_some HO.out.1.1 hpos
      go_wp2_with fail
      have hO0 : SubSt w0 wr g m (.slice (some ⟨g1, 0, none⟩) q.length c) q := HO.out
      clear HO
      go_loopw [6, 25] (fun v i' wr => ∃ j : Nat, j ≤ z.length ∧ i' = .int .i64 j ∧ SubSt w0 wr g m v (subTo m ln z q p j)) (fun _ i' _ => z.length - (intOf i').toNat)
      case atStart => exact ⟨0, Nat.zero_le _, rfl, by rw [subTo_zero]; exact hO0⟩
      case round =>
        clear hO0
        obtain ⟨j, hj, rfl, hb⟩ := hrel
        obtain ⟨hinv, hpre⟩ := subTo_all HT.out HM.out HQ.out.toSubInv hlt j hj
        have hq2 := hinv.len
        have hpq := Nat.lt_of_lt_of_le hlt hpre.length_le
        have hbw := hb.1.2
        have HO := Lib.hid hb
        have HI := Lib.hid hinv
        clear hb hinv hpre
        by_cases hlj : j < z.length
        · have HX := Lib.hid (subTo_succ (m := m) (ln := ln) (q := q) (p := p) hlj)
          have hzj : z[j] < m := HM.out _ (List.getElem_mem hlj)
          obtain ⟨bz, oz, hbz, hcz⟩ := nats_cell (HZ1.out _ hbw) hlj
          subst hbz
          have hcz2 : ∀ x, (wide wr x).cell? ⟨bz, oz + j, none⟩ = some (.int .i64 ((z[j] : Nat) : Int)) := wide_cell (hcz _ (Below.refl _ _))
          have hcz3 := hcz _ (Below.refl _ _)
          generalize hq' : subTo m ln z q p j = q' at *
          generalize hy : z[j] = y at *
          have hqp := HI.out.at hpq
          obtain ⟨e0, he0⟩ : ∃ e0, e0 = q'.getD p 0 := ⟨_, rfl⟩
          rw [← he0] at hqp
          have HE0 := Lib.hid he0
          obtain ⟨g2, c2, rfl⟩ := owns_some HO.out.1.1 (by omega)
          have hcp : ∀ x, (wide wr x).cell? ⟨g2, p, none⟩ = some (.int .i64 ((e0 : Nat) : Int)) := wide_cell (by rw [World.ownsRow.cellAt HO.out.1.1 p (by omega), ivs_get hpq, he0])
          have hw0 : ∀ x, (wide wr x).cell? ⟨w.heap.size, 0, none⟩ = some (.int .i64 (m : Nat)) := wide_cell (hx0 _ hbw)
          have hw1 : ∀ x, (wide wr x).cell? ⟨w.heap.size, 1, none⟩ = some (.slice a len cap) := wide_cell (hx1 _ hbw)
          have HNw : Hid (∀ x, NatsIn (wide wr x) a ln) := fun x => (HN1.out _ hbw).later (below_wide _ _)
          clear hcz hy hq' he0
          go_wp2_with fail
          refine region_wide (by kernel_rfl) (by kernel_rfl) ?_
          repeat (quiet_step ((go_at_call 55; refine (specTimes_any m ln a _ _ _ _ _ (HNw.out _) HT.out HL.out (by assumption) (by assumption)).mono ?_; rintro e w2 ⟨rfl, hb2⟩; exact ⟨rfl, wide_next hb2⟩)))
          refine wpQuiet_nil ?_
          rintro w4 ⟨x4, rfl⟩
          have HO4 := Lib.hid (HO.out.later (below_wide wr x4))
          generalize wide wr x4 = w4 at *
          have HXX : Hid (subTo m ln z q p (j + 1) = subOne m ln p q' y) := Lib.hid HX.out
          have hti := HT.out.tm_lt hqp hzj
          have hcell := HO4.out.2.1.cell hti
          have hfr := HO4.out.2.1.frozen (tm m ln e0 y)
          clear hcz2 hcz3 hcp hw0 hw1 HNw HX HO HI
          cases hcc : q'.contains (tm m ln e0 y)
          · have HF : Hid (subOne m ln p q' y = q' ++ [tm m ln e0 y]) := by unfold subOne; rw [← HE0.out, hcc]; rfl
            rw [hcc] at hcell
            obtain ⟨p1, p2, p3⟩ := HO4.out.put (y := tm m ln e0 y)
            have P1 := Lib.hid p1
            have P2 := Lib.hid p2
            have P3 := Lib.hid p3
            clear p1 p2 p3
            go_wp2_with (at_builtin; refine wpList_appM rfl (.tmp 44) (.tmp 46) rfl Try.underlying22 Try.infoInt rfl (by decide) rfl P1.out rfl P2.out (by rfl) ?c1 ?c2 ?c3 ?c4)
            case c1 => simp [Value.oneCell']
            case c2 => unfold maxLen; omega
            case c3 => omega
            intro v6 w6 hb6 hg6 ho6
            have F6 : Hid (SubSt w0 w6 g m v6 (subTo m ln z q p (j + 1))) := by rw [HXX.out, HF.out]; exact P3.out v6 w6 hb6 hg6 (by simpa using ho6)
            clear hb6 hg6 ho6 hcell hfr P1 P2 P3
            go_wp2_with fail
            go_roundw
            case rel => exact ⟨j + 1, by omega, by go_num, F6.out⟩
            case measure => simp [intOf]; omega
          · have HF : Hid (subOne m ln p q' y = q') := by unfold subOne; rw [← HE0.out, hcc]; rfl
            rw [hcc] at hcell
            go_wp2_with fail
            go_roundw
            case rel => exact ⟨j + 1, by omega, by go_num, by rw [HXX.out, HF.out]; exact HO4.out⟩
            case measure => simp [intOf]; omega
        · obtain rfl : j = z.length := by omega
          have HQ2 := Lib.hid (HQ.out.next HT.out HM.out hlt)
          go_wp2_with fail
          go_roundw
          case rel => exact ⟨p + 1, _, by go_num, HO.out, HQ2.out⟩
          case measure => simp [intOf]; omega
    · have F := Lib.hid (HQ.out.stop hlt)
      have F2 : Hid (RetBools m (inSub m ln z) w (.returned (.slice (some ⟨g, 0, none⟩) m m)) wr) := by
        have h1 := HO.out.2.1
        rw [F.out] at h1
        exact ⟨g, rfl, h1.ge HB.out.size, Below.now HB.out HO.out.1.2⟩
      obtain ⟨g1, c, rfl⟩ := owns_some HO.out.1.1 hpos
      go_wp2_with fail
      go_ret
      exact F2.out
set_option maxHeartbeats 1000000 in
theorem specSubgroupOf_any (n : Int) (l : List Int) (a : Option Addr) (cap : Nat) (z : List Int) (az : Option Addr) (cz : Nat) (w : World) (hl : IntsIn w a l) (hlen : l.length ≤ 2 ^ 47) (hz : IntsIn w az z) (hzl : z.length ≤ 2 ^ 47) :
    Calls Try.prog 42 #[.agg #[.int .i64 n, .slice a l.length cap], .slice az z.length cz] w (RetSl 3 1 (subF n l z).length (intVals (subF n l z)) w) := by
  have HI := Lib.hid hl
  have HZ := Lib.hid hz
  clear hl hz
  cases hg : subOk n l z
  · have F : Hid (∀ w', Below w.heap.size w w' → RetSl 3 1 (subF n l z).length (intVals (subF n l z)) w (.returned (.slice none 0 0)) w') := fun w' hb => by
      rw [subF_not hg]; exact retSl_nil _ _ _ hb
    go_enter Try.func42, Try.ntmps42
    go_wp2_with fail
    refine (l10Ok_any n l a cap z az cz _ (HI.out.later ((Below.refl _ _).alloc (Nat.le_refl _) _)) hlen (HZ.out.later ((Below.refl _ _).alloc (Nat.le_refl _) _)) hzl).mono ?_
    rintro e w1 ⟨h2, hb1⟩
    rw [hg] at h2
    subst h2
    have hbel := Below.now ((Below.refl w.heap.size w).alloc (Nat.le_refl _) _) hb1
    clear hb1
    go_wp2_with fail
    go_ret
    exact F.out _ hbel
  · have HOK := Lib.hid hg
    obtain ⟨hgr, hr⟩ := subOk_out hg
    obtain ⟨m, ln, rfl, hlm, hG⟩ := groupB_out hgr
    obtain ⟨zn, hzn, hzm⟩ := rng_nats hr
    have F : Hid (subF (m : Nat) l z = subL m ln zn) := by
      have := HOK.out
      rw [hlm, hzn] at this ⊢
      exact subF_yes this
    have HG := Lib.hid hG
    have hm0 := hG.lo
    have hm1 := hG.hi
    have HLM := Lib.hid hlm
    have HLL : Hid (l.length = m * m) := Lib.hid (by rw [hlm, List.length_map]; exact hG.len)
    have HZN := Lib.hid hzn
    have HZM := Lib.hid hzm
    have HZL : Hid (z.length = zn.length) := Lib.hid (by rw [hzn, List.length_map])
    clear hgr hr hlm hG hzn hzm hg
    go_enter Try.func42, Try.ntmps42
    go_wp2_with fail
    refine (l10Ok_any _ l a cap z az cz _ (HI.out.later ((Below.refl _ _).alloc (Nat.le_refl _) _)) hlen (HZ.out.later ((Below.refl _ _).alloc (Nat.le_refl _) _)) hzl).mono ?_
    rintro e w1 ⟨h2, hb1⟩
    rw [HOK.out] at h2
    subst h2
    have x0 := box_later hb1 (i := 0) (v := .int .i64 (m : Nat)) rfl _ (Below.refl _ _)
    have x1 := box_later hb1 (i := 1) (v := .slice a l.length cap) rfl _ (Below.refl _ _)
    have hbel := Below.now ((Below.refl w.heap.size w).alloc (Nat.le_refl _) _) hb1
    clear hb1
    have hC := l10Sub_any m ln a l.length cap zn az cz w1 (by unfold NatsIn; rw [← HLM.out]; exact HI.out.later hbel) HG.out.toTb HLL.out (by unfold NatsIn; rw [← HZN.out]; exact HZ.out.later hbel) HZM.out (by rw [← HZL.out]; exact hzl)
    rw [← HZL.out] at hC
    have HC := Lib.hid hC
    have HBL := Lib.hid hbel
    clear hC hbel
    go_wp2_with fail
    refine HC.out.mono ?_
    rintro e w2 ⟨g, rfl, hr2, hb2⟩
    have HR2 := Lib.hid hr2
    have HB2 := Lib.hid (Below.now HBL.out hb2)
    clear hr2 hb2 x0 x1
    go_wp2_with fail
    refine (l09List_any m g _ _ _ HR2.out (by omega)).mono ?_
    rintro e w9 ⟨a9, c9, rfl, ho, hb9⟩
    have F9 : Hid (RetSl 3 1 (subF (m : Nat) l z).length (intVals (subF (m : Nat) l z)) w (.returned (.slice a9 (listTo (inSub m ln zn) m).length c9)) w9) := by
      rw [F.out]; exact ⟨_, _, rfl, owns_mono ho HB2.out.size, Below.now HB2.out hb9⟩
    clear ho hb9
    go_wp2_with fail
    go_ret
    exact F9.out
end Go.Proofs.Ytkkffaiacipibaa
