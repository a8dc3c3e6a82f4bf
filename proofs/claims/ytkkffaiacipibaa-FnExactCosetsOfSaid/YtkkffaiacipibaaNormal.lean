/-
  IsNormal.
-/
import Derived.Test.YtkkffaiacipibaaSpecSub
import Derived.Lib.SliceRun
namespace Go.Proofs.Ytkkffaiacipibaa
open Go.RowKit
set_option linter.unusedVariables false
theorem neq_slice_nil {P : Program} (w : World) {t e : TypeId} (a : Option Addr) (l c : Nat) (h : P.underlying t = some (.slice e)) : (binOp .neq t (.slice a l c) (.slice none 0 0)).run P w = .ok (.bool (!a.isNone)) w := by
  simp only [binOp]
  simp [Op.equal, Op.maxDepth, Lib.run_equalIn_slice_nil w 9999 t e a l c 0 0 h]
def subN (m : Nat) (ln z : List Nat) : List Nat := (List.range m).filter (inSub m ln z)
theorem subN_map (m : Nat) (ln z : List Nat) : (subN m ln z).map Int.ofNat = subL m ln z := rfl
theorem subN_len (m : Nat) (ln z : List Nat) : (subN m ln z).length = (subL m ln z).length := by rw [← subN_map, List.length_map]
theorem subN_le (m : Nat) (ln z : List Nat) : (subN m ln z).length ≤ m := by
  unfold subN
  exact Nat.le_trans (List.length_filter_le _ _) (by simp)
theorem subN_lt {m : Nat} {ln z : List Nat} {y : Nat} (h : y ∈ subN m ln z) : y < m := List.mem_range.1 (List.mem_filter.1 h).1
theorem subN_zero {m : Nat} {ln z : List Nat} (hT : Tb m ln) (hz : ∀ x ∈ z, x < m) : 0 ∈ subN m ln z := by
  refine List.mem_filter.2 ⟨List.mem_range.2 hT.lo, ?_⟩
  unfold inSub
  rw [List.contains_iff_mem]
  exact (subQ_mem hT hz 0).2 .zero
theorem subN_pos {m : Nat} {ln z : List Nat} (hT : Tb m ln) (hz : ∀ x ∈ z, x < m) : 0 < (subN m ln z).length := List.length_pos_of_mem (subN_zero hT hz)
theorem cont_subL {m : Nat} {ln z : List Nat} {j : Nat} (hj : j < m) : (subL m ln z).contains ((j : Nat) : Int) = inSub m ln z j := by
  rw [Bool.eq_iff_iff, List.contains_iff_mem, ← subN_map]
  constructor
  · intro h
    have := (mem_ofNat _ _).1 h
    exact (List.mem_filter.1 this).2
  · intro h
    exact (mem_ofNat _ _).2 (List.mem_filter.2 ⟨List.mem_range.2 hj, h⟩)
def norB (m : Nat) (ln z : List Nat) (h x : Nat) : Bool := inSub m ln z (cj m ln x h)
def norH (m : Nat) (ln z : List Nat) (h : Nat) : Bool := (List.range m).all (norB m ln z h)
def norX (m : Nat) (ln z : List Nat) (x : Nat) : Bool := (subN m ln z).all fun h => norB m ln z h x
/-- IsNormal as a function of plain data -/
def normB (n : Int) (l z : List Int) : Bool := subOk n l z && (subN n.toNat (l.map Int.toNat) (z.map Int.toNat)).all (norH n.toNat (l.map Int.toNat) (z.map Int.toNat))
theorem normB_not {n : Int} {l z : List Int} (h : subOk n l z = false) : normB n l z = false := by simp [normB, h]
theorem normB_yes {m : Nat} {ln zn : List Nat} (h : subOk (m : Nat) (ln.map Int.ofNat) (zn.map Int.ofNat) = true) : normB (m : Nat) (ln.map Int.ofNat) (zn.map Int.ofNat) = (subN m ln zn).all (norH m ln zn) := by
  unfold normB; rw [h, map_toNat', map_toNat', Bool.true_and]; rfl
theorem nor_swap (m : Nat) (ln z : List Nat) : (subN m ln z).all (norH m ln z) = (List.range m).all (norX m ln z) := by
  rw [Bool.eq_iff_iff, List.all_eq_true, List.all_eq_true]
  constructor
  · intro h x hx
    unfold norX
    rw [List.all_eq_true]
    intro y hy
    have := h y hy
    unfold norH at this
    exact List.all_eq_true.1 this x hx
  · intro h y hy
    unfold norH
    rw [List.all_eq_true]
    intro x hx
    have := h x hx
    unfold norX at this
    exact List.all_eq_true.1 this y hy
/-- the first j of a list have a property -/
def uptoL (p : Nat → Bool) (l : List Nat) (j : Nat) : Prop := ∀ y ∈ l.take j, p y = true
theorem uptoL_zero (p : Nat → Bool) (l : List Nat) : uptoL p l 0 := fun y hy => by simp at hy
theorem uptoL_succ {p : Nat → Bool} {l : List Nat} {j : Nat} (hj : j < l.length) (h : uptoL p l j) (hp : p l[j] = true) : uptoL p l (j + 1) := fun y hy => by
  rw [List.take_succ_eq_append_getElem hj] at hy
  rcases List.mem_append.1 hy with hy | hy
  · exact h y hy
  · rw [List.mem_singleton.1 hy]; exact hp
theorem uptoL_full {p : Nat → Bool} {l : List Nat} {j : Nat} (hj : ¬ j < l.length) (h : uptoL p l j) : l.all p = true := by
  rw [List.all_eq_true]
  intro y hy
  refine h y ?_
  rw [List.take_of_length_le (by omega)]; exact hy
theorem all_at {p : Nat → Bool} {l : List Nat} {j : Nat} (hj : j < l.length) (hp : p l[j] = false) : l.all p = false := by
  rw [List.all_eq_false]
  exact ⟨_, List.getElem_mem hj, by simp [hp]⟩
set_option maxHeartbeats 1000000 in
theorem implSubgroupOf_no (n : Int) (l : List Int) (a : Option Addr) (cap : Nat) (z : List Int) (az : Option Addr) (cz : Nat) (w : World) (hl : IntsIn w a l) (hlen : l.length ≤ 2 ^ 47) (hz : IntsIn w az z) (hzl : z.length ≤ 2 ^ 47) (hno : subOk n l z = false) :
    Calls Try.prog 44 #[.agg #[.int .i64 n, .slice a l.length cap], .slice az z.length cz] w fun e w' => e = .returned (.slice none 0 0) ∧ Below w.heap.size w w' := by
  have HI := Lib.hid hl
  have HZ := Lib.hid hz
  clear hl hz
  cases hg : groupB n l
  · go_enter Try.func44, Try.ntmps44
    go_wp2_with fail
    refine (implIsGroup_any n l a cap _ (HI.out.later ((Below.refl _ _).alloc (Nat.le_refl _) _)) hlen).mono ?_
    rintro e w1 ⟨h2, hb1⟩
    rw [hg] at h2
    subst h2
    have hbel := Below.now ((Below.refl w.heap.size w).alloc (Nat.le_refl _) _) hb1
    clear hb1
    go_wp2_with fail
    go_ret
    exact ⟨rfl, hbel⟩
  obtain ⟨m, ln, rfl, hlm, hG⟩ := groupB_out hg
  have hm0 := hG.lo
  have hm1 := hG.hi
  have HGB : Hid (groupB (m : Nat) l = true) := hg
  clear hG hlm
  have hr : rngB (m : Nat) z = false := by simpa [subOk, hg] using hno
  have HR : Hid ((z.all fun x => inB x 0 ((m : Nat) - 1)) = false) := hr
  clear hr hno hg
  go_enter Try.func44, Try.ntmps44
  go_wp2_with fail
  refine (implIsGroup_any _ l a cap _ (HI.out.later ((Below.refl _ _).alloc (Nat.le_refl _) _)) hlen).mono ?_
  rintro e w1 ⟨h2, hb1⟩
  rw [HGB.out] at h2
  subst h2
  have x0 := box_later hb1 (i := 0) (v := .int .i64 (m : Nat)) rfl _ (Below.refl _ _)
  have x1 := box_later hb1 (i := 1) (v := .slice a l.length cap) rfl _ (Below.refl _ _)
  have hbel := Below.now ((Below.refl w.heap.size w).alloc (Nat.le_refl _) _) hb1
  clear hb1
  go_wp2_with fail
  refine (allWithin_any _ _ z _ _ _ (HZ.out.later hbel) hzl).mono ?_
  rintro e w2 ⟨h2, hb2⟩
  rw [HR.out] at h2
  subst h2
  replace hbel := Below.now hbel hb2
  clear hb2
  go_wp2_with fail
  go_ret
  exact ⟨rfl, hbel⟩
set_option maxHeartbeats 1000000 in
theorem normIn_pred (m : Nat) (ln : List Nat) (a : Option Addr) (len cap bs bt bh : Nat) (z : List Nat) (h g c : Nat) (w : World) (hx0 : w.cell? ⟨bt, 0, none⟩ = some (.int .i64 m)) (hx1 : w.cell? ⟨bt, 1, none⟩ = some (.slice a len cap))
    (hs : w.cell? ⟨bs, 0, none⟩ = some (.slice (some ⟨g, 0, none⟩) (subL m ln z).length c)) (hh : w.cell? ⟨bh, 0, none⟩ = some (.int .i64 (h : Nat))) (hn : NatsIn w a ln) (hG : Grp m ln) (hlen : len = m * m) (hcap : len ≤ cap ∧ cap ≤ maxLen) (hhm : h < m)
    (hsub : w.ownsRow 0 3 1 (.slice (some ⟨g, 0, none⟩) (subL m ln z).length c) (subL m ln z).length (intVals (subL m ln z))) :
    PredEl w.heap.size 83 #[.pointer (some ⟨bs, 0, none⟩), .pointer (some ⟨bt, 0, none⟩), .pointer (some ⟨bh, 0, none⟩)] (norB m ln z h) m w := by
  intro k hk W hW
  have k0 : ∀ x, (wide W x).cell? ⟨bt, 0, none⟩ = some (.int .i64 m) := wide_cell (by rw [hW.cell (World.block_lt_of_cell? w _ hx0)]; exact hx0)
  have k1 : ∀ x, (wide W x).cell? ⟨bt, 1, none⟩ = some (.slice a len cap) := wide_cell (by rw [hW.cell (World.block_lt_of_cell? w _ hx1)]; exact hx1)
  have k2 : ∀ x, (wide W x).cell? ⟨bs, 0, none⟩ = some (.slice (some ⟨g, 0, none⟩) (subL m ln z).length c) := wide_cell (by rw [hW.cell (World.block_lt_of_cell? w _ hs)]; exact hs)
  have k3 : ∀ x, (wide W x).cell? ⟨bh, 0, none⟩ = some (.int .i64 (h : Nat)) := wide_cell (by rw [hW.cell (World.block_lt_of_cell? w _ hh)]; exact hh)
  have HN : Hid (∀ x, NatsIn (wide W x) a ln) := fun x => (hn.later hW).later (below_wide _ _)
  have hle : (subL m ln z).length ≤ 1000 := by rw [← subN_len]; have := subN_le m ln z; have := hG.hi; omega
  have hcj := hG.cj_lt hk hhm
  have HCj := Lib.hid (cont_subL (ln := ln) (z := z) hcj)
  have HS : Hid (∀ x, Calls Try.prog 84 #[.slice (some ⟨g, 0, none⟩) (subL m ln z).length c, .int .i64 ((cj m ln k h : Nat) : Int)] (wide W x) fun e w' => e = .returned (.bool (norB m ln z h k)) ∧ w' = wide W x) := fun x => by
    have hO := owns_later (owns_later hsub hW) (below_wide W x)
    have := Try.slices_Contains_int g 0 (subL m ln z).length c (subL m ln z) ((cj m ln k h : Nat) : Int) (wide W x) (Nat.le_refl _) (by omega) (fun j hj => by
      rw [Nat.zero_add, World.ownsRow.cellAt hO j (by omega)]
      simp [intVals, List.getD_eq_getElem?_getD, hj])
    rw [List.take_length, HCj.out] at this
    exact this
  have HG := Lib.hid hG
  have HL := Lib.hid hlen
  have HC := Lib.hid hcap
  clear hx0 hx1 hs hh hn hG hlen hcap hsub hW hle
  go_enter Try.func83, Try.ntmps83
  go_wp2_with fail
  refine region_wide (by kernel_rfl) (by kernel_rfl) ?_
  repeat (quiet_step ((first
    | (go_at_call 85; refine (conjugate_any m ln a _ _ k h _ (HN.out _) HG.out HL.out HC.out hk hhm).mono ?_; rintro e w2 ⟨rfl, hb2⟩; exact ⟨rfl, wide_next hb2⟩)
    | (go_at_call 84; refine (HS.out _).mono ?_; rintro e w2 ⟨rfl, rfl⟩; exact ⟨rfl, _, rfl⟩))))
  refine wpQuiet_nil ?_
  rintro w4 ⟨x4, rfl⟩
  clear k0 k1 k2 k3
  go_wp2_with fail
  go_ret
  exact ⟨rfl, below_wide _ _⟩
set_option maxRecDepth 100000 in
set_option maxHeartbeats 2000000 in
theorem implIsNormal_any (n : Int) (l : List Int) (a : Option Addr) (cap : Nat) (z : List Int) (az : Option Addr) (cz : Nat) (w : World) (hl : IntsIn w a l) (hlen : l.length ≤ 2 ^ 47) (hcap : l.length ≤ cap ∧ cap ≤ maxLen) (hz : IntsIn w az z) (hzl : z.length ≤ 2 ^ 47) :
    Calls Try.prog 46 #[.agg #[.int .i64 n, .slice a l.length cap], .slice az z.length cz] w fun e w' => e = .returned (.bool (normB n l z)) ∧ Below w.heap.size w w' := by
  have HI := Lib.hid hl
  have HZ := Lib.hid hz
  have HCP := Lib.hid hcap
  clear hl hz hcap
  cases hg : subOk n l z
  · have F := Lib.hid (normB_not hg)
    have HC := Lib.hid (implSubgroupOf_no n l a cap z az cz (w.alloc (.cells #[.int .i64 n, .slice a l.length cap] 27)) (HI.out.later ((Below.refl _ _).alloc (Nat.le_refl _) _)) hlen (HZ.out.later ((Below.refl _ _).alloc (Nat.le_refl _) _)) hzl hg)
    clear hg
    go_enter Try.func46, Try.ntmps46
    go_wp2_with fail
    refine HC.out.mono ?_
    rintro e w1 ⟨rfl, hb1⟩
    have hbel := Below.now ((Below.refl w.heap.size w).alloc (Nat.le_refl _) _) hb1
    clear hb1
    have q22 : ∀ (w : World) (a : Option Addr) (n c : Nat), (binOp .neq 22 (.slice a n c) (.slice none 0 0)).run Try.prog w = .ok (.bool (!a.isNone)) w := fun w a n c => neq_slice_nil w a n c Try.underlying22
    go_wp2_with fail
    go_loop [13] (fun i => i = .int .i64 0) (fun i => 0)
    case atStart => rfl
    case round =>
      subst hrel
      go_wp2_with fail
      go_ret
      exact ⟨ret_bool F.out.symm, hbel.alloc hbel.size _⟩
  · have HOK := Lib.hid hg
    obtain ⟨hgr, hr⟩ := subOk_out hg
    obtain ⟨m, ln, rfl, hlm, hG⟩ := groupB_out hgr
    obtain ⟨zn, hzn, hzm⟩ := rng_nats hr
    have F : Hid (subF (m : Nat) l z = subL m ln zn) := by
      have := HOK.out
      rw [hlm, hzn] at this ⊢
      exact subF_yes this
    have FN : Hid (normB (m : Nat) l z = (subN m ln zn).all (norH m ln zn)) := by
      have := HOK.out
      rw [hlm, hzn] at this ⊢
      exact normB_yes this
    have HG := Lib.hid hG
    have hm0 := hG.lo
    have hm1 := hG.hi
    have hns := subN_pos hG.toTb hzm
    have hnl := subN_le m ln zn
    have HNL := Lib.hid (subN_len m ln zn)
    have HLM := Lib.hid hlm
    have HLL : Hid (l.length = m * m) := Lib.hid (by rw [hlm, List.length_map]; exact hG.len)
    have HC := Lib.hid (implSubgroupOf_any (m : Nat) l a cap z az cz (w.alloc (.cells #[.int .i64 (m : Nat), .slice a l.length cap] 27)) (HI.out.later ((Below.refl _ _).alloc (Nat.le_refl _) _)) hlen (HZ.out.later ((Below.refl _ _).alloc (Nat.le_refl _) _)) hzl)
    clear hgr hr hlm hG hzn hzm hg HZ
    go_enter Try.func46, Try.ntmps46
    go_wp2_with fail
    refine HC.out.mono ?_
    rintro e w1 ⟨a1, c1, rfl, ho1, hb1⟩
    rw [F.out, ← HNL.out] at ho1 ⊢
    obtain ⟨g1, c1', hv⟩ := owns_some ho1 hns
    simp only [Value.slice.injEq] at hv
    obtain ⟨rfl, _, rfl⟩ := hv
    have HO1 := Lib.hid ho1
    have x0 := box_later hb1 (i := 0) (v := .int .i64 (m : Nat)) rfl
    have x1 := box_later hb1 (i := 1) (v := .slice a l.length cap) rfl
    have hbel := Lib.hid (Below.now ((Below.refl w.heap.size w).alloc (Nat.le_refl _) _) hb1)
    clear hb1 ho1 HC
    have q22 : ∀ (w : World) (a : Option Addr) (n c : Nat), (binOp .neq 22 (.slice a n c) (.slice none 0 0)).run Try.prog w = .ok (.bool (!a.isNone)) w := fun w a n c => neq_slice_nil w a n c Try.underlying22
    go_wp2_with fail
    obtain ⟨w2, hw2⟩ : ∃ w2, w2 = w1.alloc (.cells #[.slice (some ⟨g1, 0, none⟩) (subN m ln zn).length c1] 22) := ⟨_, rfl⟩
    have hb12 : Below w1.heap.size w1 w2 := by rw [hw2]; exact (Below.refl _ _).alloc (Nat.le_refl _) _
    have hs0 : ∀ W, Below w2.heap.size w2 W → W.cell? ⟨w1.heap.size, 0, none⟩ = some (.slice (some ⟨g1, 0, none⟩) (subN m ln zn).length c1) := fun W hW => by rw [hW.cell (by rw [hw2]; simp), hw2]; simp
    rw [← hw2]
    have y0 : ∀ W, Below w2.heap.size w2 W → W.cell? ⟨w.heap.size, 0, none⟩ = some (.int .i64 (m : Nat)) := fun W hW => x0 W (Below.now hb12 hW)
    have y1 : ∀ W, Below w2.heap.size w2 W → W.cell? ⟨w.heap.size, 1, none⟩ = some (.slice a l.length cap) := fun W hW => x1 W (Below.now hb12 hW)
    have HB2 := Lib.hid (Below.now hbel.out hb12)
    have HO2 := Lib.hid (owns_later HO1.out hb12)
    have hb0 := Below.refl w2.heap.size w2
    clear hw2 hb12 x0 x1
    go_loopw [13] (fun i wr => ∃ j : Nat, j ≤ (subN m ln zn).length ∧ i = .int .i64 j ∧ uptoL (norH m ln zn) (subN m ln zn) j ∧ Below w2.heap.size w2 wr) (fun i _ => (subN m ln zn).length - (intOf i).toNat)
    case atStart => exact ⟨0, Nat.zero_le _, rfl, uptoL_zero _ _, hb0⟩
    case round =>
      clear hb0
      obtain ⟨j, hj, rfl, hup, hbw⟩ := hrel
      have HU := Lib.hid hup
      clear hup
      by_cases hlt : j < (subN m ln zn).length
      · have HO3 := Lib.hid (owns_later HO2.out hbw)
        have hcj : wr.cell? ⟨g1, j, none⟩ = some (.int .i64 (((subN m ln zn)[j] : Nat) : Int)) := by
          rw [World.ownsRow.cellAt HO3.out j (by omega), ← subN_map]
          simp [intVals, hlt]
        have hjm : (subN m ln zn)[j] < m := subN_lt (List.getElem_mem hlt)
        have HS1 := Lib.hid (fun h => uptoL_succ (p := norH m ln zn) hlt HU.out h)
        have HS2 := Lib.hid (fun h => all_at (p := norH m ln zn) hlt h)
        have z0 := hs0 _ hbw
        have z1 := y0 _ hbw
        have z2 := y1 _ hbw
        generalize hy : (subN m ln zn)[j] = y at *
        clear hy
        have hbx : Below wr.heap.size wr (wr.alloc (.cells #[.int .i64 (y : Nat)] 3)) := (Below.refl _ _).alloc (Nat.le_refl _) _
        have hp := normIn_pred m ln a l.length cap w1.heap.size w.heap.size wr.heap.size zn y g1 c1 (wr.alloc (.cells #[.int .i64 (y : Nat)] 3)) (y0 _ (Below.now hbw hbx)) (y1 _ (Below.now hbw hbx)) (by rw [hs0 _ (Below.now hbw hbx), HNL.out]) (by simp)
          (by unfold NatsIn; rw [← HLM.out]; exact HI.out.later (Below.now HB2.out (Below.now hbw hbx))) HG.out HLL.out HCP.out hjm (by rw [← HNL.out]; exact owns_mono (owns_later HO3.out hbx) (Nat.zero_le _))
        have HA := Lib.hid (all_any _ _ _ (norB m ln zn y) m a l.length cap _ (by omega) hp (Nat.le_refl _) (enters_of Try.func83 (by kernel_rfl) rfl))
        have HBX := Lib.hid hbx
        have v0 := hs0 _ (Below.now hbw hbx)
        have v1 := y0 _ (Below.now hbw hbx)
        have v2 := y1 _ (Below.now hbw hbx)
        have HH : Hid (norH m ln zn y = (List.range m).all (norB m ln zn y)) := rfl
        clear hp hbx
        go_wp2_with fail
        refine HA.out.mono ?_
        rintro e w4 ⟨h4, hb4⟩
        rw [← HH.out] at h4
        subst h4
        have hbw4 := Below.now hbw (Below.now HBX.out hb4)
        clear hb4 z0 z1 z2 hcj hbw HA v0 v1 v2
        cases hn : norH m ln zn y
        · have F9 : Hid (normB (m : Nat) l z = false) := by rw [FN.out]; exact HS2.out hn
          go_wp2_with fail
          go_ret
          exact ⟨ret_bool F9.out.symm, Below.now HB2.out hbw4⟩
        · have F9 := Lib.hid (HS1.out hn)
          go_wp2_with fail
          go_roundw
          case rel => exact ⟨j + 1, by omega, by go_num, F9.out, hbw4⟩
          case measure => simp [intOf]; omega
      · have F9 : Hid (normB (m : Nat) l z = true) := by rw [FN.out]; exact uptoL_full hlt HU.out
        have z0 := hs0 _ hbw
        go_wp2_with fail
        go_ret
        exact ⟨ret_bool F9.out.symm, Below.now HB2.out hbw⟩
end Go.Proofs.Ytkkffaiacipibaa
