/-
  CosetsOf.
-/
import Derived.Test.YtngbimgabcacpaaGreatGro28
import Derived.Lib.SliceRun
import Derived.Test.YtngbimgabcacpaaGreatGro24
namespace Go.Proofs.YtngbimgabcacpaaGreat
open Go.RowKit
set_option linter.unusedVariables false
theorem neq_slice_nil {P : Program} (w : World) {t e : TypeId} (a : Option Addr) (l c : Nat) (h : P.underlying t = some (.slice e)) : (binOp .neq t (.slice a l c) (.slice none 0 0)).run P w = .ok (.bool (!a.isNone)) w := by
  simp only [binOp]
  simp [Op.equal, Op.maxDepth, Lib.run_equalIn_slice_nil w 9999 t e a l c 0 0 h]
def subN (m : Nat) (ln z : List Nat) : List Nat := (List.range m).filter (inSub m ln z)
theorem subN_map (m : Nat) (ln z : List Nat) : (subN m ln z).map Int.ofNat = subL m ln z := rfl
theorem subN_len (m : Nat) (ln z : List Nat) : (subN m ln z).length = (subL m ln z).length := by rw [← subN_map, List.length_map]
theorem subN_le (m : Nat) (ln z : List Nat) : (subN m ln z).length ≤ m := by
  unfold subN
  exact Nat.le_trans (List.length_filter_le _ _) (by simp)
theorem subN_lt {m : Nat} {ln z : List Nat} {y : Nat} (h : y ∈ subN m ln z) : y < m := List.mem_range.1 (List.mem_filter.1 h).1
theorem subN_zero {m : Nat} {ln z : List Nat} (hT : Tb m ln) (hz : ∀ x ∈ z, x < m) : 0 ∈ subN m ln z := by
  refine List.mem_filter.2 ⟨List.mem_range.2 hT.lo, ?_⟩
  unfold inSub
  rw [List.contains_iff_mem]
  exact (subQ_mem hT hz 0).2 .zero
theorem subN_pos {m : Nat} {ln z : List Nat} (hT : Tb m ln) (hz : ∀ x ∈ z, x < m) : 0 < (subN m ln z).length := List.length_pos_of_mem (subN_zero hT hz)
theorem cont_subL {m : Nat} {ln z : List Nat} {j : Nat} (hj : j < m) : (subL m ln z).contains ((j : Nat) : Int) = inSub m ln z j := by
  rw [Bool.eq_iff_iff, List.contains_iff_mem, ← subN_map]
  constructor
  · intro h
    have := (mem_ofNat _ _).1 h
    exact (List.mem_filter.1 this).2
  · intro h
    exact (mem_ofNat _ _).2 (List.mem_filter.2 ⟨List.mem_range.2 hj, h⟩)
def norB (m : Nat) (ln z : List Nat) (h x : Nat) : Bool := inSub m ln z (cj m ln x h)
def norH (m : Nat) (ln z : List Nat) (h : Nat) : Bool := (List.range m).all (norB m ln z h)
def norX (m : Nat) (ln z : List Nat) (x : Nat) : Bool := (subN m ln z).all fun h => norB m ln z h x
/-- IsNormal as a function of plain data -/
def normB (n : Int) (l z : List Int) : Bool := subOk n l z && (subN n.toNat (l.map Int.toNat) (z.map Int.toNat)).all (norH n.toNat (l.map Int.toNat) (z.map Int.toNat))
theorem normB_not {n : Int} {l z : List Int} (h : subOk n l z = false) : normB n l z = false := by simp [normB, h]
theorem normB_yes {m : Nat} {ln zn : List Nat} (h : subOk (m : Nat) (ln.map Int.ofNat) (zn.map Int.ofNat) = true) : normB (m : Nat) (ln.map Int.ofNat) (zn.map Int.ofNat) = (subN m ln zn).all (norH m ln zn) := by
  unfold normB; rw [h, map_toNat', map_toNat', Bool.true_and]; rfl
theorem nor_swap (m : Nat) (ln z : List Nat) : (subN m ln z).all (norH m ln z) = (List.range m).all (norX m ln z) := by
  rw [Bool.eq_iff_iff, List.all_eq_true, List.all_eq_true]
  constructor
  · intro h x hx
    unfold norX
    rw [List.all_eq_true]
    intro y hy
    have := h y hy
    unfold norH at this
    exact List.all_eq_true.1 this x hx
  · intro h y hy
    unfold norH
    rw [List.all_eq_true]
    intro x hx
    have := h x hx
    unfold norX at this
    exact List.all_eq_true.1 this y hy
/-- the first j of a list have a property -/
def uptoL (p : Nat → Bool) (l : List Nat) (j : Nat) : Prop := ∀ y ∈ l.take j, p y = true
theorem uptoL_zero (p : Nat → Bool) (l : List Nat) : uptoL p l 0 := fun y hy => by simp at hy
theorem uptoL_succ {p : Nat → Bool} {l : List Nat} {j : Nat} (hj : j < l.length) (h : uptoL p l j) (hp : p l[j] = true) : uptoL p l (j + 1) := fun y hy => by
  rw [List.take_succ_eq_append_getElem hj] at hy
  rcases List.mem_append.1 hy with hy | hy
  · exact h y hy
  · rw [List.mem_singleton.1 hy]; exact hp
theorem uptoL_full {p : Nat → Bool} {l : List Nat} {j : Nat} (hj : ¬ j < l.length) (h : uptoL p l j) : l.all p = true := by
  rw [List.all_eq_true]
  intro y hy
  refine h y ?_
  rw [List.take_of_length_le (by omega)]; exact hy
theorem all_at {p : Nat → Bool} {l : List Nat} {j : Nat} (hj : j < l.length) (hp : p l[j] = false) : l.all p = false := by
  rw [List.all_eq_false]
  exact ⟨_, List.getElem_mem hj, by simp [hp]⟩
set_option maxHeartbeats 1000000 in
theorem implSubgroupOf_no (n : Int) (l : List Int) (a : Option Addr) (cap : Nat) (z : List Int) (az : Option Addr) (cz : Nat) (w : World) (hl : IntsIn w a l) (hlen : l.length ≤ 2 ^ 47) (hz : IntsIn w az z) (hzl : z.length ≤ 2 ^ 47) (hno : subOk n l z = false) :
    Calls Tryz.prog 9 #[.agg #[.int .i64 n, .slice a l.length cap], .slice az z.length cz] w fun e w' => e = .returned (.slice none 0 0) ∧ Below w.heap.size w w' := by
  have HI := Lib.hid hl
  have HZ := Lib.hid hz
  clear hl hz
  cases hg : groupB n l
  · go_enter Tryz.func9, Tryz.ntmps9
    go_wp2_with fail
    refine (implIsGroup_any n l a cap _ (HI.out.later ((Below.refl _ _).alloc (Nat.le_refl _) _)) hlen).mono ?_
    rintro e w1 ⟨h2, hb1⟩
    rw [hg] at h2
    subst h2
    have hbel := Below.now ((Below.refl w.heap.size w).alloc (Nat.le_refl _) _) hb1
    clear hb1
    go_wp2_with fail
    go_ret
    exact ⟨rfl, hbel⟩
  obtain ⟨m, ln, rfl, hlm, hG⟩ := groupB_out hg
  have hm0 := hG.lo
  have hm1 := hG.hi
  have HGB : Hid (groupB (m : Nat) l = true) := hg
  clear hG hlm
  have hr : rngB (m : Nat) z = false := by simpa [subOk, hg] using hno
  have HR : Hid ((z.all fun x => inB x 0 ((m : Nat) - 1)) = false) := hr
  clear hr hno hg
  go_enter Tryz.func9, Tryz.ntmps9
  go_wp2_with fail
  refine (implIsGroup_any _ l a cap _ (HI.out.later ((Below.refl _ _).alloc (Nat.le_refl _) _)) hlen).mono ?_
  rintro e w1 ⟨h2, hb1⟩
  rw [HGB.out] at h2
  subst h2
  have x0 := box_later hb1 (i := 0) (v := .int .i64 (m : Nat)) rfl _ (Below.refl _ _)
  have x1 := box_later hb1 (i := 1) (v := .slice a l.length cap) rfl _ (Below.refl _ _)
  have hbel := Below.now ((Below.refl w.heap.size w).alloc (Nat.le_refl _) _) hb1
  clear hb1
  go_wp2_with fail
  refine (allWithin_any _ _ z _ _ _ (HZ.out.later hbel) hzl).mono ?_
  rintro e w2 ⟨h2, hb2⟩
  rw [HR.out] at h2
  subst h2
  replace hbel := Below.now hbel hb2
  clear hb2
  go_wp2_with fail
  go_ret
  exact ⟨rfl, hbel⟩
set_option maxHeartbeats 1000000 in
theorem normIn_pred (m : Nat) (ln : List Nat) (a : Option Addr) (len cap bs bt bh : Nat) (z : List Nat) (h g c : Nat) (w : World) (hx0 : w.cell? ⟨bt, 0, none⟩ = some (.int .i64 m)) (hx1 : w.cell? ⟨bt, 1, none⟩ = some (.slice a len cap))
    (hs : w.cell? ⟨bs, 0, none⟩ = some (.slice (some ⟨g, 0, none⟩) (subL m ln z).length c)) (hh : w.cell? ⟨bh, 0, none⟩ = some (.int .i64 (h : Nat))) (hn : NatsIn w a ln) (hG : Grp m ln) (hlen : len = m * m) (hcap : len ≤ cap ∧ cap ≤ maxLen) (hhm : h < m)
    (hsub : w.ownsRow 0 3 1 (.slice (some ⟨g, 0, none⟩) (subL m ln z).length c) (subL m ln z).length (intVals (subL m ln z))) :
    PredEl w.heap.size 49 #[.pointer (some ⟨bs, 0, none⟩), .pointer (some ⟨bt, 0, none⟩), .pointer (some ⟨bh, 0, none⟩)] (norB m ln z h) m w := by
  intro k hk W hW
  have k0 : ∀ x, (wide W x).cell? ⟨bt, 0, none⟩ = some (.int .i64 m) := wide_cell (by rw [hW.cell (World.block_lt_of_cell? w _ hx0)]; exact hx0)
  have k1 : ∀ x, (wide W x).cell? ⟨bt, 1, none⟩ = some (.slice a len cap) := wide_cell (by rw [hW.cell (World.block_lt_of_cell? w _ hx1)]; exact hx1)
  have k2 : ∀ x, (wide W x).cell? ⟨bs, 0, none⟩ = some (.slice (some ⟨g, 0, none⟩) (subL m ln z).length c) := wide_cell (by rw [hW.cell (World.block_lt_of_cell? w _ hs)]; exact hs)
  have k3 : ∀ x, (wide W x).cell? ⟨bh, 0, none⟩ = some (.int .i64 (h : Nat)) := wide_cell (by rw [hW.cell (World.block_lt_of_cell? w _ hh)]; exact hh)
  have HN : Hid (∀ x, NatsIn (wide W x) a ln) := fun x => (hn.later hW).later (below_wide _ _)
  have hle : (subL m ln z).length ≤ 1000 := by rw [← subN_len]; have := subN_le m ln z; have := hG.hi; omega
  have hcj := hG.cj_lt hk hhm
  have HCj := Lib.hid (cont_subL (ln := ln) (z := z) hcj)
  have HS : Hid (∀ x, Calls Tryz.prog 41 #[.slice (some ⟨g, 0, none⟩) (subL m ln z).length c, .int .i64 ((cj m ln k h : Nat) : Int)] (wide W x) fun e w' => e = .returned (.bool (norB m ln z h k)) ∧ w' = wide W x) := fun x => by
    have hO := owns_later (owns_later hsub hW) (below_wide W x)
    have := Tryz.slices_Contains_int g 0 (subL m ln z).length c (subL m ln z) ((cj m ln k h : Nat) : Int) (wide W x) (Nat.le_refl _) (by omega) (fun j hj => by
      rw [Nat.zero_add, World.ownsRow.cellAt hO j (by omega)]
      simp [intVals, List.getD_eq_getElem?_getD, hj])
    rw [List.take_length, HCj.out] at this
    exact this
  have HG := Lib.hid hG
  have HL := Lib.hid hlen
  have HC := Lib.hid hcap
  clear hx0 hx1 hs hh hn hG hlen hcap hsub hW hle
  go_enter Tryz.func49, Tryz.ntmps49
  go_wp2_with fail
  refine region_wide (by kernel_rfl) (by kernel_rfl) ?_
  repeat (quiet_step ((first
    | (go_at_call 46; refine (conjugate_any m ln a _ _ k h _ (HN.out _) HG.out HL.out HC.out hk hhm).mono ?_; rintro e w2 ⟨rfl, hb2⟩; exact ⟨rfl, wide_next hb2⟩)
    | (go_at_call 41; refine (HS.out _).mono ?_; rintro e w2 ⟨rfl, rfl⟩; exact ⟨rfl, _, rfl⟩))))
  refine wpQuiet_nil ?_
  rintro w4 ⟨x4, rfl⟩
  clear k0 k1 k2 k3
  go_wp2_with fail
  go_ret
  exact ⟨rfl, below_wide _ _⟩
set_option maxRecDepth 100000 in
set_option maxHeartbeats 2000000 in
theorem implIsNormal_any (n : Int) (l : List Int) (a : Option Addr) (cap : Nat) (z : List Int) (az : Option Addr) (cz : Nat) (w : World) (hl : IntsIn w a l) (hlen : l.length ≤ 2 ^ 47) (hcap : l.length ≤ cap ∧ cap ≤ maxLen) (hz : IntsIn w az z) (hzl : z.length ≤ 2 ^ 47) :
    Calls Tryz.prog 17 #[.agg #[.int .i64 n, .slice a l.length cap], .slice az z.length cz] w fun e w' => e = .returned (.bool (normB n l z)) ∧ Below w.heap.size w w' := by
  have HI := Lib.hid hl
  have HZ := Lib.hid hz
  have HCP := Lib.hid hcap
  clear hl hz hcap
  cases hg : subOk n l z
  · have F := Lib.hid (normB_not hg)
    have HC := Lib.hid (implSubgroupOf_no n l a cap z az cz (w.alloc (.cells #[.int .i64 n, .slice a l.length cap] 25)) (HI.out.later ((Below.refl _ _).alloc (Nat.le_refl _) _)) hlen (HZ.out.later ((Below.refl _ _).alloc (Nat.le_refl _) _)) hzl hg)
    clear hg
    go_enter Tryz.func17, Tryz.ntmps17
    go_wp2_with fail
    refine HC.out.mono ?_
    rintro e w1 ⟨rfl, hb1⟩
    have hbel := Below.now ((Below.refl w.heap.size w).alloc (Nat.le_refl _) _) hb1
    clear hb1
    have q22 : ∀ (w : World) (a : Option Addr) (n c : Nat), (binOp .neq 23 (.slice a n c) (.slice none 0 0)).run Tryz.prog w = .ok (.bool (!a.isNone)) w := fun w a n c => neq_slice_nil w a n c Tryz.underlying23
    go_wp2_with fail
    go_loop [13] (fun i => i = .int .i64 0) (fun i => 0)
    case atStart => rfl
    case round =>
      subst hrel
      go_wp2_with fail
      go_ret
      exact ⟨ret_bool F.out.symm, hbel.alloc hbel.size _⟩
  · have HOK := Lib.hid hg
    obtain ⟨hgr, hr⟩ := subOk_out hg
    obtain ⟨m, ln, rfl, hlm, hG⟩ := groupB_out hgr
    obtain ⟨zn, hzn, hzm⟩ := rng_nats hr
    have F : Hid (subF (m : Nat) l z = subL m ln zn) := by
      have := HOK.out
      rw [hlm, hzn] at this ⊢
      exact subF_yes this
    have FN : Hid (normB (m : Nat) l z = (subN m ln zn).all (norH m ln zn)) := by
      have := HOK.out
      rw [hlm, hzn] at this ⊢
      exact normB_yes this
    have HG := Lib.hid hG
    have hm0 := hG.lo
    have hm1 := hG.hi
    have hns := subN_pos hG.toTb hzm
    have hnl := subN_le m ln zn
    have HNL := Lib.hid (subN_len m ln zn)
    have HLM := Lib.hid hlm
    have HLL : Hid (l.length = m * m) := Lib.hid (by rw [hlm, List.length_map]; exact hG.len)
    have HC := Lib.hid (implSubgroupOf_any (m : Nat) l a cap z az cz (w.alloc (.cells #[.int .i64 (m : Nat), .slice a l.length cap] 25)) (HI.out.later ((Below.refl _ _).alloc (Nat.le_refl _) _)) hlen (HZ.out.later ((Below.refl _ _).alloc (Nat.le_refl _) _)) hzl)
    clear hgr hr hlm hG hzn hzm hg HZ
    go_enter Tryz.func17, Tryz.ntmps17
    go_wp2_with fail
    refine HC.out.mono ?_
    rintro e w1 ⟨a1, c1, rfl, ho1, hb1⟩
    rw [F.out, ← HNL.out] at ho1 ⊢
    obtain ⟨g1, c1', hv⟩ := owns_some ho1 hns
    simp only [Value.slice.injEq] at hv
    obtain ⟨rfl, _, rfl⟩ := hv
    have HO1 := Lib.hid ho1
    have x0 := box_later hb1 (i := 0) (v := .int .i64 (m : Nat)) rfl
    have x1 := box_later hb1 (i := 1) (v := .slice a l.length cap) rfl
    have hbel := Lib.hid (Below.now ((Below.refl w.heap.size w).alloc (Nat.le_refl _) _) hb1)
    clear hb1 ho1 HC
    have q22 : ∀ (w : World) (a : Option Addr) (n c : Nat), (binOp .neq 23 (.slice a n c) (.slice none 0 0)).run Tryz.prog w = .ok (.bool (!a.isNone)) w := fun w a n c => neq_slice_nil w a n c Tryz.underlying23
    go_wp2_with fail
    obtain ⟨w2, hw2⟩ : ∃ w2, w2 = w1.alloc (.cells #[.slice (some ⟨g1, 0, none⟩) (subN m ln zn).length c1] 23) := ⟨_, rfl⟩
    have hb12 : Below w1.heap.size w1 w2 := by rw [hw2]; exact (Below.refl _ _).alloc (Nat.le_refl _) _
    have hs0 : ∀ W, Below w2.heap.size w2 W → W.cell? ⟨w1.heap.size, 0, none⟩ = some (.slice (some ⟨g1, 0, none⟩) (subN m ln zn).length c1) := fun W hW => by rw [hW.cell (by rw [hw2]; simp), hw2]; simp
    rw [← hw2]
    have y0 : ∀ W, Below w2.heap.size w2 W → W.cell? ⟨w.heap.size, 0, none⟩ = some (.int .i64 (m : Nat)) := fun W hW => x0 W (Below.now hb12 hW)
    have y1 : ∀ W, Below w2.heap.size w2 W → W.cell? ⟨w.heap.size, 1, none⟩ = some (.slice a l.length cap) := fun W hW => x1 W (Below.now hb12 hW)
    have HB2 := Lib.hid (Below.now hbel.out hb12)
    have HO2 := Lib.hid (owns_later HO1.out hb12)
    have hb0 := Below.refl w2.heap.size w2
    clear hw2 hb12 x0 x1
    go_loopw [13] (fun i wr => ∃ j : Nat, j ≤ (subN m ln zn).length ∧ i = .int .i64 j ∧ uptoL (norH m ln zn) (subN m ln zn) j ∧ Below w2.heap.size w2 wr) (fun i _ => (subN m ln zn).length - (intOf i).toNat)
    case atStart => exact ⟨0, Nat.zero_le _, rfl, uptoL_zero _ _, hb0⟩
    case round =>
      clear hb0
      obtain ⟨j, hj, rfl, hup, hbw⟩ := hrel
      have HU := Lib.hid hup
      clear hup
      by_cases hlt : j < (subN m ln zn).length
      · have HO3 := Lib.hid (owns_later HO2.out hbw)
        have hcj : wr.cell? ⟨g1, j, none⟩ = some (.int .i64 (((subN m ln zn)[j] : Nat) : Int)) := by
          rw [World.ownsRow.cellAt HO3.out j (by omega), ← subN_map]
          simp [intVals, hlt]
        have hjm : (subN m ln zn)[j] < m := subN_lt (List.getElem_mem hlt)
        have HS1 := Lib.hid (fun h => uptoL_succ (p := norH m ln zn) hlt HU.out h)
        have HS2 := Lib.hid (fun h => all_at (p := norH m ln zn) hlt h)
        have z0 := hs0 _ hbw
        have z1 := y0 _ hbw
        have z2 := y1 _ hbw
        generalize hy : (subN m ln zn)[j] = y at *
        clear hy
        have hbx : Below wr.heap.size wr (wr.alloc (.cells #[.int .i64 (y : Nat)] 3)) := (Below.refl _ _).alloc (Nat.le_refl _) _
        have hp := normIn_pred m ln a l.length cap w1.heap.size w.heap.size wr.heap.size zn y g1 c1 (wr.alloc (.cells #[.int .i64 (y : Nat)] 3)) (y0 _ (Below.now hbw hbx)) (y1 _ (Below.now hbw hbx)) (by rw [hs0 _ (Below.now hbw hbx), HNL.out]) (by simp)
          (by unfold NatsIn; rw [← HLM.out]; exact HI.out.later (Below.now HB2.out (Below.now hbw hbx))) HG.out HLL.out HCP.out hjm (by rw [← HNL.out]; exact owns_mono (owns_later HO3.out hbx) (Nat.zero_le _))
        have HA := Lib.hid (all_any _ _ _ (norB m ln zn y) m a l.length cap _ (by omega) hp (Nat.le_refl _) (enters_of Tryz.func49 (by kernel_rfl) rfl))
        have HBX := Lib.hid hbx
        have v0 := hs0 _ (Below.now hbw hbx)
        have v1 := y0 _ (Below.now hbw hbx)
        have v2 := y1 _ (Below.now hbw hbx)
        have HH : Hid (norH m ln zn y = (List.range m).all (norB m ln zn y)) := rfl
        clear hp hbx
        go_wp2_with fail
        refine HA.out.mono ?_
        rintro e w4 ⟨h4, hb4⟩
        rw [← HH.out] at h4
        subst h4
        have hbw4 := Below.now hbw (Below.now HBX.out hb4)
        clear hb4 z0 z1 z2 hcj hbw HA v0 v1 v2
        cases hn : norH m ln zn y
        · have F9 : Hid (normB (m : Nat) l z = false) := by rw [FN.out]; exact HS2.out hn
          go_wp2_with fail
          go_ret
          exact ⟨ret_bool F9.out.symm, Below.now HB2.out hbw4⟩
        · have F9 := Lib.hid (HS1.out hn)
          go_wp2_with fail
          go_roundw
          case rel => exact ⟨j + 1, by omega, by go_num, F9.out, hbw4⟩
          case measure => simp [intOf]; omega
      · have F9 : Hid (normB (m : Nat) l z = true) := by rw [FN.out]; exact uptoL_full hlt HU.out
        have z0 := hs0 _ hbw
        go_wp2_with fail
        go_ret
        exact ⟨ret_bool F9.out.symm, Below.now HB2.out hbw⟩
end Go.Proofs.YtngbimgabcacpaaGreat
namespace Go.Proofs.YtngbimgabcacpaaGreat
open Go.RowKit
set_option linter.unusedVariables false
def cosP (m : Nat) (ln z : List Nat) (i k : Nat) : Bool := inSub m ln z (tm m ln i (invN m ln k))
section
variable {m : Nat} {ln z : List Nat}
theorem inSub_iff (hT : Tb m ln) (hz : ∀ x ∈ z, x < m) (j : Nat) : inSub m ln z j = true ↔ Reach m ln z j := by
  unfold inSub
  rw [List.contains_iff_mem]
  exact subQ_mem hT hz j
theorem cosP_refl (hG : Grp m ln) (hz : ∀ x ∈ z, x < m) {i : Nat} (hi : i < m) : cosP m ln z i i = true := by
  unfold cosP
  rw [(hG.invN_spec hi).2.1]
  exact (inSub_iff hG.toTb hz 0).2 .zero
theorem mul_cancel (hG : Grp m ln) {a b c : Nat} (ha : a < m) (hb : b < m) (hc : c < m) : tm m ln (tm m ln a (invN m ln b)) (tm m ln b c) = tm m ln a c := by
  obtain ⟨k1, _, k3, _⟩ := hG.invN_spec hb
  rw [hG.assoc _ _ _ ha k1 (hG.tm_lt hb hc), ← hG.assoc _ _ _ k1 hb hc, k3, hG.left _ hc]
theorem cosP_trans (hG : Grp m ln) (hz : ∀ x ∈ z, x < m) {a b c : Nat} (ha : a < m) (hb : b < m) (hc : c < m) (h1 : cosP m ln z a b = true) (h2 : cosP m ln z b c = true) : cosP m ln z a c = true := by
  unfold cosP at *
  rw [inSub_iff hG.toTb hz] at *
  have := h1.mul hG.toTabOk hz h2
  rw [mul_cancel hG ha hb (hG.invN_spec hc).1] at this
  exact this
theorem inv_swap (hG : Grp m ln) {a b : Nat} (ha : a < m) (hb : b < m) : invN m ln (tm m ln a (invN m ln b)) = tm m ln b (invN m ln a) := by
  obtain ⟨b1, _, _, _⟩ := hG.invN_spec hb
  obtain ⟨a1, a2, _, _⟩ := hG.invN_spec ha
  have h := hG.right_inv (hG.tm_lt ha b1) (hG.tm_lt hb a1) (by rw [mul_cancel hG ha hb a1, a2])
  have h2 := (hG.invN_spec (hG.tm_lt ha b1)).2.2.2
  rw [h.2] at h2
  omega
theorem cosP_symm (hG : Grp m ln) (hz : ∀ x ∈ z, x < m) {a b : Nat} (ha : a < m) (hb : b < m) (h1 : cosP m ln z a b = true) : cosP m ln z b a = true := by
  unfold cosP at *
  rw [inSub_iff hG.toTb hz] at *
  have := h1.inv hG hz
  rwa [inv_swap hG ha hb] at this
/-- the elements of a coset -/
theorem cos_any (hG : Grp m ln) (hz : ∀ x ∈ z, x < m) {c x : Nat} (hc : c < m) (hx : x < m) : ((subN m ln z).any fun h => decide (tm m ln h c = x)) = cosP m ln z x c := by
  obtain ⟨k1, k2, k3, _⟩ := hG.invN_spec hc
  rw [Bool.eq_iff_iff, List.any_eq_true]
  constructor
  · rintro ⟨h, hh, e⟩
    have e : tm m ln h c = x := by simpa using e
    have hm := subN_lt hh
    unfold cosP
    rw [← e, hG.assoc _ _ _ hm hc k1, k2, hG.right _ hm]
    exact (List.mem_filter.1 hh).2
  · intro h
    unfold cosP at h
    have hl := hG.tm_lt hx k1
    refine ⟨tm m ln x (invN m ln c), List.mem_filter.2 ⟨List.mem_range.2 hl, h⟩, ?_⟩
    rw [hG.assoc _ _ _ hx k1 hc, k3, hG.right _ hx]
    simp
end
/-- the numbers behind j elements of the subgroup -/
def cosW (m : Nat) (ln s : List Nat) (c : Nat) (L : Int) (f : Nat → Int) (j x : Nat) : Int := if ((s.take j).any fun h => decide (tm m ln h c = x)) = true then L else f x
theorem cosW_zero (m : Nat) (ln s : List Nat) (c : Nat) (L : Int) (f : Nat → Int) (x : Nat) : f x = cosW m ln s c L f 0 x := by simp [cosW]
theorem cosW_succ {m : Nat} {ln s : List Nat} {c : Nat} {L : Int} {f : Nat → Int} {j : Nat} (hj : j < s.length) (x : Nat) : cosW m ln s c L f (j + 1) x = if x = tm m ln s[j] c then L else cosW m ln s c L f j x := by
  unfold cosW
  rw [List.take_succ_eq_append_getElem hj, List.any_append]
  by_cases h : x = tm m ln s[j] c
  · subst h; simp
  · have : ¬ tm m ln s[j] c = x := fun e => h e.symm
    rw [if_neg h]
    simp [this]
theorem cosW_full {m : Nat} {ln z : List Nat} (hG : Grp m ln) (hz : ∀ x ∈ z, x < m) {c : Nat} (hc : c < m) (hn : numI (cosP m ln z) (numF (cosP m ln z) c) c < 0) {x : Nat} (hx : x < m) :
    cosW m ln (subN m ln z) c (((numF (cosP m ln z) c).length : Nat) : Int) (numI (cosP m ln z) (numF (cosP m ln z) c)) (subN m ln z).length x = numI (cosP m ln z) (numF (cosP m ln z) (c + 1)) x := by
  unfold cosW
  rw [List.take_length, cos_any hG hz hc hx, numF_no hn]
  have h0 := (numI_neg _ _ _).1 hn
  by_cases hq : numI (cosP m ln z) (numF (cosP m ln z) c) x < 0
  · rw [numI_app hq]
    split
    · rfl
    · unfold numI at *
      split
      · rename_i h; rw [h] at hq; simp at hq; omega
      · rfl
  · rw [numI_pre (List.prefix_append _ _) hq]
    split
    · rename_i hp
      exfalso
      have h1 := (not_congr (numI_neg _ _ _)).1 hq
      have h2 : (numF (cosP m ln z) c).any (cosP m ln z x) = true := by
        cases hh : (numF (cosP m ln z) c).any (cosP m ln z x)
        · exact absurd hh h1
        · rfl
      obtain ⟨f, hf, hpf⟩ := List.any_eq_true.1 h2
      have hfl := numF_lt _ _ f hf
      have h3 := cosP_trans hG hz hc hx (by omega) (cosP_symm hG hz hx hc hp) hpf
      rw [List.any_eq_false] at h0
      exact h0 f hf h3
    · rfl
/-- CosetsOf as a function of plain data -/
def cosF (n : Int) (l z : List Int) : List Int := if subOk n l z = true then numO (cosP n.toNat (l.map Int.toNat) (z.map Int.toNat)) n.toNat else []
theorem cosF_not {n : Int} {l z : List Int} (h : subOk n l z = false) : cosF n l z = [] := by simp [cosF, h]
theorem cosF_yes {m : Nat} {ln zn : List Nat} (h : subOk (m : Nat) (ln.map Int.ofNat) (zn.map Int.ofNat) = true) : cosF (m : Nat) (ln.map Int.ofNat) (zn.map Int.ofNat) = numO (cosP m ln zn) m := by
  unfold cosF; rw [if_pos h, map_toNat', map_toNat']; rfl
theorem cosF_len (n : Int) (l z : List Int) : (cosF n l z).length ≤ 1000 := by
  cases h : subOk n l z
  · rw [cosF_not h]; simp
  · obtain ⟨hg, hr⟩ := subOk_out h
    obtain ⟨m, ln, rfl, rfl, hG⟩ := groupB_out hg
    obtain ⟨zn, rfl, _⟩ := rng_nats hr
    rw [cosF_yes h, numO_len]
    have := hG.hi
    omega
set_option maxHeartbeats 1000000 in
theorem cosIn_pred (m : Nat) (ln : List Nat) (a : Option Addr) (len cap bs bt : Nat) (z : List Nat) (g c : Nat) (w : World) (hx0 : w.cell? ⟨bt, 0, none⟩ = some (.int .i64 m)) (hx1 : w.cell? ⟨bt, 1, none⟩ = some (.slice a len cap))
    (hs : w.cell? ⟨bs, 0, none⟩ = some (.slice (some ⟨g, 0, none⟩) (subL m ln z).length c)) (hn : NatsIn w a ln) (hG : Grp m ln) (hlen : len = m * m) (hcap : len ≤ cap ∧ cap ≤ maxLen)
    (hsub : w.ownsRow 0 3 1 (.slice (some ⟨g, 0, none⟩) (subL m ln z).length c) (subL m ln z).length (intVals (subL m ln z))) :
    PredEl2 w.heap.size 40 #[.pointer (some ⟨bs, 0, none⟩), .pointer (some ⟨bt, 0, none⟩)] (cosP m ln z) m w := by
  intro i k hi hk W hW
  have k0 : ∀ x, (wide W x).cell? ⟨bt, 0, none⟩ = some (.int .i64 m) := wide_cell (by rw [hW.cell (World.block_lt_of_cell? w _ hx0)]; exact hx0)
  have k1 : ∀ x, (wide W x).cell? ⟨bt, 1, none⟩ = some (.slice a len cap) := wide_cell (by rw [hW.cell (World.block_lt_of_cell? w _ hx1)]; exact hx1)
  have k2 : ∀ x, (wide W x).cell? ⟨bs, 0, none⟩ = some (.slice (some ⟨g, 0, none⟩) (subL m ln z).length c) := wide_cell (by rw [hW.cell (World.block_lt_of_cell? w _ hs)]; exact hs)
  have HN : Hid (∀ x, NatsIn (wide W x) a ln) := fun x => (hn.later hW).later (below_wide _ _)
  have hle : (subL m ln z).length ≤ 1000 := by rw [← subN_len]; have := subN_le m ln z; have := hG.hi; omega
  obtain ⟨i1, _, _, i4⟩ := hG.invN_spec hk
  have HE : Hid (invF m ln k = ((invN m ln k : Nat) : Int)) := Lib.hid i4
  have hti := hG.tm_lt hi i1
  have HCj := Lib.hid (cont_subL (ln := ln) (z := z) hti)
  have HS : Hid (∀ x, Calls Tryz.prog 41 #[.slice (some ⟨g, 0, none⟩) (subL m ln z).length c, .int .i64 ((tm m ln i (invN m ln k) : Nat) : Int)] (wide W x) fun e w' => e = .returned (.bool (cosP m ln z i k)) ∧ w' = wide W x) := fun x => by
    have hO := owns_later (owns_later hsub hW) (below_wide W x)
    have := Tryz.slices_Contains_int g 0 (subL m ln z).length c (subL m ln z) ((tm m ln i (invN m ln k) : Nat) : Int) (wide W x) (Nat.le_refl _) (by omega) (fun j hj => by
      rw [Nat.zero_add, World.ownsRow.cellAt hO j (by omega)]
      simp [intVals, List.getD_eq_getElem?_getD, hj])
    rw [List.take_length, HCj.out] at this
    exact this
  have HG := Lib.hid hG
  have HL := Lib.hid hlen
  have HC := Lib.hid hcap
  clear hx0 hx1 hs hn hG hlen hcap hsub hW hle i4
  go_enter Tryz.func40, Tryz.ntmps40
  go_wp2_with fail
  refine region_wide (by kernel_rfl) (by kernel_rfl) ?_
  repeat (quiet_step ((first
    | (go_at_call 43; refine (inverse_any m ln a _ _ k _ (HN.out _) HG.out HL.out HC.out.1 HC.out.2 hk).mono ?_; rintro e w2 ⟨h2, hb2⟩; rw [HE.out] at h2; subst h2; exact ⟨rfl, wide_next hb2⟩)
    | (go_at_call 42; refine (implTimes_any m ln a _ _ _ _ _ (HN.out _) HG.out.toTb HL.out (by assumption) (by assumption)).mono ?_; rintro e w2 ⟨rfl, hb2⟩; exact ⟨rfl, wide_next hb2⟩)
    | (go_at_call 41; refine (HS.out _).mono ?_; rintro e w2 ⟨rfl, rfl⟩; exact ⟨rfl, _, rfl⟩))))
  refine wpQuiet_nil ?_
  rintro w4 ⟨x4, rfl⟩
  clear k0 k1 k2
  go_wp2_with fail
  go_ret
  exact ⟨rfl, below_wide _ _⟩
theorem eql_slice_nil {P : Program} (w : World) {t e : TypeId} (a : Option Addr) (l c : Nat) (h : P.underlying t = some (.slice e)) : (binOp .eql t (.slice a l c) (.slice none 0 0)).run P w = .ok (.bool a.isNone) w := by
  simp only [binOp]
  simp [Op.equal, Op.maxDepth, Lib.run_equalIn_slice_nil w 9999 t e a l c 0 0 h]
set_option maxRecDepth 100000 in
set_option maxHeartbeats 2000000 in
theorem implCosetsOf_any (n : Int) (l : List Int) (a : Option Addr) (cap : Nat) (z : List Int) (az : Option Addr) (cz : Nat) (w : World) (hl : IntsIn w a l) (hlen : l.length ≤ 2 ^ 47) (hcap : l.length ≤ cap ∧ cap ≤ maxLen) (hz : IntsIn w az z) (hzl : z.length ≤ 2 ^ 47) :
    Calls Tryz.prog 10 #[.agg #[.int .i64 n, .slice a l.length cap], .slice az z.length cz] w (RetSl 3 1 (cosF n l z).length (intVals (cosF n l z)) w) := by
  have HI := Lib.hid hl
  have HZ := Lib.hid hz
  have HCP := Lib.hid hcap
  clear hl hz hcap
  have q22 : ∀ (w : World) (a : Option Addr) (n c : Nat), (binOp .eql 23 (.slice a n c) (.slice none 0 0)).run Tryz.prog w = .ok (.bool a.isNone) w := fun w a n c => eql_slice_nil w a n c Tryz.underlying23
  cases hg : subOk n l z
  · have F : Hid (∀ w', Below w.heap.size w w' → RetSl 3 1 (cosF n l z).length (intVals (cosF n l z)) w (.returned (.slice none 0 0)) w') := fun w' hb => by
      rw [cosF_not hg]; exact retSl_nil _ _ _ hb
    have HC := Lib.hid (implSubgroupOf_no n l a cap z az cz (w.alloc (.cells #[.int .i64 n, .slice a l.length cap] 25)) (HI.out.later ((Below.refl _ _).alloc (Nat.le_refl _) _)) hlen (HZ.out.later ((Below.refl _ _).alloc (Nat.le_refl _) _)) hzl hg)
    clear hg
    go_enter Tryz.func10, Tryz.ntmps10
    go_wp2_with fail
    refine HC.out.mono ?_
    rintro e w1 ⟨rfl, hb1⟩
    have hbel := Below.now ((Below.refl w.heap.size w).alloc (Nat.le_refl _) _) hb1
    clear hb1
    go_wp2_with fail
    go_ret
    exact F.out _ (hbel.alloc hbel.size _)
  · have HOK := Lib.hid hg
    obtain ⟨hgr, hr⟩ := subOk_out hg
    obtain ⟨m, ln, rfl, hlm, hG⟩ := groupB_out hgr
    obtain ⟨zn, hzn, hzm⟩ := rng_nats hr
    have F : Hid (subF (m : Nat) l z = subL m ln zn) := by
      have := HOK.out
      rw [hlm, hzn] at this ⊢
      exact subF_yes this
    have FN : Hid (cosF (m : Nat) l z = numO (cosP m ln zn) m) := by
      have := HOK.out
      rw [hlm, hzn] at this ⊢
      exact cosF_yes this
    have HG := Lib.hid hG
    have hm0 := hG.lo
    have hm1 := hG.hi
    have hns := subN_pos hG.toTb hzm
    have HNL := Lib.hid (subN_len m ln zn)
    have HLM := Lib.hid hlm
    have HLL : Hid (l.length = m * m) := Lib.hid (by rw [hlm, List.length_map]; exact hG.len)
    have HC := Lib.hid (implSubgroupOf_any (m : Nat) l a cap z az cz (w.alloc (.cells #[.int .i64 (m : Nat), .slice a l.length cap] 25)) (HI.out.later ((Below.refl _ _).alloc (Nat.le_refl _) _)) hlen (HZ.out.later ((Below.refl _ _).alloc (Nat.le_refl _) _)) hzl)
    clear hgr hr hlm hG hzn hzm hg HZ
    go_enter Tryz.func10, Tryz.ntmps10
    go_wp2_with fail
    refine HC.out.mono ?_
    rintro e w1 ⟨a1, c1, rfl, ho1, hb1⟩
    rw [F.out, ← HNL.out] at ho1 ⊢
    obtain ⟨g1, c1', hv⟩ := owns_some ho1 hns
    simp only [Value.slice.injEq] at hv
    obtain ⟨rfl, _, rfl⟩ := hv
    have HO1 := Lib.hid ho1
    have x0 := box_later hb1 (i := 0) (v := .int .i64 (m : Nat)) rfl
    have x1 := box_later hb1 (i := 1) (v := .slice a l.length cap) rfl
    have hbel := Lib.hid (Below.now ((Below.refl w.heap.size w).alloc (Nat.le_refl _) _) hb1)
    have hb12 : Below w1.heap.size w1 (w1.alloc (.cells #[.slice (some ⟨g1, 0, none⟩) (subN m ln zn).length c1] 23)) := (Below.refl _ _).alloc (Nat.le_refl _) _
    have HB2 := Lib.hid (Below.now hbel.out hb12)
    have hp := cosIn_pred m ln a l.length cap w1.heap.size w.heap.size zn g1 c1 (w1.alloc (.cells #[.slice (some ⟨g1, 0, none⟩) (subN m ln zn).length c1] 23)) (x0 _ hb12) (x1 _ hb12) (by rw [← HNL.out]; simp)
      (by unfold NatsIn; rw [← HLM.out]; exact HI.out.later HB2.out) HG.out HLL.out HCP.out (by rw [← HNL.out]; exact owns_mono (owns_later HO1.out hb12) (Nat.zero_le _))
    have HA := Lib.hid (numbered_any _ _ _ (cosP m ln zn) m _ (by omega) hp (Nat.le_refl _) (enters_of Tryz.func40 (by kernel_rfl) rfl))
    have v0 := x0 _ hb12
    clear hb1 ho1 HC x0 x1 hp hb12
    go_wp2_with fail
    refine HA.out.mono ?_
    rintro e w4 ⟨a4, c4, rfl, ho4, hb4⟩
    have F4 : Hid (RetSl 3 1 (cosF (m : Nat) l z).length (intVals (cosF (m : Nat) l z)) w (.returned (.slice a4 (numO (cosP m ln zn) m).length c4)) w4) := by
      rw [FN.out]; exact ⟨_, _, rfl, owns_mono ho4 HB2.out.size, Below.now HB2.out hb4⟩
    clear ho4 hb4
    go_wp2_with fail
    go_ret
    exact F4.out
/-- a row of m numbers of the call's own, in block g -/
def IntRow (w : World) (base g m c : Nat) (f : Nat → Int) : Prop := w.ownsRow base 3 1 (.slice (some ⟨g, 0, none⟩) m c) m ((List.range m).map fun j => Value.int .i64 (f j))
theorem IntRow.cell {w : World} {base g m c : Nat} {f : Nat → Int} (h : IntRow w base g m c f) {j : Nat} (hj : j < m) : w.cell? ⟨g, j, none⟩ = some (.int .i64 (f j)) := by
  rw [World.ownsRow.cellAt h j (by omega)]; simp [hj]
theorem IntRow.frozen {w : World} {base g m c : Nat} {f : Nat → Int} (h : IntRow w base g m c f) (j : Nat) : w.frozen? ⟨g, j, none⟩ = false := World.ownsRow.frozenAt h j
theorem IntRow.later {w w' : World} {base g m c : Nat} {f : Nat → Int} (h : IntRow w base g m c f) (hb : Below w.heap.size w w') : IntRow w' base g m c f := owns_later h hb
theorem IntRow.congr {w : World} {base g m c : Nat} {f f' : Nat → Int} (h : IntRow w base g m c f) (hf : ∀ j, j < m → f j = f' j) : IntRow w base g m c f' := by
  unfold IntRow
  rw [← List.map_congr_left (f := fun j => Value.int .i64 (f j)) (fun j hj => by rw [hf j (List.mem_range.1 hj)])]
  exact h
theorem IntRow.store {w : World} {base g m c : Nat} {f : Nat → Int} (h : IntRow w base g m c f) (i : Nat) (v : Int) : IntRow (w.setCell ⟨g, i, none⟩ (.int .i64 v)) base g m c (fun j => if j = i then v else f j) := by
  have hs := (World.ownsRow.stored h i (.int .i64 v)).1
  have e : ((List.range m).map fun j => Value.int .i64 (f j)).set i (.int .i64 v) = (List.range m).map fun j => Value.int .i64 (if j = i then v else f j) := by
    apply List.ext_getElem?
    intro j
    rw [List.getElem?_set]
    by_cases hj : j < m
    · by_cases hij : i = j
      · subst hij; simp [hj]
      · have : ¬ j = i := fun e => hij e.symm
        simp [hj, hij, this]
    · by_cases hij : i = j
      · subst hij; simp [hj]
      · simp [hj, hij]
  rw [e] at hs
  exact hs
end Go.Proofs.YtngbimgabcacpaaGreat
