/-
  SatisfiesRules of the reference.
-/
import Derived.Test.YtgoeadgpbidgiaaGreatDoorMnp16
import Derived.Test.YtgoeadgpbidgiaaGreatDoorMnp15
import Derived.Test.YtgoeadgpbidgiaaGreatDoorMnp01
import Derived.Lib.SliceRun
import Derived.Test.YtgoeadgpbidgiaaGreatDoorMnp07
import Derived.Test.YtgoeadgpbidgiaaGreatDoorMnp03
import Derived.Test.YtgoeadgpbidgiaaGreatDoorMnp04
import Derived.IntWalk
namespace Go.Proofs.YtgoeadgpbidgiaaGreatDoor
open Go.RowKit
set_option linter.unusedVariables false
set_option maxRecDepth 100000 in
set_option maxHeartbeats 1000000 in
theorem implTableOk_any (n : Int) (l : List Int) (a : Option Addr) (cap : Nat) (w : World) (hl : IntsIn w a l) (hlen : l.length ≤ 2 ^ 47) :
    Calls Tryz.prog 23 #[.agg #[.int .i64 n, .slice a l.length cap]] w fun e w' => e = .returned (.bool (tabB n l)) ∧ Below w.heap.size w w' := by
  cases hn : inB n 1 40
  · have F := Lib.hid (tabB_notn (l := l) hn)
    go_enter Tryz.func23, Tryz.ntmps23
    go_wp2_with (go_at_call 53; refine (within_any _ _ _ _).mono ?_; rintro e w' ⟨rfl, rfl⟩)
    go_ret
    exact ⟨ret_bool F.out.symm, (Below.refl _ _).alloc (Nat.le_refl _) _⟩
  have ⟨hn1, hn2⟩ := inB_bounds hn
  have hnn : 0 ≤ n * n ∧ n * n ≤ 1600 := by
    obtain ⟨m, rfl⟩ := Int.eq_ofNat_of_zero_le (show 0 ≤ n by omega)
    have := sq_le (m := m) (by omega)
    omega
  obtain ⟨hnn0, hnn1⟩ := hnn
  by_cases hll : (l.length : Int) = n * n
  rotate_left
  · have F := Lib.hid (tabB_notlen hll)
    go_enter Tryz.func23, Tryz.ntmps23
    go_wp2_with (go_at_call 53; refine (within_any _ _ _ _).mono ?_; rintro e w' ⟨rfl, rfl⟩)
    go_ret
    exact ⟨ret_bool F.out.symm, (Below.refl _ _).alloc (Nat.le_refl _) _⟩
  have hcond : ((l.length : Int) != n * n) = false := by simp [hll]
  have HL := Lib.hid hll
  have HN := Lib.hid hn
  have HI := Lib.hid hl
  clear hll hl
  cases hr : rngB n l
  · have F := Lib.hid (tabB_notrng hr)
    have hr' : (l.all fun x => inB x 0 (n - 1)) = false := hr
    have HR := Lib.hid hr
    clear hr
    go_enter Tryz.func23, Tryz.ntmps23
    go_wp2_with (first | (go_at_call 53; refine (within_any _ _ _ _).mono ?_; rintro e w' ⟨rfl, rfl⟩) | (go_at_call 60; refine (allWithin_any _ _ l _ _ _ (HI.out.later ((Below.refl _ _).alloc (Nat.le_refl _) _)) hlen).mono ?_; rintro e w1 ⟨rfl, hb1⟩))
    go_ret
    exact ⟨ret_bool F.out.symm, Below.now ((Below.refl _ _).alloc (Nat.le_refl _) _) hb1⟩
  obtain ⟨m, ln, rfl, hlm, hT⟩ := tb_of hn HL.out hr
  have hr' : (l.all fun x => inB x 0 ((m : Int) - 1)) = true := hr
  have HT := Lib.hid hT
  have hm0 := hT.lo
  have hm1 := hT.hi
  have HLM := Lib.hid hlm
  have HLL : Hid (l.length = m * m) := by rw [hlm, List.length_map]; exact hT.len
  clear hr hT hlm
  go_enter Tryz.func23, Tryz.ntmps23
  go_wp2_with (go_at_call 53; refine (within_any _ _ _ _).mono ?_; rintro e w' ⟨rfl, rfl⟩)
  refine (allWithin_any _ _ l _ _ _ (HI.out.later ((Below.refl _ _).alloc (Nat.le_refl _) _)) hlen).mono ?_
  rintro e w1 ⟨rfl, hb1⟩
  have hx0 := box_later hb1 (i := 0) (v := .int .i64 (m : Nat)) rfl
  have hx1 := box_later hb1 (i := 1) (v := .slice a l.length cap) rfl
  have HN1 : Hid (∀ W, Below w1.heap.size w1 W → NatsIn W a ln) := fun W hW => by
    unfold NatsIn
    rw [← HLM.out]
    exact (HI.out.later (Below.now ((Below.refl _ _).alloc (Nat.le_refl _) _) hb1)).later hW
  have hbel := Lib.hid (Below.now ((Below.refl w.heap.size w).alloc (Nat.le_refl _) _) hb1)
  have hb0 := Below.refl w1.heap.size w1
  clear hb1 HI hcond hnn0 hnn1 hn1 hn2
  go_wp2_with fail
  go_loopw [32] (fun i wr => ∃ c : Nat, c ≤ m ∧ i = .int .i64 c ∧ Below w1.heap.size w1 wr ∧ upto (rowOk m ln) c) (fun i _ => m - (intOf i).toNat)
  case atStart => exact ⟨0, Nat.zero_le _, rfl, Below.refl _ _, upto_zero _⟩
  case round =>
    obtain ⟨c, hcm, rfl, hbw, hrows⟩ := hrel
    have HR := Lib.hid hrows
    clear hrows hb0
    by_cases hlt : c < m
    · go_wp2_with fail
      refine (implTimes_any m ln a _ _ 0 c _ (HN1.out _ hbw) HT.out HLL.out hm0 hlt).mono ?_
      rintro e w2 ⟨rfl, hb2⟩
      have hbw2 := Below.now hbw hb2
      clear hb2 hbw
      cases e1 : (((tm m ln 0 c : Nat) : Int) != ((c : Nat) : Int))
      rotate_left
      · have F := Lib.hid (tabB_rows HT.out (rowsOk_idn hlt (idn_not1 e1)))
        go_wp2_with fail
        go_ret
        exact ⟨ret_bool (by rw [HLM.out, F.out]), Below.now hbel.out hbw2⟩
      go_wp2_with fail
      refine (implTimes_any m ln a _ _ c 0 _ (HN1.out _ hbw2) HT.out HLL.out hlt hm0).mono ?_
      rintro e w3 ⟨rfl, hb2⟩
      have hbw3 := Below.now hbw2 hb2
      clear hb2 hbw2
      cases e2 : (((tm m ln c 0 : Nat) : Int) != ((c : Nat) : Int))
      rotate_left
      · have F := Lib.hid (tabB_rows HT.out (rowsOk_idn hlt (idn_not2 e2)))
        go_wp2_with fail
        go_ret
        exact ⟨ret_bool (by rw [HLM.out, F.out]), Below.now hbel.out hbw3⟩
      have HID := Lib.hid (idn_of e1 e2)
      go_wp2_with fail
      clear e1 e2
      go_loopw [49] (fun i wr => ∃ x : Nat, x ≤ m ∧ i = .int .i64 x ∧ Below w1.heap.size w1 wr ∧ upto (ascRow m ln c) x) (fun i _ => m - (intOf i).toNat)
      case atStart => exact ⟨0, Nat.zero_le _, rfl, hbw3, upto_zero _⟩
      case round =>
        clear hbw3
        obtain ⟨x, hxm, rfl, hbx, hasc⟩ := hrel
        have HA := Lib.hid hasc
        clear hasc
        by_cases hlx : x < m
        · go_wp2_with fail
          go_loopw [54] (fun i wr => ∃ y : Nat, y ≤ m ∧ i = .int .i64 y ∧ Below w1.heap.size w1 wr ∧ upto (asc m ln c x) y) (fun i _ => m - (intOf i).toNat)
          case atStart => exact ⟨0, Nat.zero_le _, rfl, hbx, upto_zero _⟩
          case round =>
            clear hbx
            obtain ⟨y, hym, rfl, hby, hasy⟩ := hrel
            have HY := Lib.hid hasy
            clear hasy
            by_cases hly : y < m
            · have k1 := HT.out.tm_lt hlt hlx
              have k2 := HT.out.tm_lt hlx hly
              have hw0 : ∀ x, (wide wr x).cell? ⟨w.heap.size, 0, none⟩ = some (.int .i64 (m : Nat)) := wide_cell (hx0 _ hby)
              have hw1 : ∀ x, (wide wr x).cell? ⟨w.heap.size, 1, none⟩ = some (.slice a l.length cap) := wide_cell (hx1 _ hby)
              have HNw : Hid (∀ x, NatsIn (wide wr x) a ln) := fun x => (HN1.out _ hby).later (below_wide _ _)
              go_wp2_with fail
              refine region_wide (by kernel_rfl) (by kernel_rfl) ?_
              repeat (quiet_step ((refine (implTimes_any m ln a _ _ _ _ _ (HNw.out _) HT.out HLL.out (by assumption) (by assumption)).mono ?_; rintro e w2 ⟨rfl, hb2⟩; exact ⟨rfl, wide_next hb2⟩)))
              refine wpQuiet_nil ?_
              rintro w4 ⟨x4, rfl⟩
              have hbz : Below w1.heap.size w1 (wide wr x4) := Below.now hby (below_wide _ _)
              clear hw0 hw1 hby HNw
              cases e : (((tm m ln (tm m ln c x) y : Nat) : Int) != ((tm m ln c (tm m ln x y) : Nat) : Int))
              · have F := Lib.hid (upto_succ HY.out (asc_of e))
                go_wp2_with fail
                go_roundw
                case rel => exact ⟨y + 1, by omega, by go_num, hbz, F.out⟩
                case measure => simp [intOf]; omega
              · have F := Lib.hid (tabB_rows HT.out (rowsOk_asc hlt hlx hly (asc_of e)))
                go_wp2_with fail
                go_ret
                exact ⟨ret_bool (by rw [HLM.out, F.out]), Below.now hbel.out hbz⟩
            · have F := Lib.hid (upto_succ HA.out (ascRow_of HY.out hly))
              go_wp2_with fail
              go_roundw
              case rel => exact ⟨x + 1, by omega, by go_num, hby, F.out⟩
              case measure => simp [intOf]; omega
        · have F := Lib.hid (upto_succ HR.out (rowOk_of HID.out HA.out hlx))
          go_wp2_with fail
          go_roundw
          case rel => exact ⟨c + 1, by omega, by go_num, hbx, F.out⟩
          case measure => simp [intOf]; omega
    · have F := Lib.hid (tabB_rows HT.out (upto_all HR.out hlt))
      go_wp2_with fail
      go_ret
      exact ⟨ret_bool (by rw [HLM.out, F.out]), Below.now hbel.out hbw⟩
end Go.Proofs.YtgoeadgpbidgiaaGreatDoor
namespace Go.Proofs.YtgoeadgpbidgiaaGreatDoor
open Go.RowKit
set_option linter.unusedVariables false
/-- the numbers that stay -/
def keepZ (p : Int → Bool) (l : List Int) : List Int := l.filter fun x => !p x
/-- how many of the first j stay -/
def keepN (p : Int → Bool) (l : List Int) (j : Nat) : Nat := (keepZ p (l.take j)).length
theorem keepZ_succ {p : Int → Bool} {l : List Int} {j : Nat} (h : j < l.length) : keepZ p (l.take (j + 1)) = keepZ p (l.take j) ++ (if p (nthZ l j) then [] else [nthZ l j]) := by
  unfold keepZ
  rw [List.take_succ_eq_append_getElem h, List.filter_append, nthZ_lt h]
  cases hp : p l[j] <;> simp [hp]
theorem keepN_yes {p : Int → Bool} {l : List Int} {j : Nat} (h : j < l.length) (hp : p (nthZ l j) = false) : keepN p l (j + 1) = keepN p l j + 1 := by
  unfold keepN; rw [keepZ_succ h, hp]; simp
theorem keepN_no {p : Int → Bool} {l : List Int} {j : Nat} (h : j < l.length) (hp : p (nthZ l j) = true) : keepN p l (j + 1) = keepN p l j := by
  unfold keepN; rw [keepZ_succ h, hp]; simp
theorem keepN_le (p : Int → Bool) (l : List Int) (j : Nat) : keepN p l j ≤ j := by
  unfold keepN keepZ
  exact Nat.le_trans (List.length_filter_le _ _) (List.length_take_le _ _)
/-- a row from which elements are being deleted: the first j have been looked at -/
def Deling (T : TypeId) (w wr : World) (base g n cap : Nat) (p : Int → Bool) (l : List Int) (j : Nat) : Prop :=
  ∃ xs, wr.ownsRow base T 1 (.slice (some ⟨g, 0, none⟩) n cap) n xs ∧ xs.take (keepN p l j) = intVals (keepZ p (l.take j)) ∧ xs.drop j = intVals (l.drop j) ∧ Below base w wr ∧ n = l.length
theorem Deling.cell {T : TypeId} {w wr : World} {base g n cap : Nat} {p : Int → Bool} {l : List Int} {j : Nat} (h : Deling T w wr base g n cap p l j) (hj : j < n) : wr.cell? ⟨g, j, none⟩ = some (.int .i64 (nthZ l j)) := by
  obtain ⟨xs, ho, ht, hd, hb, rfl⟩ := h
  have h1 := ho.1
  rw [ho.cellAt j (by omega)]
  have : (xs.drop j)[0]? = (intVals (l.drop j))[0]? := by rw [hd]
  rw [List.getElem?_drop] at this
  rw [show j = j + 0 by omega, this]
  simp [intVals, hj, nthZ_lt hj]
theorem Deling.frozen {T : TypeId} {w wr : World} {base g n cap : Nat} {p : Int → Bool} {l : List Int} {j : Nat} (h : Deling T w wr base g n cap p l j) (i : Nat) : wr.frozen? ⟨g, i, none⟩ = false := by
  obtain ⟨xs, ho, _⟩ := h
  exact ho.frozenAt i
theorem Deling.there {T : TypeId} {w wr : World} {base g n cap : Nat} {p : Int → Bool} {l : List Int} {j : Nat} (h : Deling T w wr base g n cap p l j) {i : Nat} (hi : i < n) : ∃ v, wr.cell? ⟨g, i, none⟩ = some v := by
  obtain ⟨xs, ho, _⟩ := h
  have h1 := ho.1
  exact ⟨xs[i]'(by omega), by rw [ho.cellAt i (by omega), List.getElem?_eq_getElem]⟩
theorem Deling.base {T : TypeId} {w wr : World} {base g n cap : Nat} {p : Int → Bool} {l : List Int} {j : Nat} (h : Deling T w wr base g n cap p l j) : base ≤ g := by
  obtain ⟨xs, ho, _⟩ := h
  exact (ho.lt g rfl).1
theorem Deling.later {T : TypeId} {w wr wr' : World} {base g n cap : Nat} {p : Int → Bool} {l : List Int} {j : Nat} (h : Deling T w wr base g n cap p l j) (hb' : Below wr.heap.size wr wr') (hbase : base ≤ w.heap.size) : Deling T w wr' base g n cap p l j := by
  obtain ⟨xs, ho, ht, hd, hb, hn⟩ := h
  exact ⟨xs, owns_later ho hb', ht, hd, hb.trans (hb'.mono (Nat.le_trans hbase hb.size)), hn⟩
theorem drop_succ_of {α : Type} {xs ys : List α} {j : Nat} (h : xs.drop j = ys.drop j) : xs.drop (j + 1) = ys.drop (j + 1) := by
  rw [← List.drop_drop, ← List.drop_drop, h]
theorem Deling.skip {T : TypeId} {w wr : World} {base g n cap : Nat} {p : Int → Bool} {l : List Int} {j : Nat} (h : Deling T w wr base g n cap p l j) (hj : j < n) (hp : p (nthZ l j) = true) : Deling T w wr base g n cap p l (j + 1) := by
  obtain ⟨xs, ho, ht, hd, hb, rfl⟩ := h
  refine ⟨xs, ho, ?_, ?_, hb, rfl⟩
  · rw [keepN_no hj hp, ht, keepZ_succ hj, hp]; simp
  · unfold intVals at *
    rw [List.map_drop] at *
    exact drop_succ_of hd
theorem Deling.keep {T : TypeId} {w wr : World} {base g n cap : Nat} {p : Int → Bool} {l : List Int} {j : Nat} (h : Deling T w wr base g n cap p l j) (hj : j < n) (hp : p (nthZ l j) = false) :
    Deling T w (wr.setCell ⟨g, keepN p l j, none⟩ (.int .i64 (nthZ l j))) base g n cap p l (j + 1) := by
  have hbg := h.base
  obtain ⟨xs, ho, ht, hd, hb, rfl⟩ := h
  have hk := keepN_le p l j
  have h1 := ho.1
  refine ⟨xs.set (keepN p l j) (.int .i64 (nthZ l j)), (ho.stored _ _).1, ?_, ?_, hb.setCell hbg _, rfl⟩
  · rw [keepN_yes hj hp, List.take_succ_eq_append_getElem (by simpa using by omega), List.take_set_of_le (Nat.le_refl _), ht, keepZ_succ hj, hp]
    simp [intVals]
  · rw [List.drop_set_of_lt (by omega)]
    unfold intVals at *
    rw [List.map_drop] at *
    exact drop_succ_of hd
/-- what DeleteFunc leaves -/
def Deleted (T : TypeId) (w : World) (base : Nat) (a : Option Addr) (cap : Nat) (l : List Int) (e : Ending) (w' : World) : Prop :=
  e = .returned (.slice a l.length cap) ∧ w'.ownsRow base T 1 (.slice a l.length cap) l.length (intVals l) ∧ Below base w w'
theorem owns_cut {w : World} {base : Nat} {T : TypeId} {g n m cap : Nat} {xs : List Value} (h : w.ownsRow base T 1 (.slice (some ⟨g, 0, none⟩) n cap) n xs) (hm : m ≤ n) : w.ownsRow base T 1 (.slice (some ⟨g, 0, none⟩) m cap) m (xs.take m) := by
  obtain ⟨h1, h2⟩ := h
  rcases h2 with ⟨hv, _⟩ | ⟨g', cap', cur, hv, hb, hg, hn, hc, hs, ht⟩
  · cases hv
  · simp only [Value.slice.injEq, Option.some.injEq, Addr.mk.injEq, and_true, true_and] at hv
    obtain ⟨rfl, rfl⟩ := hv
    refine ⟨by simp; omega, .inr ⟨g, cap, cur, rfl, hb, hg, by omega, hc, hs, ?_⟩⟩
    rw [← ht, List.take_take]
    congr 1
    omega
theorem setCells_owns {base : Nat} {T : TypeId} {g n cap : Nat} : ∀ (zs : List Value) (o : Nat) (w : World) (xs : List Value), w.ownsRow base T 1 (.slice (some ⟨g, 0, none⟩) n cap) n xs →
    ∃ ys, (w.setCells g o zs).ownsRow base T 1 (.slice (some ⟨g, 0, none⟩) n cap) n ys ∧ ys.take o = xs.take o ∧ w.grownBy (w.setCells g o zs) (some g)
  | [], o, w, xs, h => ⟨xs, h, rfl, ⟨rfl, rfl, rfl, Nat.le_refl _, fun _ _ _ => rfl⟩⟩
  | z :: zs, o, w, xs, h => by
    have hs := h.stored o z
    obtain ⟨ys, h1, h2, h3⟩ := setCells_owns zs (o + 1) _ _ hs.1
    have hg := hs.2
    refine ⟨ys, h1, ?_, ⟨h3.os.trans hg.os, h3.tape.trans hg.tape, h3.output.trans hg.output, Nat.le_trans hg.size h3.size, fun k hk hne => (h3.block k (Nat.lt_of_lt_of_le hk hg.size) hne).trans (hg.block k hk hne)⟩⟩
    have h4 := congrArg (List.take o) h2
    rw [List.take_take, List.take_take, Nat.min_eq_left (by omega), List.take_set_of_le (Nat.le_refl _)] at h4
    exact h4
theorem Deling.done {T : TypeId} {w wr : World} {base g n cap : Nat} {p : Int → Bool} {l : List Int} {j : Nat} (h : Deling T w wr base g n cap p l j) (hj : ¬ j < n) (zs : List Value) (hbase : base ≤ w.heap.size) :
    Deleted T w base (some ⟨g, 0, none⟩) cap (keepZ p l) (.returned (.slice (some ⟨g, 0, none⟩) (keepN p l j) cap)) (wr.setCells g (keepN p l j) zs) := by
  have hbg := h.base
  obtain ⟨xs, ho, ht, hd, hb, rfl⟩ := h
  have hk : keepZ p (l.take j) = keepZ p l := by rw [List.take_of_length_le (by omega)]
  have hkn : keepN p l j = (keepZ p l).length := by unfold keepN; rw [hk]
  obtain ⟨ys, h1, h2, h3⟩ := setCells_owns zs (keepN p l j) wr xs ho
  have h4 := owns_cut h1 (m := keepN p l j) (by rw [hkn]; unfold keepZ; exact List.length_filter_le _ _)
  rw [h2, ht, hk] at h4
  unfold Deleted
  rw [← hkn]
  refine ⟨rfl, h4, hb.trans ⟨h3.os, h3.tape, h3.output, h3.size, fun k hk => h3.block k (by have := hb.size; omega) (by intro e; cases e; omega)⟩⟩
theorem Deling.start {T : TypeId} {w wr : World} {base g cap : Nat} {p : Int → Bool} {l : List Int} {i : Nat} (ho : wr.ownsRow base T 1 (.slice (some ⟨g, 0, none⟩) l.length cap) l.length (intVals l)) (hb : Below base w wr)
    (hi : i < l.length) (hn : noneTo p l i) (hp : p (nthZ l i) = true) : keepN p l (i + 1) = i ∧ Deling T w wr base g l.length cap p l (i + 1) := by
  have hk : ∀ j, j ≤ i → keepZ p (l.take j) = l.take j := by
    intro j
    induction j with
    | zero => intro _; simp [keepZ]
    | succ j ih =>
      intro hj
      rw [keepZ_succ (by omega), ih (by omega), hn j (by omega), List.take_succ_eq_append_getElem (by omega), nthZ_lt (by omega)]
      simp
  have h1 : keepN p l i = i := by unfold keepN; rw [hk i (Nat.le_refl _)]; simp; omega
  refine ⟨by rw [keepN_no hi hp, h1], ?_⟩
  have h2 : Deling T w wr base g l.length cap p l i := ⟨intVals l, ho, by rw [h1, hk i (Nat.le_refl _)]; simp [intVals], by simp [intVals], hb, rfl⟩
  exact h2.skip hi hp
theorem idxZ_cases (p : Int → Bool) (l : List Int) : (idxZ p l = -1 ∧ keepZ p l = l) ∨ ∃ i : Nat, idxZ p l = (i : Nat) ∧ i < l.length ∧ noneTo p l i ∧ p (nthZ l i) = true := by
  unfold idxZ
  cases h : l.findIdx? p
  · left
    rw [List.findIdx?_eq_none_iff] at h
    exact ⟨rfl, by unfold keepZ; rw [List.filter_eq_self]; intro x hx; simp [h x hx]⟩
  · right
    rename_i i
    rw [List.findIdx?_eq_some_iff_getElem] at h
    obtain ⟨hi, hp, hn⟩ := h
    refine ⟨i, rfl, hi, fun j hj => ?_, by rw [nthZ_lt hi]; exact hp⟩
    have := hn j hj
    rw [nthZ_lt (by omega)]
    simpa using this
theorem Tryz.zeroInt (w : World) : (zeroValue 3).run Tryz.prog w = .ok (.int .i64 0) w := by kernel_rfl
set_option maxHeartbeats 800000 in
theorem deleteFuncInts_any (g : Nat) (caps : Array Value) (p : Int → Bool) (l : List Int) (a : Option Addr) (cap base : Nat) (w : World) (ho : w.ownsRow base 3 1 (.slice a l.length cap) l.length (intVals l)) (hlen : l.length ≤ 1000000) (hbase : base ≤ w.heap.size)
    (hf : PredInts base g caps p l w) (eg : ∀ args w, (callFunc g args).run Tryz.prog w = .ok (.enter g args) w) :
    Calls Tryz.prog 110 #[.slice a l.length cap, .func (.func g) #[] caps] w (Deleted 3 w base a cap (keepZ p l)) := by
  have HI := Lib.hid (indexFuncInts_any g caps p l a cap w (owns_ints (l := l) ho) (by omega) base hbase hf eg)
  rcases idxZ_cases p l with ⟨h1, h2⟩ | ⟨i, h1, hi, hn, hp⟩
  · have F : Hid (∀ w', Below w.heap.size w w' → Deleted 3 w base a cap (keepZ p l) (.returned (.slice a l.length cap)) w') := fun w' hb => by
      unfold Deleted; rw [h2]; exact ⟨rfl, owns_later ho hb, hb.mono hbase⟩
    have H1 := Lib.hid h1
    clear hf eg ho h2 h1
    go_enter Tryz.func110, Tryz.ntmps110
    go_wp2_with fail
    refine HI.out.mono ?_
    rintro e w2 ⟨rfl, hb2⟩
    rw [H1.out]
    go_wp2_with fail
    go_ret
    exact F.out _ hb2
  · rcases ho.2 with ⟨hv, h0⟩ | ⟨gr, cap', cur, hv, hbg, hg, hnc, hcm, hs, ht⟩
    · omega
    simp only [Value.slice.injEq] at hv
    obtain ⟨rfl, _, rfl⟩ := hv
    have H1 := Lib.hid h1
    have HO := Lib.hid ho
    have HF := Lib.hid hf
    have HP := Lib.hid hp
    have HN := Lib.hid hn
    unfold maxLen at hcm
    clear hf ho h1 hg ht hs hp hn
    go_enter Tryz.func110, Tryz.ntmps110
    go_wp2_with fail
    refine HI.out.mono ?_
    rintro e w2 ⟨rfl, hb2⟩
    rw [H1.out]
    obtain ⟨hk, hd⟩ := Deling.start (p := p) (owns_later HO.out hb2) (hb2.mono hbase) hi HN.out HP.out
    have HD := Lib.hid hd
    have HK := Lib.hid hk
    clear hd hk
    have hi1 : (((i : Nat) : Int) == -1) = false := by rw [beq_eq_false_iff_ne]; omega
    go_wp2_with fail
    go_loopw [5, 6] (fun x y wr => ∃ j : Nat, j ≤ l.length ∧ y = .int .i64 j ∧ x = .int .i64 (keepN p l j : Nat) ∧ keepN p l j < j ∧ Deling 3 w wr base gr l.length cap p l j) (fun _ y _ => l.length - (intOf y).toNat)
    case atStart => exact ⟨i + 1, by omega, by go_num, by rw [HK.out], by rw [HK.out]; omega, HD.out⟩
    case round =>
      clear HD HK
      obtain ⟨j, hj, rfl, rfl, hkj, hd⟩ := hrel
      have HD := Lib.hid hd
      have hkl := keepN_le p l j
      by_cases hlt : j < l.length
      · have c1 := hd.cell hlt
        have hbw : Below base w wr := by obtain ⟨_, _, _, _, hb, _⟩ := hd; exact hb
        clear hd
        cases hpj : p (nthZ l j)
        · go_wp2_with fail
          refine (HF.out j hlt _ hbw).mono ?_
          rintro e w3 ⟨rfl, hb3⟩
          have hd3 := HD.out.later hb3 hbase
          obtain ⟨v, c2⟩ := hd3.there (i := keepN p l j) (by omega)
          have c3 := hd3.frozen (keepN p l j)
          have HD3 := Lib.hid (hd3.keep hlt hpj)
          have HK := Lib.hid (keepN_yes hlt hpj)
          clear hd3 hb3 c1 hbw
          go_wp2_with fail
          go_roundw
          case rel => exact ⟨j + 1, by omega, by go_num, by rw [HK.out]; go_num, by rw [HK.out]; omega, HD3.out⟩
          case measure => simp [intOf]; omega
        · go_wp2_with fail
          refine (HF.out j hlt _ hbw).mono ?_
          rintro e w3 ⟨rfl, hb3⟩
          have HD3 := Lib.hid ((HD.out.later hb3 hbase).skip hlt hpj)
          have HK := Lib.hid (keepN_no hlt hpj)
          clear hb3 c1 hbw
          go_wp2_with fail
          go_roundw
          case rel => exact ⟨j + 1, by omega, by go_num, by rw [HK.out], by rw [HK.out]; omega, HD3.out⟩
          case measure => simp [intOf]; omega
      · have hcl := fun ty => Lib.run_clear_slice (P := Tryz.prog) wr 45 3 ty (.int .i64 0) Tryz.underlying45 Tryz.zeroInt rfl rfl gr (keepN p l j) (l.length - keepN p l j) (cap - keepN p l j) (by omega) (fun t ht => by obtain ⟨v, hv⟩ := hd.there (i := keepN p l j + t) (by omega); rw [hv]; rfl) (fun t ht => hd.frozen _)
        have HF2 := Lib.hid (hd.done hlt (List.replicate (l.length - keepN p l j) (.int .i64 0)) hbase)
        have hne : ¬ cap = keepN p l j := by omega
        clear hd
        go_wp2_with fail
        go_ret
        exact HF2.out
end Go.Proofs.YtgoeadgpbidgiaaGreatDoor
namespace Go.Proofs.YtgoeadgpbidgiaaGreatDoor
open Go.RowKit
set_option linter.unusedVariables false
def idxList (m : Nat) : List Int := (List.range m).map Int.ofNat
theorem idxList_len (m : Nat) : (idxList m).length = m := by simp [idxList]
theorem idxList_nth {m j : Nat} (h : j < m) : nthZ (idxList m) j = (j : Nat) := by rw [nthZ_lt (by rw [idxList_len]; exact h)]; simp [idxList]
theorem idxVals_eq (m : Nat) : idxVals m = intVals (idxList m) := by simp [idxVals, intVals, idxList]
/-- a function value that answers p for the elements below m, in every world that is as w below B -/
def PredEl (B : Nat) (g : Nat) (caps : Array Value) (p : Nat → Bool) (m : Nat) (w : World) : Prop :=
  ∀ j, j < m → ∀ W, Below B w W → Calls Tryz.prog g (#[.int .i64 (j : Nat)] ++ caps) W fun e W' => e = .returned (.bool (p j)) ∧ Below W.heap.size W W'
theorem PredEl.later {B : Nat} {g : Nat} {caps : Array Value} {p : Nat → Bool} {m : Nat} {w w1 : World} (h : PredEl B g caps p m w) (hb : Below B w w1) : PredEl B g caps p m w1 :=
  fun j hj W hW => h j hj W (hb.trans hW)
theorem PredEl.mono {B B' : Nat} {g : Nat} {caps : Array Value} {p : Nat → Bool} {m : Nat} {w : World} (h : PredEl B g caps p m w) (hb : B ≤ B') : PredEl B' g caps p m w :=
  fun j hj W hW => h j hj W (hW.mono hb)
/-- the elements of a valid table with a property -/
def thoseL (n : Int) (l : List Int) (p : Nat → Bool) : List Int := if tabB n l then ((List.range n.toNat).filter p).map Int.ofNat else []
theorem keepZ_idx (m : Nat) (p : Nat → Bool) : keepZ (fun x => !p x.toNat) (idxList m) = ((List.range m).filter p).map Int.ofNat := by
  unfold keepZ idxList
  rw [List.filter_map]
  congr 1
  apply List.filter_congr
  intro x _
  simp
/-- the closure that those and all hand on -/
theorem notPred_those (B g : Nat) (caps : Array Value) (p : Nat → Bool) (m : Nat) (w w1 : World) (b1 : Nat) (h : PredEl B g caps p m w) (hB : B ≤ w.heap.size) (hb1 : b1 < w1.heap.size) (hw : Below w.heap.size w w1)
    (h1 : w1.cell? ⟨b1, 0, none⟩ = some (.func (.func g) #[] caps)) (eg : ∀ args w, (callFunc g args).run Tryz.prog w = .ok (.enter g args) w) :
    PredInts w1.heap.size 112 #[.pointer (some ⟨b1, 0, none⟩)] (fun x => !p x.toNat) (idxList m) w1 := by
  intro j hj W hW
  rw [idxList_len] at hj
  rw [idxList_nth hj]
  have g1 : W.cell? ⟨b1, 0, none⟩ = some (.func (.func g) #[] caps) := by rw [hW.cell hb1]; exact h1
  have HC := Lib.hid (h j hj W ((hw.mono hB).trans (hW.mono (Nat.le_trans hB hw.size))))
  clear h1 hW hb1 hw h
  go_enter Tryz.func112, Tryz.ntmps112
  go_wp2_with fail
  refine HC.out.mono ?_
  rintro e w2 ⟨rfl, hb2⟩
  go_wp2_with fail
  go_ret
  exact ⟨by simp, hb2⟩
theorem retSl_nil (T : TypeId) (w w' : World) (h : Below w.heap.size w w') : RetSl T 1 0 [] w (.returned (.slice none 0 0)) w' := ⟨none, 0, rfl, World.ownsRow_nil _ _ _ _, h⟩
set_option maxHeartbeats 800000 in
theorem those_any (n : Int) (l : List Int) (a : Option Addr) (cap : Nat) (w : World) (hl : IntsIn w a l) (hlen : l.length ≤ 2 ^ 47) (B g : Nat) (caps : Array Value) (p : Nat → Bool) (hB : B ≤ w.heap.size)
    (h : tabB n l = true → PredEl B g caps p n.toNat w) (eg : ∀ args w, (callFunc g args).run Tryz.prog w = .ok (.enter g args) w) :
    Calls Tryz.prog 66 #[.agg #[.int .i64 n, .slice a l.length cap], .func (.func g) #[] caps] w (RetSl 3 1 (thoseL n l p).length (intVals (thoseL n l p)) w) := by
  have HL := Lib.hid hl
  have HP := Lib.hid h
  clear hl h
  cases ht : tabB n l
  · have F : Hid (∀ w', Below w.heap.size w w' → RetSl 3 1 (thoseL n l p).length (intVals (thoseL n l p)) w (.returned (.slice none 0 0)) w') := fun w' hb => by
      unfold thoseL; rw [ht]; exact retSl_nil _ _ _ hb
    go_enter Tryz.func66, Tryz.ntmps66
    go_wp2_with fail
    refine (implTableOk_any n l a cap _ (HL.out.later (((Below.refl _ _).alloc (Nat.le_refl _) _).alloc (by simp) _)) hlen).mono ?_
    rintro e w2 ⟨rfl, hb2⟩
    have hbel : Below w.heap.size w w2 := Below.now (((Below.refl w.heap.size w).alloc (Nat.le_refl _) _).alloc (by simp) _) hb2
    clear hb2
    go_wp2_with fail
    go_ret
    exact F.out _ hbel
  · obtain ⟨m, ln, rfl, hln, hT⟩ := tabOk_out ht
    have hm1 := hT.hi
    have hm0 := hT.lo
    have F : Hid (thoseL (m : Nat) l p = keepZ (fun x => !p x.toNat) (idxList m)) := by
      rw [keepZ_idx]; unfold thoseL; rw [ht]; rfl
    have HPP := Lib.hid (HP.out ht)
    simp only [Int.toNat_natCast] at HPP
    clear hT hln
    go_enter Tryz.func66, Tryz.ntmps66
    go_wp2_with fail
    refine (implTableOk_any _ l a cap _ (HL.out.later (((Below.refl _ _).alloc (Nat.le_refl _) _).alloc (by simp) _)) hlen).mono ?_
    rintro e w2 ⟨rfl, hb2⟩
    have hbel : Below w.heap.size w w2 := Below.now (((Below.refl w.heap.size w).alloc (Nat.le_refl _) _).alloc (by simp) _) hb2
    have hc : w2.cell? ⟨w.heap.size + 1, 0, none⟩ = some (.func (.func g) #[] caps) := by rw [hb2.cell (by simp)]; simp
    have hx : w2.cell? ⟨w.heap.size, 0, none⟩ = some (.int .i64 (m : Nat)) := by rw [hb2.cell (by simp; omega)]; simp
    have hz : w.heap.size + 1 < w2.heap.size := by have := hb2.size; simp at this; omega
    clear hb2
    go_wp2_with fail
    refine (indices_any m _ (by omega)).mono ?_
    rintro e w3 ⟨ai, ci, rfl, ho, hb3⟩
    have hbel3 := Below.now hbel hb3
    have hc3 : w3.cell? ⟨w.heap.size + 1, 0, none⟩ = some (.func (.func g) #[] caps) := by rw [hb3.cell hz]; exact hc
    have hz3 : w.heap.size + 1 < w3.heap.size := by have := hb3.size; omega
    have hs3 := hb3.size
    rw [idxVals_eq] at ho
    have HD := deleteFuncInts_any 112 #[.pointer (some ⟨w.heap.size + 1, 0, none⟩)] (fun x => !p x.toNat) (idxList m) ai ci w2.heap.size w3 (by rw [idxList_len]; exact ho) (by rw [idxList_len]; omega) hs3
      (fun j hj W hW => notPred_those B g caps p m w w2 _ HPP.out hB hz hbel hc eg j hj W ((hb3.trans hW).mono (Nat.le_refl _))) (enters_of Tryz.func112 (by kernel_rfl) rfl)
    rw [idxList_len] at HD
    have HD' := Lib.hid HD
    clear HD ho hc hb3 hc3 hx hbel
    go_wp2_with fail
    refine HD'.out.mono ?_
    rintro e w4 ⟨rfl, ho4, hb4⟩
    have F2 : Hid (RetSl 3 1 (thoseL (m : Nat) l p).length (intVals (thoseL (m : Nat) l p)) w (.returned (.slice ai (keepZ (fun x => !p x.toNat) (idxList m)).length ci)) w4) := by
      rw [F.out]
      exact ⟨_, _, rfl, owns_mono ho4 (by omega), hbel3.trans (hb4.mono (by omega))⟩
    clear ho4 hb4 hbel3
    go_wp2_with fail
    go_ret
    exact F2.out
end Go.Proofs.YtgoeadgpbidgiaaGreatDoor
namespace Go.Proofs.YtgoeadgpbidgiaaGreatDoor
open Go.RowKit
set_option linter.unusedVariables false
theorem map_toNat (ln : List Nat) : (ln.map Int.ofNat).map Int.toNat = ln := by rw [List.map_map]; exact List.map_id'' (fun x => rfl) ln
end Go.Proofs.YtgoeadgpbidgiaaGreatDoor
namespace Go.Proofs.YtgoeadgpbidgiaaGreatDoor
open Go.RowKit
set_option linter.unusedVariables false
def unB (m : Nat) (ln : List Nat) (i k : Nat) : Bool := !(decide (tm m ln i k = 0) && decide (tm m ln k i = 0))
def isUnit (m : Nat) (ln : List Nat) (i : Nat) : Bool := !(List.range m).all (unB m ln i)
def regB (m : Nat) (ln : List Nat) (i x : Nat) : Bool := !decide (tm m ln (tm m ln i x) i = i)
def isReg (m : Nat) (ln : List Nat) (i : Nat) : Bool := !(List.range m).all (regB m ln i)
/-- UnitsOf as a function of plain data -/
def unitsOfF (n : Int) (l : List Int) : List Int := thoseL n l (isUnit n.toNat (l.map Int.toNat))
/-- RegularOf as a function of plain data -/
def regularOfF (n : Int) (l : List Int) : List Int := thoseL n l (isReg n.toNat (l.map Int.toNat))
end Go.Proofs.YtgoeadgpbidgiaaGreatDoor
namespace Go.Proofs.YtgoeadgpbidgiaaGreatDoor
open Go.RowKit
set_option linter.unusedVariables false
def boolVals (m : Nat) (f : Nat → Bool) : List Value := (List.range m).map fun j => Value.bool (f j)
theorem boolVals_len (m : Nat) (f : Nat → Bool) : (boolVals m f).length = m := by simp [boolVals]
theorem boolVals_at {m j : Nat} {f : Nat → Bool} (h : j < m) : (boolVals m f)[j]? = some (.bool (f j)) := by simp [boolVals, h]
theorem boolVals_congr {m : Nat} {f g : Nat → Bool} (h : ∀ j, j < m → f j = g j) : boolVals m f = boolVals m g := by
  unfold boolVals
  apply List.map_congr_left
  intro j hj
  rw [h j (List.mem_range.1 hj)]
/-- a row of m bools of the call's own, in block g -/
def BoolRow (T : TypeId) (w : World) (base g m : Nat) (f : Nat → Bool) : Prop := w.ownsRow base T 1 (.slice (some ⟨g, 0, none⟩) m m) m (boolVals m f)
theorem BoolRow.cell {T : TypeId} {w : World} {base g m : Nat} {f : Nat → Bool} (h : BoolRow T w base g m f) {j : Nat} (hj : j < m) : w.cell? ⟨g, j, none⟩ = some (.bool (f j)) := by
  have := World.ownsRow.cellAt h j (by omega)
  rw [this, boolVals_at hj]
theorem BoolRow.frozen {T : TypeId} {w : World} {base g m : Nat} {f : Nat → Bool} (h : BoolRow T w base g m f) (j : Nat) : w.frozen? ⟨g, j, none⟩ = false := World.ownsRow.frozenAt h j
theorem BoolRow.range {T : TypeId} {w : World} {base g m : Nat} {f : Nat → Bool} (h : BoolRow T w base g m f) : base ≤ g ∧ g < w.heap.size := World.ownsRow.lt h g rfl
theorem BoolRow.later {T : TypeId} {w w' : World} {base g m : Nat} {f : Nat → Bool} (h : BoolRow T w base g m f) (hb : Below w.heap.size w w') : BoolRow T w' base g m f := owns_later h hb
theorem BoolRow.congr {T : TypeId} {w : World} {base g m : Nat} {f f' : Nat → Bool} (h : BoolRow T w base g m f) (hf : ∀ j, j < m → f j = f' j) : BoolRow T w base g m f' := by
  unfold BoolRow; rw [← boolVals_congr hf]; exact h
theorem BoolRow.store {T : TypeId} {w : World} {base g m : Nat} {f : Nat → Bool} (h : BoolRow T w base g m f) (i : Nat) (v : Bool) : BoolRow T (w.setCell ⟨g, i, none⟩ (.bool v)) base g m (fun j => if j = i then v else f j) := by
  have hs := (World.ownsRow.stored h i (.bool v)).1
  have e : (boolVals m f).set i (.bool v) = boolVals m (fun j => if j = i then v else f j) := by
    apply List.ext_getElem?
    intro j
    rw [List.getElem?_set, boolVals_len]
    by_cases hj : j < m
    · rw [boolVals_at (f := fun j => if j = i then v else f j) hj]
      by_cases e : i = j
      · subst e; simp [hj]
      · rw [if_neg e, boolVals_at hj, if_neg (by omega)]
    · rw [List.getElem?_eq_none (l := boolVals m fun j => if j = i then v else f j) (by rw [boolVals_len]; omega)]
      by_cases e : i = j
      · subst e; simp [hj]
      · rw [if_neg e, List.getElem?_eq_none (by rw [boolVals_len]; omega)]
  unfold BoolRow
  rw [← e]
  exact hs
theorem BoolRow.start (w : World) (T : TypeId) (cs : Array Value) (m : Nat) (hs : cs.toList = boolVals m fun _ => false) (hn : m ≤ maxLen) : BoolRow T (w.alloc (.cells cs T)) w.heap.size w.heap.size m fun _ => false := by
  have h := World.ownsRow_lit (e := T) (size := 1) w cs m (Nat.le_refl _) hn (by rw [← Array.length_toList, hs, boolVals_len]; omega)
  rw [hs] at h
  exact h
theorem BoolRow.ge {T : TypeId} {w : World} {base base' g m : Nat} {f : Nat → Bool} (h : BoolRow T w base g m f) (hb : base' ≤ base) : BoolRow T w base' g m f := owns_mono h hb
end Go.Proofs.YtgoeadgpbidgiaaGreatDoor
namespace Go.Proofs.YtgoeadgpbidgiaaGreatDoor
open Go.RowKit
set_option linter.unusedVariables false
def ivs (q : List Nat) : List Value := intVals (q.map Int.ofNat)
theorem ivs_app (q : List Nat) (y : Nat) : ivs (q ++ [y]) = ivs q ++ [.int .i64 (y : Nat)] := by simp [ivs, intVals]
theorem nats_cell {w : World} {a : Option Addr} {z : List Nat} (h : NatsIn w a z) {j : Nat} (hj : j < z.length) : ∃ b off, a = some ⟨b, off, none⟩ ∧ ∀ W, Below w.heap.size w W → W.cell? ⟨b, off + j, none⟩ = some (.int .i64 ((z[j] : Nat) : Int)) := by
  obtain ⟨b, off, ha, hb, hc⟩ := IntsIn.cell h (i := j) (by simpa using hj)
  refine ⟨b, off, ha, fun W hW => ?_⟩
  rw [hW.cell hb, hc j (by simpa using hj), nthZ_lt (by simpa using hj)]
  simp
theorem map_toNat' (l : List Nat) : (l.map Int.ofNat).map Int.toNat = l := by rw [List.map_map]; exact List.map_id'' (fun x => rfl) l
end Go.Proofs.YtgoeadgpbidgiaaGreatDoor
namespace Go.Proofs.YtgoeadgpbidgiaaGreatDoor
open Go.RowKit
set_option linter.unusedVariables false
/-- the image of a letter -/
def imN (zn : List Nat) (c : UInt8) : Nat := zn.getD (c.toNat - 97) 0
/-- the value of the first j letters -/
def valTo (m : Nat) (ln zn : List Nat) (w : ByteArray) (j : Nat) : Nat := (w.data.toList.take j).foldl (fun x c => tm m ln x (imN zn c)) 0
def valF (m : Nat) (ln zn : List Nat) (w : ByteArray) : Nat := valTo m ln zn w w.size
/-- the letters have images -/
def letIn (zn : List Nat) (w : ByteArray) : Prop := ∀ c ∈ w.data.toList, 97 ≤ c.toNat ∧ c.toNat - 97 < zn.length
section
variable {m : Nat} {ln zn : List Nat} {w : ByteArray}
theorem valTo_zero : valTo m ln zn w 0 = 0 := by simp [valTo]
theorem valTo_succ {j : Nat} (h : j < w.size) : valTo m ln zn w (j + 1) = tm m ln (valTo m ln zn w j) (imN zn w[j]) := by
  unfold valTo
  rw [List.take_succ_eq_append_getElem (by simpa using h), List.foldl_append]
  simp [ByteArray.getElem_eq_getElem_data]
theorem valTo_full {j : Nat} (h : ¬ j < w.size) (hj : j ≤ w.size) : valTo m ln zn w j = valF m ln zn w := by
  obtain rfl : j = w.size := by omega
  rfl
theorem imN_lt (hz : ∀ x ∈ zn, x < m) {c : UInt8} (h : c.toNat - 97 < zn.length) : imN zn c < m := by
  unfold imN
  rw [List.getD_eq_getElem?_getD, List.getElem?_eq_getElem h]
  exact hz _ (List.getElem_mem h)
theorem valTo_lt (hT : Tb m ln) (hz : ∀ x ∈ zn, x < m) (hw : letIn zn w) : ∀ j, j ≤ w.size → valTo m ln zn w j < m
  | 0, _ => by rw [valTo_zero]; exact hT.lo
  | j + 1, h => by
    rw [valTo_succ (by omega)]
    refine hT.tm_lt (valTo_lt hT hz hw j (by omega)) (imN_lt hz (hw _ ?_).2)
    rw [ByteArray.getElem_eq_getElem_data]
    exact Array.getElem_mem_toList _
theorem letIn_at (hw : letIn zn w) {j : Nat} (h : j < w.size) : 97 ≤ w[j].toNat ∧ w[j].toNat - 97 < zn.length := hw _ (by
  rw [ByteArray.getElem_eq_getElem_data]
  exact Array.getElem_mem_toList _)
theorem letIn_of {k : Int} (h : wordOkB k w = true) (hk : k = (zn.length : Int)) : letIn zn w := fun c hc => by
  unfold wordOkB allB at h
  simp only [Bool.and_eq_true, List.all_eq_true, decide_eq_true_eq] at h
  have := letB_true (h.2.2 c hc)
  omega
end
/-- ImagesOk as a function of plain data -/
def imgB (n : Int) (l z : List Int) : Bool := tabB n l && (inB (z.length : Int) 1 4 && rngB n z)
theorem imgB_no1 {n : Int} {l z : List Int} (h : tabB n l = false) : imgB n l z = false := by simp [imgB, h]
theorem imgB_no2 {n : Int} {l z : List Int} (h : inB (z.length : Int) 1 4 = false) : imgB n l z = false := by simp [imgB, h]
theorem imgB_yes {n : Int} {l z : List Int} (h : tabB n l = true) (h2 : inB (z.length : Int) 1 4 = true) : imgB n l z = rngB n z := by simp [imgB, h, h2]
theorem nats_of {m : Nat} {z : List Int} (h : rngB (m : Nat) z = true) : ∃ zn : List Nat, z = zn.map Int.ofNat ∧ ∀ x ∈ zn, x < m := by
  unfold rngB at h
  rw [List.all_eq_true] at h
  refine ⟨z.map Int.toNat, ?_, fun x hx => ?_⟩
  · rw [List.map_map]
    symm
    have : ∀ x ∈ z, (Int.ofNat ∘ Int.toNat) x = x := fun x hx => by
      have := inB_bounds (h x hx)
      simp; omega
    rw [List.map_congr_left this]; simp
  · obtain ⟨y, hy, rfl⟩ := List.mem_map.1 hx
    have := inB_bounds (h y hy)
    omega
theorem imgB_out {n : Int} {l z : List Int} (h : imgB n l z = true) : ∃ (m : Nat) (ln zn : List Nat), n = (m : Nat) ∧ l = ln.map Int.ofNat ∧ TabOk m ln ∧ z = zn.map Int.ofNat ∧ (∀ x ∈ zn, x < m) ∧ 1 ≤ zn.length ∧ zn.length ≤ 4 := by
  simp only [imgB, Bool.and_eq_true] at h
  obtain ⟨h1, h2, h3⟩ := h
  obtain ⟨m, ln, rfl, rfl, hT⟩ := tabOk_out h1
  obtain ⟨zn, rfl, hz⟩ := nats_of h3
  have := inB_bounds h2
  simp only [List.length_map] at this
  exact ⟨m, ln, zn, rfl, rfl, hT, rfl, hz, by omega, by omega⟩
/-- both sides of each rule have one value -/
def fitP (m : Nat) (ln zn : List Nat) (R : List RulD) : Prop := ∀ r ∈ R, valF m ln zn r.1 = valF m ln zn r.2
/-- SatisfiesRules -/
def satP (k : Int) (R : List RulD) (n : Int) (l z : List Int) : Prop := ((rulesP k R ∧ imgB n l z = true) ∧ (z.length : Int) = k) ∧ fitP n.toNat (l.map Int.toNat) (z.map Int.toNat) R
theorem satP_words {k : Int} {R : List RulD} {zn : List Nat} (h : rulesP k R) (hk : (zn.length : Int) = k) : ∀ r ∈ R, letIn zn r.1 ∧ letIn zn r.2 := fun r hr => by
  obtain ⟨⟨⟨h1, h2⟩, _⟩, _⟩ := h.2 r hr
  exact ⟨letIn_of h1 hk.symm, letIn_of h2 hk.symm⟩
theorem fitP_iff {m : Nat} {ln zn : List Nat} {R : List RulD} : fitP m ln zn R ↔ ¬ ∃ r ∈ R, ¬ valF m ln zn r.1 = valF m ln zn r.2 := by
  constructor
  · rintro h ⟨r, hr, hn⟩; exact hn (h r hr)
  · intro h r hr; exact Classical.byContradiction fun hn => h ⟨r, hr, hn⟩
/-- a list that is collected is as long as it was exactly if it has no repetition -/
theorem coll_nodup {q : List Int} : (collL q).length = q.length ↔ q.Nodup := by
  constructor
  · intro h
    refine Classical.byContradiction fun hn => ?_
    have hd : ∃ x t1 t2, q = t1 ++ x :: t2 ∧ (x ∈ t1 ∨ x ∈ t2) := by
      clear h
      induction q with
      | nil => exact absurd List.nodup_nil hn
      | cons y q ih =>
        by_cases hy : y ∈ q
        · exact ⟨y, [], q, rfl, .inr hy⟩
        · obtain ⟨x, t1, t2, rfl, hx⟩ := ih (fun h => hn (List.nodup_cons.2 ⟨hy, h⟩))
          exact ⟨x, y :: t1, t2, rfl, hx.imp (List.mem_cons_of_mem _) id⟩
    obtain ⟨x, t1, t2, rfl, hx⟩ := hd
    have e : collL (t1 ++ x :: t2) = collL (t1 ++ t2) := by
      refine sorted_extZ _ _ (compact_lt (sortL_le _)) (compact_lt (sortL_le _)) fun y => ?_
      rw [collL, compact_mem, sortL_mem, collL, compact_mem, sortL_mem]
      simp only [List.mem_append, List.mem_cons]
      constructor
      · rintro (h | rfl | h)
        · exact .inl h
        · exact hx
        · exact .inr h
      · rintro (h | h)
        · exact .inl h
        · exact .inr (.inr h)
    rw [e] at h
    have := collL_len (t1 ++ t2)
    simp only [List.length_append, List.length_cons] at h this
    omega
  · intro h
    have hs : (sortL q).Pairwise (· < ·) := by
      have h1 := sortL_le q
      have h2 : (sortL q).Nodup := (List.mergeSort_perm q _).nodup_iff.2 h
      refine (List.Pairwise.and h1 h2).imp fun ⟨a, b⟩ => ?_
      omega
    have e : collL q = sortL q := sorted_extZ _ _ (compact_lt (sortL_le _)) hs fun y => by rw [collL, compact_mem]
    rw [e, sortL_len]
end Go.Proofs.YtgoeadgpbidgiaaGreatDoor
namespace Go.Proofs.YtgoeadgpbidgiaaGreatDoor
open Go.RowKit
set_option linter.unusedVariables false
/-- what is laid of a byte of a word ahead of the walk -/
theorem byte_facts {zn : List Nat} {w : ByteArray} (hw : letIn zn w) {j : Nat} (h : j < w.size) : ∃ q : Nat, q < zn.length ∧ imN zn w[j] = zn.getD q 0 ∧ (w[j].toNat : Int) = 97 + (q : Int) := by
  obtain ⟨h1, h2⟩ := letIn_at hw h
  exact ⟨w[j].toNat - 97, h2, rfl, by omega⟩
theorem img_cell {zn : List Nat} {W : World} {az : Option Addr} (hz : NatsIn W az zn) {q : Nat} (hq : q < zn.length) : ∃ b off, az = some ⟨b, off, none⟩ ∧ W.cell? ⟨b, off + q, none⟩ = some (.int .i64 ((zn.getD q 0 : Nat) : Int)) := by
  obtain ⟨b, off, ha, hc⟩ := nats_cell hz hq
  refine ⟨b, off, ha, ?_⟩
  rw [hc W (Below.refl _ _)]
  simp [List.getD_eq_getElem?_getD, hq]
end Go.Proofs.YtgoeadgpbidgiaaGreatDoor
namespace Go.Proofs.YtgoeadgpbidgiaaGreatDoor
open Go.RowKit
set_option linter.unusedVariables false
end Go.Proofs.YtgoeadgpbidgiaaGreatDoor
