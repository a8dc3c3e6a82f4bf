/-
  ZeroOf, of the program and of the reference.
-/
import Derived.Test.YtmgdglghjlggnaaGreatGway04
import Derived.Shelf.Abstract
import Derived.Test.YtmgdglghjlggnaaGreatGway01
import Derived.Lib.SliceRun
namespace Go.Proofs.YtmgdglghjlggnaaGreat
open Go.RowKit
set_option linter.unusedVariables false
/-- a function value that answers p for the numbers of a list in every world that is as w below block B, and keeps what lay there -/
def PredInts (B : Nat) (g : Nat) (caps : Array Value) (p : Int → Bool) (l : List Int) (w : World) : Prop :=
  ∀ j, j < l.length → ∀ W, Below B w W → Calls Tryz.prog g (#[.int .i64 (nthZ l j)] ++ caps) W fun e W' => e = .returned (.bool (p (nthZ l j))) ∧ Below W.heap.size W W'
/-- the first place with a property, or -1 -/
def idxZ (p : Int → Bool) (l : List Int) : Int := match l.findIdx? p with | some i => i | none => -1
/-- none of the first j has it -/
def noneTo (p : Int → Bool) (l : List Int) (j : Nat) : Prop := ∀ i, i < j → p (nthZ l i) = false
theorem noneTo_zero (p : Int → Bool) (l : List Int) : noneTo p l 0 := fun _ h => absurd h (Nat.not_lt_zero _)
theorem noneTo_succ {p : Int → Bool} {l : List Int} {j : Nat} (h : noneTo p l j) (hj : p (nthZ l j) = false) : noneTo p l (j + 1) := fun i hi => by
  by_cases e : i = j
  · rw [e]; exact hj
  · exact h i (by omega)
theorem idxZ_at {p : Int → Bool} {l : List Int} {j : Nat} (h : noneTo p l j) (hlt : j < l.length) (hj : p (nthZ l j) = true) : idxZ p l = j := by
  have : l.findIdx? p = some j := by
    rw [List.findIdx?_eq_some_iff_getElem]
    refine ⟨hlt, by rw [← nthZ_lt hlt]; exact hj, fun i hi => ?_⟩
    have := h i hi
    rw [nthZ_lt (by omega)] at this
    simp [this]
  simp [idxZ, this]
theorem idxZ_none {p : Int → Bool} {l : List Int} {j : Nat} (h : noneTo p l j) (hlt : ¬ j < l.length) : idxZ p l = -1 := by
  have : l.findIdx? p = none := by
    rw [List.findIdx?_eq_none_iff]
    intro x hx
    obtain ⟨i, hi, rfl⟩ := List.getElem_of_mem hx
    rw [← nthZ_lt hi]
    exact h i (by omega)
  simp [idxZ, this]
theorem idxZ_nonneg (p : Int → Bool) (l : List Int) : decide (0 ≤ idxZ p l) = l.any p := by
  unfold idxZ
  cases h : l.findIdx? p
  · rw [List.findIdx?_eq_none_iff] at h
    have : l.any p = false := by rw [List.any_eq_false]; intro x hx; simp [h x hx]
    simp [this]
  · rename_i i
    rw [List.findIdx?_eq_some_iff_getElem] at h
    obtain ⟨hi, hp, _⟩ := h
    have : l.any p = true := by rw [List.any_eq_true]; exact ⟨l[i], List.getElem_mem hi, hp⟩
    simp [this]
set_option maxHeartbeats 400000 in
theorem indexFuncInts_any (g : Nat) (caps : Array Value) (p : Int → Bool) (l : List Int) (a : Option Addr) (cap : Nat) (w : World) (hl : IntsIn w a l) (hlen : l.length ≤ 2 ^ 47)
    (B : Nat) (hB : B ≤ w.heap.size) (hf : PredInts B g caps p l w) (eg : ∀ args w, (callFunc g args).run Tryz.prog w = .ok (.enter g args) w) :
    Calls Tryz.prog 63 #[.slice a l.length cap, .func (.func g) #[] caps] w fun e w' => e = .returned (.int .i64 (idxZ p l)) ∧ Below w.heap.size w w' := by
  have HF := Lib.hid hf
  clear hf
  go_enter Tryz.func63, Tryz.ntmps63
  go_wp2
  go_loopw [8] (fun i wr => ∃ j : Nat, j ≤ l.length ∧ i = .int .i64 j ∧ noneTo p l j ∧ Below w.heap.size w wr) (fun i _ => l.length - (intOf i).toNat)
  case atStart => exact ⟨0, Nat.zero_le _, rfl, noneTo_zero _ _, Below.refl _ _⟩
  case round =>
    obtain ⟨j, hj, rfl, hall, hbel⟩ := hrel
    have H := Lib.hid hall
    clear hall
    by_cases hlt : j < l.length
    · obtain ⟨b, off, rfl, hb, hc⟩ := hl.cell hlt
      have h1 : wr.cell? ⟨b, off + j, none⟩ = some (.int .i64 (nthZ l j)) := by rw [hbel.cell hb]; exact hc j hlt
      clear hc
      cases hp : p (nthZ l j)
      · have F := Lib.hid (noneTo_succ H.out hp)
        go_wp2_with fail
        refine (HF.out j hlt _ (hbel.mono hB)).mono ?_
        rintro e w2 ⟨rfl, hb2⟩
        have hbel2 := Below.now hbel hb2
        clear hb2 h1 hbel
        go_wp2_with fail
        go_roundw
        case rel => exact ⟨j + 1, by omega, by go_num, F.out, hbel2⟩
        case measure => simp [intOf]; omega
      · have F := Lib.hid (idxZ_at H.out hlt hp)
        go_wp2_with fail
        refine (HF.out j hlt _ (hbel.mono hB)).mono ?_
        rintro e w2 ⟨rfl, hb2⟩
        have hbel2 := Below.now hbel hb2
        clear hb2 h1 hbel
        go_wp2_with fail
        go_ret
        exact ⟨ret_int F.out.symm, hbel2⟩
    · have F := Lib.hid (idxZ_none H.out hlt)
      go_wp2_with fail
      go_ret
      exact ⟨ret_int F.out.symm, hbel⟩
set_option maxHeartbeats 400000 in
theorem containsFuncInts_any (g : Nat) (caps : Array Value) (p : Int → Bool) (l : List Int) (a : Option Addr) (cap : Nat) (w : World) (hl : IntsIn w a l) (hlen : l.length ≤ 2 ^ 47)
    (B : Nat) (hB : B ≤ w.heap.size) (hf : PredInts B g caps p l w) (eg : ∀ args w, (callFunc g args).run Tryz.prog w = .ok (.enter g args) w) :
    Calls Tryz.prog 41 #[.slice a l.length cap, .func (.func g) #[] caps] w fun e w' => e = .returned (.bool (l.any p)) ∧ Below w.heap.size w w' := by
  have HC := Lib.hid (indexFuncInts_any g caps p l a cap w hl hlen B hB hf eg)
  have HI := Lib.hid (idxZ_nonneg p l)
  clear hf eg hl
  go_enter Tryz.func41, Tryz.ntmps41
  go_wp2_with fail
  refine HC.out.mono ?_
  rintro e w2 ⟨rfl, hb2⟩
  go_wp2_with fail
  go_ret
  exact ⟨ret_bool HI.out, hb2⟩
/-- the closure of allWithin -/
theorem allWithinPred (lo hi : Int) (l : List Int) (w : World) (b1 b2 : Nat) (hb1 : b1 < w.heap.size) (hb2 : b2 < w.heap.size)
    (h1 : w.cell? ⟨b1, 0, none⟩ = some (.int .i64 lo)) (h2 : w.cell? ⟨b2, 0, none⟩ = some (.int .i64 hi)) :
    PredInts w.heap.size 77 #[.pointer (some ⟨b1, 0, none⟩), .pointer (some ⟨b2, 0, none⟩)] (fun x => !inB x lo hi) l w := by
  intro j hj W hW
  have g1 : W.cell? ⟨b1, 0, none⟩ = some (.int .i64 lo) := by rw [hW.cell hb1]; exact h1
  have g2 : W.cell? ⟨b2, 0, none⟩ = some (.int .i64 hi) := by rw [hW.cell hb2]; exact h2
  clear h1 h2 hW hb1 hb2
  go_enter Tryz.func77, Tryz.ntmps77
  go_wp2_with (go_at_call 28; refine (within_any _ _ _ _).mono ?_; rintro e w' ⟨rfl, rfl⟩)
  go_ret
  exact ⟨rfl, Below.refl _ _⟩
theorem any_not_all {α : Type} (l : List α) (p : α → Bool) : (!l.any fun x => !p x) = l.all p := by simp [List.all_eq_not_any_not]
set_option maxHeartbeats 400000 in
theorem allWithin_any (lo hi : Int) (l : List Int) (a : Option Addr) (cap : Nat) (w : World) (hl : IntsIn w a l) (hlen : l.length ≤ 2 ^ 47) :
    Calls Tryz.prog 52 #[.slice a l.length cap, .int .i64 lo, .int .i64 hi] w fun e w' => e = .returned (.bool (l.all fun x => inB x lo hi)) ∧ Below w.heap.size w w' := by
  have HA := Lib.hid (any_not_all l fun x => inB x lo hi)
  have HC : Hid (∀ W b1 b2, IntsIn W a l → PredInts W.heap.size 77 #[.pointer (some ⟨b1, 0, none⟩), .pointer (some ⟨b2, 0, none⟩)] (fun x => !inB x lo hi) l W → _) :=
    fun W b1 b2 h1 h2 => containsFuncInts_any 77 #[.pointer (some ⟨b1, 0, none⟩), .pointer (some ⟨b2, 0, none⟩)] (fun x => !inB x lo hi) l a cap W h1 hlen W.heap.size (Nat.le_refl _) h2 (enters_of Tryz.func77 (by kernel_rfl) rfl)
  have HL := Lib.hid hl
  clear hl
  go_enter Tryz.func52, Tryz.ntmps52
  go_wp2_with fail
  refine (HC.out _ _ _ (HL.out.later (((Below.refl _ _).alloc (Nat.le_refl _) _).alloc (by simp) _)) (allWithinPred lo hi l _ _ _ (by simp; omega) (by simp) (by simp) (by simp))).mono ?_
  rintro e w2 ⟨rfl, hb2⟩
  have hbel := Below.now (((Below.refl w.heap.size w).alloc (Nat.le_refl _) _).alloc (by simp) _) hb2
  clear hb2
  go_wp2_with fail
  go_ret
  exact ⟨ret_bool HA.out, hbel⟩
end Go.Proofs.YtmgdglghjlggnaaGreat
namespace Go.Proofs.YtmgdglghjlggnaaGreat
open Go.RowKit
set_option linter.unusedVariables false
set_option maxRecDepth 100000 in
set_option maxHeartbeats 1000000 in
theorem implTableOk_any (n : Int) (l : List Int) (a : Option Addr) (cap : Nat) (w : World) (hl : IntsIn w a l) (hlen : l.length ≤ 2 ^ 47) :
    Calls Tryz.prog 51 #[.agg #[.int .i64 n, .slice a l.length cap]] w fun e w' => e = .returned (.bool (tabB n l)) ∧ Below w.heap.size w w' := by
  cases hn : inB n 1 40
  · have F := Lib.hid (tabB_notn (l := l) hn)
    go_enter Tryz.func51, Tryz.ntmps51
    go_wp2_with (go_at_call 28; refine (within_any _ _ _ _).mono ?_; rintro e w' ⟨rfl, rfl⟩)
    go_ret
    exact ⟨ret_bool F.out.symm, (Below.refl _ _).alloc (Nat.le_refl _) _⟩
  have ⟨hn1, hn2⟩ := inB_bounds hn
  have hnn : 0 ≤ n * n ∧ n * n ≤ 1600 := by
    obtain ⟨m, rfl⟩ := Int.eq_ofNat_of_zero_le (show 0 ≤ n by omega)
    have := sq_le (m := m) (by omega)
    omega
  obtain ⟨hnn0, hnn1⟩ := hnn
  by_cases hll : (l.length : Int) = n * n
  rotate_left
  · have F := Lib.hid (tabB_notlen hll)
    go_enter Tryz.func51, Tryz.ntmps51
    go_wp2_with (go_at_call 28; refine (within_any _ _ _ _).mono ?_; rintro e w' ⟨rfl, rfl⟩)
    go_ret
    exact ⟨ret_bool F.out.symm, (Below.refl _ _).alloc (Nat.le_refl _) _⟩
  have hcond : ((l.length : Int) != n * n) = false := by simp [hll]
  have HL := Lib.hid hll
  have HN := Lib.hid hn
  have HI := Lib.hid hl
  clear hll hl
  cases hr : rngB n l
  · have F := Lib.hid (tabB_notrng hr)
    have hr' : (l.all fun x => inB x 0 (n - 1)) = false := hr
    have HR := Lib.hid hr
    clear hr
    go_enter Tryz.func51, Tryz.ntmps51
    go_wp2_with (first | (go_at_call 28; refine (within_any _ _ _ _).mono ?_; rintro e w' ⟨rfl, rfl⟩) | (go_at_call 52; refine (allWithin_any _ _ l _ _ _ (HI.out.later ((Below.refl _ _).alloc (Nat.le_refl _) _)) hlen).mono ?_; rintro e w1 ⟨rfl, hb1⟩))
    go_ret
    exact ⟨ret_bool F.out.symm, Below.now ((Below.refl _ _).alloc (Nat.le_refl _) _) hb1⟩
  obtain ⟨m, ln, rfl, hlm, hT⟩ := tb_of hn HL.out hr
  have hr' : (l.all fun x => inB x 0 ((m : Int) - 1)) = true := hr
  have HT := Lib.hid hT
  have hm0 := hT.lo
  have hm1 := hT.hi
  have HLM := Lib.hid hlm
  have HLL : Hid (l.length = m * m) := by rw [hlm, List.length_map]; exact hT.len
  clear hr hT hlm
  go_enter Tryz.func51, Tryz.ntmps51
  go_wp2_with (go_at_call 28; refine (within_any _ _ _ _).mono ?_; rintro e w' ⟨rfl, rfl⟩)
  refine (allWithin_any _ _ l _ _ _ (HI.out.later ((Below.refl _ _).alloc (Nat.le_refl _) _)) hlen).mono ?_
  rintro e w1 ⟨rfl, hb1⟩
  have hx0 := box_later hb1 (i := 0) (v := .int .i64 (m : Nat)) rfl
  have hx1 := box_later hb1 (i := 1) (v := .slice a l.length cap) rfl
  have HN1 : Hid (∀ W, Below w1.heap.size w1 W → NatsIn W a ln) := fun W hW => by
    unfold NatsIn
    rw [← HLM.out]
    exact (HI.out.later (Below.now ((Below.refl _ _).alloc (Nat.le_refl _) _) hb1)).later hW
  have hbel := Lib.hid (Below.now ((Below.refl w.heap.size w).alloc (Nat.le_refl _) _) hb1)
  have hb0 := Below.refl w1.heap.size w1
  clear hb1 HI hcond hnn0 hnn1 hn1 hn2
  go_wp2_with fail
  go_loopw [32] (fun i wr => ∃ c : Nat, c ≤ m ∧ i = .int .i64 c ∧ Below w1.heap.size w1 wr ∧ upto (rowOk m ln) c) (fun i _ => m - (intOf i).toNat)
  case atStart => exact ⟨0, Nat.zero_le _, rfl, Below.refl _ _, upto_zero _⟩
  case round =>
    obtain ⟨c, hcm, rfl, hbw, hrows⟩ := hrel
    have HR := Lib.hid hrows
    clear hrows hb0
    by_cases hlt : c < m
    · go_wp2_with fail
      refine (implTimes_any m ln a _ _ 0 c _ (HN1.out _ hbw) HT.out HLL.out hm0 hlt).mono ?_
      rintro e w2 ⟨rfl, hb2⟩
      have hbw2 := Below.now hbw hb2
      clear hb2 hbw
      cases e1 : (((tm m ln 0 c : Nat) : Int) != ((c : Nat) : Int))
      rotate_left
      · have F := Lib.hid (tabB_rows HT.out (rowsOk_idn hlt (idn_not1 e1)))
        go_wp2_with fail
        go_ret
        exact ⟨ret_bool (by rw [HLM.out, F.out]), Below.now hbel.out hbw2⟩
      go_wp2_with fail
      refine (implTimes_any m ln a _ _ c 0 _ (HN1.out _ hbw2) HT.out HLL.out hlt hm0).mono ?_
      rintro e w3 ⟨rfl, hb2⟩
      have hbw3 := Below.now hbw2 hb2
      clear hb2 hbw2
      cases e2 : (((tm m ln c 0 : Nat) : Int) != ((c : Nat) : Int))
      rotate_left
      · have F := Lib.hid (tabB_rows HT.out (rowsOk_idn hlt (idn_not2 e2)))
        go_wp2_with fail
        go_ret
        exact ⟨ret_bool (by rw [HLM.out, F.out]), Below.now hbel.out hbw3⟩
      have HID := Lib.hid (idn_of e1 e2)
      go_wp2_with fail
      clear e1 e2
      go_loopw [49] (fun i wr => ∃ x : Nat, x ≤ m ∧ i = .int .i64 x ∧ Below w1.heap.size w1 wr ∧ upto (ascRow m ln c) x) (fun i _ => m - (intOf i).toNat)
      case atStart => exact ⟨0, Nat.zero_le _, rfl, hbw3, upto_zero _⟩
      case round =>
        clear hbw3
        obtain ⟨x, hxm, rfl, hbx, hasc⟩ := hrel
        have HA := Lib.hid hasc
        clear hasc
        by_cases hlx : x < m
        · go_wp2_with fail
          go_loopw [54] (fun i wr => ∃ y : Nat, y ≤ m ∧ i = .int .i64 y ∧ Below w1.heap.size w1 wr ∧ upto (asc m ln c x) y) (fun i _ => m - (intOf i).toNat)
          case atStart => exact ⟨0, Nat.zero_le _, rfl, hbx, upto_zero _⟩
          case round =>
            clear hbx
            obtain ⟨y, hym, rfl, hby, hasy⟩ := hrel
            have HY := Lib.hid hasy
            clear hasy
            by_cases hly : y < m
            · have k1 := HT.out.tm_lt hlt hlx
              have k2 := HT.out.tm_lt hlx hly
              have hw0 : ∀ x, (wide wr x).cell? ⟨w.heap.size, 0, none⟩ = some (.int .i64 (m : Nat)) := wide_cell (hx0 _ hby)
              have hw1 : ∀ x, (wide wr x).cell? ⟨w.heap.size, 1, none⟩ = some (.slice a l.length cap) := wide_cell (hx1 _ hby)
              have HNw : Hid (∀ x, NatsIn (wide wr x) a ln) := fun x => (HN1.out _ hby).later (below_wide _ _)
              go_wp2_with fail
              refine region_wide (by kernel_rfl) (by kernel_rfl) ?_
              repeat (quiet_step ((refine (implTimes_any m ln a _ _ _ _ _ (HNw.out _) HT.out HLL.out (by assumption) (by assumption)).mono ?_; rintro e w2 ⟨rfl, hb2⟩; exact ⟨rfl, wide_next hb2⟩)))
              refine wpQuiet_nil ?_
              rintro w4 ⟨x4, rfl⟩
              have hbz : Below w1.heap.size w1 (wide wr x4) := Below.now hby (below_wide _ _)
              clear hw0 hw1 hby HNw
              cases e : (((tm m ln (tm m ln c x) y : Nat) : Int) != ((tm m ln c (tm m ln x y) : Nat) : Int))
              · have F := Lib.hid (upto_succ HY.out (asc_of e))
                go_wp2_with fail
                go_roundw
                case rel => exact ⟨y + 1, by omega, by go_num, hbz, F.out⟩
                case measure => simp [intOf]; omega
              · have F := Lib.hid (tabB_rows HT.out (rowsOk_asc hlt hlx hly (asc_of e)))
                go_wp2_with fail
                go_ret
                exact ⟨ret_bool (by rw [HLM.out, F.out]), Below.now hbel.out hbz⟩
            · have F := Lib.hid (upto_succ HA.out (ascRow_of HY.out hly))
              go_wp2_with fail
              go_roundw
              case rel => exact ⟨x + 1, by omega, by go_num, hby, F.out⟩
              case measure => simp [intOf]; omega
        · have F := Lib.hid (upto_succ HR.out (rowOk_of HID.out HA.out hlx))
          go_wp2_with fail
          go_roundw
          case rel => exact ⟨c + 1, by omega, by go_num, hbx, F.out⟩
          case measure => simp [intOf]; omega
    · have F := Lib.hid (tabB_rows HT.out (upto_all HR.out hlt))
      go_wp2_with fail
      go_ret
      exact ⟨ret_bool (by rw [HLM.out, F.out]), Below.now hbel.out hbw⟩
end Go.Proofs.YtmgdglghjlggnaaGreat
namespace Go.Proofs.YtmgdglghjlggnaaGreat
open Go.RowKit
set_option linter.unusedVariables false
/-- the numbers that stay -/
def keepZ (p : Int → Bool) (l : List Int) : List Int := l.filter fun x => !p x
/-- how many of the first j stay -/
def keepN (p : Int → Bool) (l : List Int) (j : Nat) : Nat := (keepZ p (l.take j)).length
theorem keepZ_succ {p : Int → Bool} {l : List Int} {j : Nat} (h : j < l.length) : keepZ p (l.take (j + 1)) = keepZ p (l.take j) ++ (if p (nthZ l j) then [] else [nthZ l j]) := by
  unfold keepZ
  rw [List.take_succ_eq_append_getElem h, List.filter_append, nthZ_lt h]
  cases hp : p l[j] <;> simp [hp]
theorem keepN_yes {p : Int → Bool} {l : List Int} {j : Nat} (h : j < l.length) (hp : p (nthZ l j) = false) : keepN p l (j + 1) = keepN p l j + 1 := by
  unfold keepN; rw [keepZ_succ h, hp]; simp
theorem keepN_no {p : Int → Bool} {l : List Int} {j : Nat} (h : j < l.length) (hp : p (nthZ l j) = true) : keepN p l (j + 1) = keepN p l j := by
  unfold keepN; rw [keepZ_succ h, hp]; simp
theorem keepN_le (p : Int → Bool) (l : List Int) (j : Nat) : keepN p l j ≤ j := by
  unfold keepN keepZ
  exact Nat.le_trans (List.length_filter_le _ _) (List.length_take_le _ _)
/-- a row from which elements are being deleted: the first j have been looked at -/
def Deling (T : TypeId) (w wr : World) (base g n cap : Nat) (p : Int → Bool) (l : List Int) (j : Nat) : Prop :=
  ∃ xs, wr.ownsRow base T 1 (.slice (some ⟨g, 0, none⟩) n cap) n xs ∧ xs.take (keepN p l j) = intVals (keepZ p (l.take j)) ∧ xs.drop j = intVals (l.drop j) ∧ Below base w wr ∧ n = l.length
theorem Deling.cell {T : TypeId} {w wr : World} {base g n cap : Nat} {p : Int → Bool} {l : List Int} {j : Nat} (h : Deling T w wr base g n cap p l j) (hj : j < n) : wr.cell? ⟨g, j, none⟩ = some (.int .i64 (nthZ l j)) := by
  obtain ⟨xs, ho, ht, hd, hb, rfl⟩ := h
  have h1 := ho.1
  rw [ho.cellAt j (by omega)]
  have : (xs.drop j)[0]? = (intVals (l.drop j))[0]? := by rw [hd]
  rw [List.getElem?_drop] at this
  rw [show j = j + 0 by omega, this]
  simp [intVals, hj, nthZ_lt hj]
theorem Deling.frozen {T : TypeId} {w wr : World} {base g n cap : Nat} {p : Int → Bool} {l : List Int} {j : Nat} (h : Deling T w wr base g n cap p l j) (i : Nat) : wr.frozen? ⟨g, i, none⟩ = false := by
  obtain ⟨xs, ho, _⟩ := h
  exact ho.frozenAt i
theorem Deling.there {T : TypeId} {w wr : World} {base g n cap : Nat} {p : Int → Bool} {l : List Int} {j : Nat} (h : Deling T w wr base g n cap p l j) {i : Nat} (hi : i < n) : ∃ v, wr.cell? ⟨g, i, none⟩ = some v := by
  obtain ⟨xs, ho, _⟩ := h
  have h1 := ho.1
  exact ⟨xs[i]'(by omega), by rw [ho.cellAt i (by omega), List.getElem?_eq_getElem]⟩
theorem Deling.base {T : TypeId} {w wr : World} {base g n cap : Nat} {p : Int → Bool} {l : List Int} {j : Nat} (h : Deling T w wr base g n cap p l j) : base ≤ g := by
  obtain ⟨xs, ho, _⟩ := h
  exact (ho.lt g rfl).1
theorem Deling.later {T : TypeId} {w wr wr' : World} {base g n cap : Nat} {p : Int → Bool} {l : List Int} {j : Nat} (h : Deling T w wr base g n cap p l j) (hb' : Below wr.heap.size wr wr') (hbase : base ≤ w.heap.size) : Deling T w wr' base g n cap p l j := by
  obtain ⟨xs, ho, ht, hd, hb, hn⟩ := h
  exact ⟨xs, owns_later ho hb', ht, hd, hb.trans (hb'.mono (Nat.le_trans hbase hb.size)), hn⟩
theorem drop_succ_of {α : Type} {xs ys : List α} {j : Nat} (h : xs.drop j = ys.drop j) : xs.drop (j + 1) = ys.drop (j + 1) := by
  rw [← List.drop_drop, ← List.drop_drop, h]
theorem Deling.skip {T : TypeId} {w wr : World} {base g n cap : Nat} {p : Int → Bool} {l : List Int} {j : Nat} (h : Deling T w wr base g n cap p l j) (hj : j < n) (hp : p (nthZ l j) = true) : Deling T w wr base g n cap p l (j + 1) := by
  obtain ⟨xs, ho, ht, hd, hb, rfl⟩ := h
  refine ⟨xs, ho, ?_, ?_, hb, rfl⟩
  · rw [keepN_no hj hp, ht, keepZ_succ hj, hp]; simp
  · unfold intVals at *
    rw [List.map_drop] at *
    exact drop_succ_of hd
theorem Deling.keep {T : TypeId} {w wr : World} {base g n cap : Nat} {p : Int → Bool} {l : List Int} {j : Nat} (h : Deling T w wr base g n cap p l j) (hj : j < n) (hp : p (nthZ l j) = false) :
    Deling T w (wr.setCell ⟨g, keepN p l j, none⟩ (.int .i64 (nthZ l j))) base g n cap p l (j + 1) := by
  have hbg := h.base
  obtain ⟨xs, ho, ht, hd, hb, rfl⟩ := h
  have hk := keepN_le p l j
  have h1 := ho.1
  refine ⟨xs.set (keepN p l j) (.int .i64 (nthZ l j)), (ho.stored _ _).1, ?_, ?_, hb.setCell hbg _, rfl⟩
  · rw [keepN_yes hj hp, List.take_succ_eq_append_getElem (by simpa using by omega), List.take_set_of_le (Nat.le_refl _), ht, keepZ_succ hj, hp]
    simp [intVals]
  · rw [List.drop_set_of_lt (by omega)]
    unfold intVals at *
    rw [List.map_drop] at *
    exact drop_succ_of hd
/-- what DeleteFunc leaves -/
def Deleted (T : TypeId) (w : World) (base : Nat) (a : Option Addr) (cap : Nat) (l : List Int) (e : Ending) (w' : World) : Prop :=
  e = .returned (.slice a l.length cap) ∧ w'.ownsRow base T 1 (.slice a l.length cap) l.length (intVals l) ∧ Below base w w'
theorem owns_cut {w : World} {base : Nat} {T : TypeId} {g n m cap : Nat} {xs : List Value} (h : w.ownsRow base T 1 (.slice (some ⟨g, 0, none⟩) n cap) n xs) (hm : m ≤ n) : w.ownsRow base T 1 (.slice (some ⟨g, 0, none⟩) m cap) m (xs.take m) := by
  obtain ⟨h1, h2⟩ := h
  rcases h2 with ⟨hv, _⟩ | ⟨g', cap', cur, hv, hb, hg, hn, hc, hs, ht⟩
  · cases hv
  · simp only [Value.slice.injEq, Option.some.injEq, Addr.mk.injEq, and_true, true_and] at hv
    obtain ⟨rfl, rfl⟩ := hv
    refine ⟨by simp; omega, .inr ⟨g, cap, cur, rfl, hb, hg, by omega, hc, hs, ?_⟩⟩
    rw [← ht, List.take_take]
    congr 1
    omega
theorem setCells_owns {base : Nat} {T : TypeId} {g n cap : Nat} : ∀ (zs : List Value) (o : Nat) (w : World) (xs : List Value), w.ownsRow base T 1 (.slice (some ⟨g, 0, none⟩) n cap) n xs →
    ∃ ys, (w.setCells g o zs).ownsRow base T 1 (.slice (some ⟨g, 0, none⟩) n cap) n ys ∧ ys.take o = xs.take o ∧ w.grownBy (w.setCells g o zs) (some g)
  | [], o, w, xs, h => ⟨xs, h, rfl, ⟨rfl, rfl, rfl, Nat.le_refl _, fun _ _ _ => rfl⟩⟩
  | z :: zs, o, w, xs, h => by
    have hs := h.stored o z
    obtain ⟨ys, h1, h2, h3⟩ := setCells_owns zs (o + 1) _ _ hs.1
    have hg := hs.2
    refine ⟨ys, h1, ?_, ⟨h3.os.trans hg.os, h3.tape.trans hg.tape, h3.output.trans hg.output, Nat.le_trans hg.size h3.size, fun k hk hne => (h3.block k (Nat.lt_of_lt_of_le hk hg.size) hne).trans (hg.block k hk hne)⟩⟩
    have h4 := congrArg (List.take o) h2
    rw [List.take_take, List.take_take, Nat.min_eq_left (by omega), List.take_set_of_le (Nat.le_refl _)] at h4
    exact h4
theorem Deling.done {T : TypeId} {w wr : World} {base g n cap : Nat} {p : Int → Bool} {l : List Int} {j : Nat} (h : Deling T w wr base g n cap p l j) (hj : ¬ j < n) (zs : List Value) (hbase : base ≤ w.heap.size) :
    Deleted T w base (some ⟨g, 0, none⟩) cap (keepZ p l) (.returned (.slice (some ⟨g, 0, none⟩) (keepN p l j) cap)) (wr.setCells g (keepN p l j) zs) := by
  have hbg := h.base
  obtain ⟨xs, ho, ht, hd, hb, rfl⟩ := h
  have hk : keepZ p (l.take j) = keepZ p l := by rw [List.take_of_length_le (by omega)]
  have hkn : keepN p l j = (keepZ p l).length := by unfold keepN; rw [hk]
  obtain ⟨ys, h1, h2, h3⟩ := setCells_owns zs (keepN p l j) wr xs ho
  have h4 := owns_cut h1 (m := keepN p l j) (by rw [hkn]; unfold keepZ; exact List.length_filter_le _ _)
  rw [h2, ht, hk] at h4
  unfold Deleted
  rw [← hkn]
  refine ⟨rfl, h4, hb.trans ⟨h3.os, h3.tape, h3.output, h3.size, fun k hk => h3.block k (by have := hb.size; omega) (by intro e; cases e; omega)⟩⟩
theorem Deling.start {T : TypeId} {w wr : World} {base g cap : Nat} {p : Int → Bool} {l : List Int} {i : Nat} (ho : wr.ownsRow base T 1 (.slice (some ⟨g, 0, none⟩) l.length cap) l.length (intVals l)) (hb : Below base w wr)
    (hi : i < l.length) (hn : noneTo p l i) (hp : p (nthZ l i) = true) : keepN p l (i + 1) = i ∧ Deling T w wr base g l.length cap p l (i + 1) := by
  have hk : ∀ j, j ≤ i → keepZ p (l.take j) = l.take j := by
    intro j
    induction j with
    | zero => intro _; simp [keepZ]
    | succ j ih =>
      intro hj
      rw [keepZ_succ (by omega), ih (by omega), hn j (by omega), List.take_succ_eq_append_getElem (by omega), nthZ_lt (by omega)]
      simp
  have h1 : keepN p l i = i := by unfold keepN; rw [hk i (Nat.le_refl _)]; simp; omega
  refine ⟨by rw [keepN_no hi hp, h1], ?_⟩
  have h2 : Deling T w wr base g l.length cap p l i := ⟨intVals l, ho, by rw [h1, hk i (Nat.le_refl _)]; simp [intVals], by simp [intVals], hb, rfl⟩
  exact h2.skip hi hp
theorem idxZ_cases (p : Int → Bool) (l : List Int) : (idxZ p l = -1 ∧ keepZ p l = l) ∨ ∃ i : Nat, idxZ p l = (i : Nat) ∧ i < l.length ∧ noneTo p l i ∧ p (nthZ l i) = true := by
  unfold idxZ
  cases h : l.findIdx? p
  · left
    rw [List.findIdx?_eq_none_iff] at h
    exact ⟨rfl, by unfold keepZ; rw [List.filter_eq_self]; intro x hx; simp [h x hx]⟩
  · right
    rename_i i
    rw [List.findIdx?_eq_some_iff_getElem] at h
    obtain ⟨hi, hp, hn⟩ := h
    refine ⟨i, rfl, hi, fun j hj => ?_, by rw [nthZ_lt hi]; exact hp⟩
    have := hn j hj
    rw [nthZ_lt (by omega)]
    simpa using this
theorem Tryz.zeroInt (w : World) : (zeroValue 3).run Tryz.prog w = .ok (.int .i64 0) w := by kernel_rfl
set_option maxHeartbeats 800000 in
theorem deleteFuncInts_any (g : Nat) (caps : Array Value) (p : Int → Bool) (l : List Int) (a : Option Addr) (cap base : Nat) (w : World) (ho : w.ownsRow base 3 1 (.slice a l.length cap) l.length (intVals l)) (hlen : l.length ≤ 1000000) (hbase : base ≤ w.heap.size)
    (hf : PredInts base g caps p l w) (eg : ∀ args w, (callFunc g args).run Tryz.prog w = .ok (.enter g args) w) :
    Calls Tryz.prog 54 #[.slice a l.length cap, .func (.func g) #[] caps] w (Deleted 3 w base a cap (keepZ p l)) := by
  have HI := Lib.hid (indexFuncInts_any g caps p l a cap w (owns_ints (l := l) ho) (by omega) base hbase hf eg)
  rcases idxZ_cases p l with ⟨h1, h2⟩ | ⟨i, h1, hi, hn, hp⟩
  · have F : Hid (∀ w', Below w.heap.size w w' → Deleted 3 w base a cap (keepZ p l) (.returned (.slice a l.length cap)) w') := fun w' hb => by
      unfold Deleted; rw [h2]; exact ⟨rfl, owns_later ho hb, hb.mono hbase⟩
    have H1 := Lib.hid h1
    clear hf eg ho h2 h1
    go_enter Tryz.func54, Tryz.ntmps54
    go_wp2_with fail
    refine HI.out.mono ?_
    rintro e w2 ⟨rfl, hb2⟩
    rw [H1.out]
    go_wp2_with fail
    go_ret
    exact F.out _ hb2
  · rcases ho.2 with ⟨hv, h0⟩ | ⟨gr, cap', cur, hv, hbg, hg, hnc, hcm, hs, ht⟩
    · omega
    simp only [Value.slice.injEq] at hv
    obtain ⟨rfl, _, rfl⟩ := hv
    have H1 := Lib.hid h1
    have HO := Lib.hid ho
    have HF := Lib.hid hf
    have HP := Lib.hid hp
    have HN := Lib.hid hn
    unfold maxLen at hcm
    clear hf ho h1 hg ht hs hp hn
    go_enter Tryz.func54, Tryz.ntmps54
    go_wp2_with fail
    refine HI.out.mono ?_
    rintro e w2 ⟨rfl, hb2⟩
    rw [H1.out]
    obtain ⟨hk, hd⟩ := Deling.start (p := p) (owns_later HO.out hb2) (hb2.mono hbase) hi HN.out HP.out
    have HD := Lib.hid hd
    have HK := Lib.hid hk
    clear hd hk
    have hi1 : (((i : Nat) : Int) == -1) = false := by rw [beq_eq_false_iff_ne]; omega
    go_wp2_with fail
    go_loopw [5, 6] (fun x y wr => ∃ j : Nat, j ≤ l.length ∧ y = .int .i64 j ∧ x = .int .i64 (keepN p l j : Nat) ∧ keepN p l j < j ∧ Deling 3 w wr base gr l.length cap p l j) (fun _ y _ => l.length - (intOf y).toNat)
    case atStart => exact ⟨i + 1, by omega, by go_num, by rw [HK.out], by rw [HK.out]; omega, HD.out⟩
    case round =>
      clear HD HK
      obtain ⟨j, hj, rfl, rfl, hkj, hd⟩ := hrel
      have HD := Lib.hid hd
      have hkl := keepN_le p l j
      by_cases hlt : j < l.length
      · have c1 := hd.cell hlt
        have hbw : Below base w wr := by obtain ⟨_, _, _, _, hb, _⟩ := hd; exact hb
        clear hd
        cases hpj : p (nthZ l j)
        · go_wp2_with fail
          refine (HF.out j hlt _ hbw).mono ?_
          rintro e w3 ⟨rfl, hb3⟩
          have hd3 := HD.out.later hb3 hbase
          obtain ⟨v, c2⟩ := hd3.there (i := keepN p l j) (by omega)
          have c3 := hd3.frozen (keepN p l j)
          have HD3 := Lib.hid (hd3.keep hlt hpj)
          have HK := Lib.hid (keepN_yes hlt hpj)
          clear hd3 hb3 c1 hbw
          go_wp2_with fail
          go_roundw
          case rel => exact ⟨j + 1, by omega, by go_num, by rw [HK.out]; go_num, by rw [HK.out]; omega, HD3.out⟩
          case measure => simp [intOf]; omega
        · go_wp2_with fail
          refine (HF.out j hlt _ hbw).mono ?_
          rintro e w3 ⟨rfl, hb3⟩
          have HD3 := Lib.hid ((HD.out.later hb3 hbase).skip hlt hpj)
          have HK := Lib.hid (keepN_no hlt hpj)
          clear hb3 c1 hbw
          go_wp2_with fail
          go_roundw
          case rel => exact ⟨j + 1, by omega, by go_num, by rw [HK.out], by rw [HK.out]; omega, HD3.out⟩
          case measure => simp [intOf]; omega
      · have hcl := fun ty => Lib.run_clear_slice (P := Tryz.prog) wr 23 3 ty (.int .i64 0) Tryz.underlying23 Tryz.zeroInt rfl rfl gr (keepN p l j) (l.length - keepN p l j) (cap - keepN p l j) (by omega) (fun t ht => by obtain ⟨v, hv⟩ := hd.there (i := keepN p l j + t) (by omega); rw [hv]; rfl) (fun t ht => hd.frozen _)
        have HF2 := Lib.hid (hd.done hlt (List.replicate (l.length - keepN p l j) (.int .i64 0)) hbase)
        have hne : ¬ cap = keepN p l j := by omega
        clear hd
        go_wp2_with fail
        go_ret
        exact HF2.out
end Go.Proofs.YtmgdglghjlggnaaGreat
namespace Go.Proofs.YtmgdglghjlggnaaGreat
open Go.RowKit
set_option linter.unusedVariables false
def idxVals (m : Nat) : List Value := (List.range m).map fun (i : Nat) => Value.int .i64 (i : Nat)
theorem idxVals_at {m j : Nat} (h : j < m) : (idxVals m)[j]? = some (.int .i64 (j : Nat)) := by simp [idxVals, h]
theorem idxVals_len (m : Nat) : (idxVals m).length = m := by simp [idxVals]
set_option maxHeartbeats 400000 in
theorem indices_any (m : Nat) (w : World) (hm : m ≤ 1000000) :
    Calls Tryz.prog 55 #[.int .i64 m] w (RetSl 3 1 m (idxVals m) w) := by
  have hmk := run_make_row' (P := Tryz.prog) 23 3 (.int .i64 0) 8 Tryz.underlying23 Tryz.infoInt rfl .i64 .i64 m (by omega) (by omega)
  go_enter Tryz.func55, Tryz.ntmps55
  go_wp2_with fail
  clear hmk
  have HF := Filling.start w 3 (madeCells #[.int .i64 0] m) m (idxVals m) (size_madeCells _ _) (by unfold maxLen; omega) (idxVals_len m)
  generalize (w.alloc (.cells (madeCells #[.int .i64 0] m) 3)) = w1 at *
  obtain ⟨g, hg⟩ : ∃ g, w.heap.size = g := ⟨_, rfl⟩
  rw [hg] at HF
  rw [hg]
  have HG := Lib.hid hg
  clear hg
  go_loopw [9] (fun i wr => ∃ j : Nat, j ≤ m ∧ i = .int .i64 j ∧ Filling w wr 3 g m (idxVals m) j) (fun i _ => m - (intOf i).toNat)
  case atStart => exact ⟨0, Nat.zero_le _, rfl, HF⟩
  case round =>
    clear HF
    obtain ⟨j, hj, rfl, HF⟩ := hrel
    by_cases hlt : j < m
    · obtain ⟨v, hv⟩ := HF.cell hlt
      have hz := HF.frozen j
      have HF2 := Lib.hid (HF.store hlt (idxVals_at hlt))
      clear HF
      go_wp2_with fail
      go_roundw
      case rel => exact ⟨j + 1, by omega, by go_num, HF2.out⟩
      case measure => simp [intOf]; omega
    · have HF2 := Lib.hid (HF.done hlt)
      clear HF
      go_wp2_with fail
      go_ret
      exact HF2.out
end Go.Proofs.YtmgdglghjlggnaaGreat
namespace Go.Proofs.YtmgdglghjlggnaaGreat
open Go.RowKit
set_option linter.unusedVariables false
def idxList (m : Nat) : List Int := (List.range m).map Int.ofNat
theorem idxList_len (m : Nat) : (idxList m).length = m := by simp [idxList]
theorem idxList_nth {m j : Nat} (h : j < m) : nthZ (idxList m) j = (j : Nat) := by rw [nthZ_lt (by rw [idxList_len]; exact h)]; simp [idxList]
theorem idxVals_eq (m : Nat) : idxVals m = intVals (idxList m) := by simp [idxVals, intVals, idxList]
/-- a function value that answers p for the elements below m, in every world that is as w below B -/
def PredEl (B : Nat) (g : Nat) (caps : Array Value) (p : Nat → Bool) (m : Nat) (w : World) : Prop :=
  ∀ j, j < m → ∀ W, Below B w W → Calls Tryz.prog g (#[.int .i64 (j : Nat)] ++ caps) W fun e W' => e = .returned (.bool (p j)) ∧ Below W.heap.size W W'
theorem PredEl.later {B : Nat} {g : Nat} {caps : Array Value} {p : Nat → Bool} {m : Nat} {w w1 : World} (h : PredEl B g caps p m w) (hb : Below B w w1) : PredEl B g caps p m w1 :=
  fun j hj W hW => h j hj W (hb.trans hW)
theorem PredEl.mono {B B' : Nat} {g : Nat} {caps : Array Value} {p : Nat → Bool} {m : Nat} {w : World} (h : PredEl B g caps p m w) (hb : B ≤ B') : PredEl B' g caps p m w :=
  fun j hj W hW => h j hj W (hW.mono hb)
/-- the elements of a valid table with a property -/
def thoseL (n : Int) (l : List Int) (p : Nat → Bool) : List Int := if tabB n l then ((List.range n.toNat).filter p).map Int.ofNat else []
theorem keepZ_idx (m : Nat) (p : Nat → Bool) : keepZ (fun x => !p x.toNat) (idxList m) = ((List.range m).filter p).map Int.ofNat := by
  unfold keepZ idxList
  rw [List.filter_map]
  congr 1
  apply List.filter_congr
  intro x _
  simp
/-- the closure that those and all hand on -/
theorem notPred_those (B g : Nat) (caps : Array Value) (p : Nat → Bool) (m : Nat) (w w1 : World) (b1 : Nat) (h : PredEl B g caps p m w) (hB : B ≤ w.heap.size) (hb1 : b1 < w1.heap.size) (hw : Below w.heap.size w w1)
    (h1 : w1.cell? ⟨b1, 0, none⟩ = some (.func (.func g) #[] caps)) (eg : ∀ args w, (callFunc g args).run Tryz.prog w = .ok (.enter g args) w) :
    PredInts w1.heap.size 56 #[.pointer (some ⟨b1, 0, none⟩)] (fun x => !p x.toNat) (idxList m) w1 := by
  intro j hj W hW
  rw [idxList_len] at hj
  rw [idxList_nth hj]
  have g1 : W.cell? ⟨b1, 0, none⟩ = some (.func (.func g) #[] caps) := by rw [hW.cell hb1]; exact h1
  have HC := Lib.hid (h j hj W ((hw.mono hB).trans (hW.mono (Nat.le_trans hB hw.size))))
  clear h1 hW hb1 hw h
  go_enter Tryz.func56, Tryz.ntmps56
  go_wp2_with fail
  refine HC.out.mono ?_
  rintro e w2 ⟨rfl, hb2⟩
  go_wp2_with fail
  go_ret
  exact ⟨by simp, hb2⟩
theorem notPred_all (B g : Nat) (caps : Array Value) (p : Nat → Bool) (m : Nat) (w w1 : World) (b1 : Nat) (h : PredEl B g caps p m w) (hB : B ≤ w.heap.size) (hb1 : b1 < w1.heap.size) (hw : Below w.heap.size w w1)
    (h1 : w1.cell? ⟨b1, 0, none⟩ = some (.func (.func g) #[] caps)) (eg : ∀ args w, (callFunc g args).run Tryz.prog w = .ok (.enter g args) w) :
    PredInts w1.heap.size 64 #[.pointer (some ⟨b1, 0, none⟩)] (fun x => !p x.toNat) (idxList m) w1 := by
  intro j hj W hW
  rw [idxList_len] at hj
  rw [idxList_nth hj]
  have g1 : W.cell? ⟨b1, 0, none⟩ = some (.func (.func g) #[] caps) := by rw [hW.cell hb1]; exact h1
  have HC := Lib.hid (h j hj W ((hw.mono hB).trans (hW.mono (Nat.le_trans hB hw.size))))
  clear h1 hW hb1 hw h
  go_enter Tryz.func64, Tryz.ntmps64
  go_wp2_with fail
  refine HC.out.mono ?_
  rintro e w2 ⟨rfl, hb2⟩
  go_wp2_with fail
  go_ret
  exact ⟨by simp, hb2⟩
theorem any_idx (m : Nat) (p : Nat → Bool) : (!(idxList m).any fun x => !p x.toNat) = (List.range m).all p := by
  unfold idxList
  rw [List.any_map, List.all_eq_not_any_not]
  congr 2
set_option maxHeartbeats 800000 in
theorem all_any (B g : Nat) (caps : Array Value) (p : Nat → Bool) (m : Nat) (a : Option Addr) (len cap : Nat) (w : World) (hm : m ≤ 1000) (h : PredEl B g caps p m w) (hB : B ≤ w.heap.size)
    (eg : ∀ args w, (callFunc g args).run Tryz.prog w = .ok (.enter g args) w) :
    Calls Tryz.prog 45 #[.agg #[.int .i64 m, .slice a len cap], .func (.func g) #[] caps] w fun e w' => e = .returned (.bool ((List.range m).all p)) ∧ Below w.heap.size w w' := by
  have HP := Lib.hid h
  have HA := Lib.hid (any_idx m p)
  clear h
  go_enter Tryz.func45, Tryz.ntmps45
  go_wp2_with fail
  refine (indices_any m _ (by omega)).mono ?_
  rintro e w2 ⟨ai, ci, rfl, ho, hb2⟩
  have hbel : Below w.heap.size w w2 := Below.now (((Below.refl w.heap.size w).alloc (Nat.le_refl _) _).alloc (by simp) _) hb2
  have hc : w2.cell? ⟨w.heap.size + 1, 0, none⟩ = some (.func (.func g) #[] caps) := by rw [hb2.cell (by simp)]; simp
  have hz : w.heap.size + 1 < w2.heap.size := by have := hb2.size; simp at this; omega
  rw [idxVals_eq] at ho
  have HC := containsFuncInts_any 64 #[.pointer (some ⟨w.heap.size + 1, 0, none⟩)] (fun x => !p x.toNat) (idxList m) ai ci w2 (owns_ints (l := idxList m) ho) (by rw [idxList_len]; omega) w2.heap.size (Nat.le_refl _)
    (notPred_all B g caps p m w w2 _ HP.out hB hz hbel hc eg) (enters_of Tryz.func64 (by kernel_rfl) rfl)
  rw [idxList_len] at HC
  have HC' := Lib.hid HC
  clear HC ho hc hb2
  go_wp2_with fail
  refine HC'.out.mono ?_
  rintro e w3 ⟨rfl, hb3⟩
  have hbel3 := Below.now hbel hb3
  clear hb3 hbel
  go_wp2_with fail
  go_ret
  exact ⟨ret_bool HA.out, hbel3⟩
theorem retSl_nil (T : TypeId) (w w' : World) (h : Below w.heap.size w w') : RetSl T 1 0 [] w (.returned (.slice none 0 0)) w' := ⟨none, 0, rfl, World.ownsRow_nil _ _ _ _, h⟩
set_option maxHeartbeats 800000 in
theorem those_any (n : Int) (l : List Int) (a : Option Addr) (cap : Nat) (w : World) (hl : IntsIn w a l) (hlen : l.length ≤ 2 ^ 47) (B g : Nat) (caps : Array Value) (p : Nat → Bool) (hB : B ≤ w.heap.size)
    (h : tabB n l = true → PredEl B g caps p n.toNat w) (eg : ∀ args w, (callFunc g args).run Tryz.prog w = .ok (.enter g args) w) :
    Calls Tryz.prog 31 #[.agg #[.int .i64 n, .slice a l.length cap], .func (.func g) #[] caps] w (RetSl 3 1 (thoseL n l p).length (intVals (thoseL n l p)) w) := by
  have HL := Lib.hid hl
  have HP := Lib.hid h
  clear hl h
  cases ht : tabB n l
  · have F : Hid (∀ w', Below w.heap.size w w' → RetSl 3 1 (thoseL n l p).length (intVals (thoseL n l p)) w (.returned (.slice none 0 0)) w') := fun w' hb => by
      unfold thoseL; rw [ht]; exact retSl_nil _ _ _ hb
    go_enter Tryz.func31, Tryz.ntmps31
    go_wp2_with fail
    refine (implTableOk_any n l a cap _ (HL.out.later (((Below.refl _ _).alloc (Nat.le_refl _) _).alloc (by simp) _)) hlen).mono ?_
    rintro e w2 ⟨rfl, hb2⟩
    have hbel : Below w.heap.size w w2 := Below.now (((Below.refl w.heap.size w).alloc (Nat.le_refl _) _).alloc (by simp) _) hb2
    clear hb2
    go_wp2_with fail
    go_ret
    exact F.out _ hbel
  · obtain ⟨m, ln, rfl, hln, hT⟩ := tabOk_out ht
    have hm1 := hT.hi
    have hm0 := hT.lo
    have F : Hid (thoseL (m : Nat) l p = keepZ (fun x => !p x.toNat) (idxList m)) := by
      rw [keepZ_idx]; unfold thoseL; rw [ht]; rfl
    have HPP := Lib.hid (HP.out ht)
    simp only [Int.toNat_natCast] at HPP
    clear hT hln
    go_enter Tryz.func31, Tryz.ntmps31
    go_wp2_with fail
    refine (implTableOk_any _ l a cap _ (HL.out.later (((Below.refl _ _).alloc (Nat.le_refl _) _).alloc (by simp) _)) hlen).mono ?_
    rintro e w2 ⟨rfl, hb2⟩
    have hbel : Below w.heap.size w w2 := Below.now (((Below.refl w.heap.size w).alloc (Nat.le_refl _) _).alloc (by simp) _) hb2
    have hc : w2.cell? ⟨w.heap.size + 1, 0, none⟩ = some (.func (.func g) #[] caps) := by rw [hb2.cell (by simp)]; simp
    have hx : w2.cell? ⟨w.heap.size, 0, none⟩ = some (.int .i64 (m : Nat)) := by rw [hb2.cell (by simp; omega)]; simp
    have hz : w.heap.size + 1 < w2.heap.size := by have := hb2.size; simp at this; omega
    clear hb2
    go_wp2_with fail
    refine (indices_any m _ (by omega)).mono ?_
    rintro e w3 ⟨ai, ci, rfl, ho, hb3⟩
    have hbel3 := Below.now hbel hb3
    have hc3 : w3.cell? ⟨w.heap.size + 1, 0, none⟩ = some (.func (.func g) #[] caps) := by rw [hb3.cell hz]; exact hc
    have hz3 : w.heap.size + 1 < w3.heap.size := by have := hb3.size; omega
    have hs3 := hb3.size
    rw [idxVals_eq] at ho
    have HD := deleteFuncInts_any 56 #[.pointer (some ⟨w.heap.size + 1, 0, none⟩)] (fun x => !p x.toNat) (idxList m) ai ci w2.heap.size w3 (by rw [idxList_len]; exact ho) (by rw [idxList_len]; omega) hs3
      (fun j hj W hW => notPred_those B g caps p m w w2 _ HPP.out hB hz hbel hc eg j hj W ((hb3.trans hW).mono (Nat.le_refl _))) (enters_of Tryz.func56 (by kernel_rfl) rfl)
    rw [idxList_len] at HD
    have HD' := Lib.hid HD
    clear HD ho hc hb3 hc3 hx hbel
    go_wp2_with fail
    refine HD'.out.mono ?_
    rintro e w4 ⟨rfl, ho4, hb4⟩
    have F2 : Hid (RetSl 3 1 (thoseL (m : Nat) l p).length (intVals (thoseL (m : Nat) l p)) w (.returned (.slice ai (keepZ (fun x => !p x.toNat) (idxList m)).length ci)) w4) := by
      rw [F.out]
      exact ⟨_, _, rfl, owns_mono ho4 (by omega), hbel3.trans (hb4.mono (by omega))⟩
    clear ho4 hb4 hbel3
    go_wp2_with fail
    go_ret
    exact F2.out
end Go.Proofs.YtmgdglghjlggnaaGreat
namespace Go.Proofs.YtmgdglghjlggnaaGreat
open Go.RowKit
set_option linter.unusedVariables false
theorem map_toNat (ln : List Nat) : (ln.map Int.ofNat).map Int.toNat = ln := by rw [List.map_map]; exact List.map_id'' (fun x => rfl) ln
end Go.Proofs.YtmgdglghjlggnaaGreat
