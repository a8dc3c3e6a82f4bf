/-
  The numbers of classes.
-/
import Derived.Test.YtdhaebbfiaddnaaGreatDoorGts21
import Derived.Test.YtdhaebbfiaddnaaGreatDoorGts22
import Derived.Test.YtdhaebbfiaddnaaGreatDoorGts01
import Derived.Lib.SliceRun
import Derived.Test.YtdhaebbfiaddnaaGreatDoorGts09
import Derived.Test.YtdhaebbfiaddnaaGreatDoorGts03
import Derived.Deep.RegionHeld3
import Derived.Test.YtdhaebbfiaddnaaGreatDoorGts04
namespace Go.Proofs.YtdhaebbfiaddnaaGreatDoor
open Go.RowKit
set_option linter.unusedVariables false
/-- the numbers that stay -/
def keepZ (p : Int → Bool) (l : List Int) : List Int := l.filter fun x => !p x
/-- how many of the first j stay -/
def keepN (p : Int → Bool) (l : List Int) (j : Nat) : Nat := (keepZ p (l.take j)).length
theorem keepZ_succ {p : Int → Bool} {l : List Int} {j : Nat} (h : j < l.length) : keepZ p (l.take (j + 1)) = keepZ p (l.take j) ++ (if p (nthZ l j) then [] else [nthZ l j]) := by
  unfold keepZ
  rw [List.take_succ_eq_append_getElem h, List.filter_append, nthZ_lt h]
  cases hp : p l[j] <;> simp [hp]
theorem keepN_yes {p : Int → Bool} {l : List Int} {j : Nat} (h : j < l.length) (hp : p (nthZ l j) = false) : keepN p l (j + 1) = keepN p l j + 1 := by
  unfold keepN; rw [keepZ_succ h, hp]; simp
theorem keepN_no {p : Int → Bool} {l : List Int} {j : Nat} (h : j < l.length) (hp : p (nthZ l j) = true) : keepN p l (j + 1) = keepN p l j := by
  unfold keepN; rw [keepZ_succ h, hp]; simp
theorem keepN_le (p : Int → Bool) (l : List Int) (j : Nat) : keepN p l j ≤ j := by
  unfold keepN keepZ
  exact Nat.le_trans (List.length_filter_le _ _) (List.length_take_le _ _)
/-- a row from which elements are being deleted: the first j have been looked at -/
def Deling (T : TypeId) (w wr : World) (base g n cap : Nat) (p : Int → Bool) (l : List Int) (j : Nat) : Prop :=
  ∃ xs, wr.ownsRow base T 1 (.slice (some ⟨g, 0, none⟩) n cap) n xs ∧ xs.take (keepN p l j) = intVals (keepZ p (l.take j)) ∧ xs.drop j = intVals (l.drop j) ∧ Below base w wr ∧ n = l.length
theorem Deling.cell {T : TypeId} {w wr : World} {base g n cap : Nat} {p : Int → Bool} {l : List Int} {j : Nat} (h : Deling T w wr base g n cap p l j) (hj : j < n) : wr.cell? ⟨g, j, none⟩ = some (.int .i64 (nthZ l j)) := by
  obtain ⟨xs, ho, ht, hd, hb, rfl⟩ := h
  have h1 := ho.1
  rw [ho.cellAt j (by omega)]
  have : (xs.drop j)[0]? = (intVals (l.drop j))[0]? := by rw [hd]
  rw [List.getElem?_drop] at this
  rw [show j = j + 0 by omega, this]
  simp [intVals, hj, nthZ_lt hj]
theorem Deling.frozen {T : TypeId} {w wr : World} {base g n cap : Nat} {p : Int → Bool} {l : List Int} {j : Nat} (h : Deling T w wr base g n cap p l j) (i : Nat) : wr.frozen? ⟨g, i, none⟩ = false := by
  obtain ⟨xs, ho, _⟩ := h
  exact ho.frozenAt i
theorem Deling.there {T : TypeId} {w wr : World} {base g n cap : Nat} {p : Int → Bool} {l : List Int} {j : Nat} (h : Deling T w wr base g n cap p l j) {i : Nat} (hi : i < n) : ∃ v, wr.cell? ⟨g, i, none⟩ = some v := by
  obtain ⟨xs, ho, _⟩ := h
  have h1 := ho.1
  exact ⟨xs[i]'(by omega), by rw [ho.cellAt i (by omega), List.getElem?_eq_getElem]⟩
theorem Deling.base {T : TypeId} {w wr : World} {base g n cap : Nat} {p : Int → Bool} {l : List Int} {j : Nat} (h : Deling T w wr base g n cap p l j) : base ≤ g := by
  obtain ⟨xs, ho, _⟩ := h
  exact (ho.lt g rfl).1
theorem Deling.later {T : TypeId} {w wr wr' : World} {base g n cap : Nat} {p : Int → Bool} {l : List Int} {j : Nat} (h : Deling T w wr base g n cap p l j) (hb' : Below wr.heap.size wr wr') (hbase : base ≤ w.heap.size) : Deling T w wr' base g n cap p l j := by
  obtain ⟨xs, ho, ht, hd, hb, hn⟩ := h
  exact ⟨xs, owns_later ho hb', ht, hd, hb.trans (hb'.mono (Nat.le_trans hbase hb.size)), hn⟩
theorem drop_succ_of {α : Type} {xs ys : List α} {j : Nat} (h : xs.drop j = ys.drop j) : xs.drop (j + 1) = ys.drop (j + 1) := by
  rw [← List.drop_drop, ← List.drop_drop, h]
theorem Deling.skip {T : TypeId} {w wr : World} {base g n cap : Nat} {p : Int → Bool} {l : List Int} {j : Nat} (h : Deling T w wr base g n cap p l j) (hj : j < n) (hp : p (nthZ l j) = true) : Deling T w wr base g n cap p l (j + 1) := by
  obtain ⟨xs, ho, ht, hd, hb, rfl⟩ := h
  refine ⟨xs, ho, ?_, ?_, hb, rfl⟩
  · rw [keepN_no hj hp, ht, keepZ_succ hj, hp]; simp
  · unfold intVals at *
    rw [List.map_drop] at *
    exact drop_succ_of hd
theorem Deling.keep {T : TypeId} {w wr : World} {base g n cap : Nat} {p : Int → Bool} {l : List Int} {j : Nat} (h : Deling T w wr base g n cap p l j) (hj : j < n) (hp : p (nthZ l j) = false) :
    Deling T w (wr.setCell ⟨g, keepN p l j, none⟩ (.int .i64 (nthZ l j))) base g n cap p l (j + 1) := by
  have hbg := h.base
  obtain ⟨xs, ho, ht, hd, hb, rfl⟩ := h
  have hk := keepN_le p l j
  have h1 := ho.1
  refine ⟨xs.set (keepN p l j) (.int .i64 (nthZ l j)), (ho.stored _ _).1, ?_, ?_, hb.setCell hbg _, rfl⟩
  · rw [keepN_yes hj hp, List.take_succ_eq_append_getElem (by simpa using by omega), List.take_set_of_le (Nat.le_refl _), ht, keepZ_succ hj, hp]
    simp [intVals]
  · rw [List.drop_set_of_lt (by omega)]
    unfold intVals at *
    rw [List.map_drop] at *
    exact drop_succ_of hd
/-- what DeleteFunc leaves -/
def Deleted (T : TypeId) (w : World) (base : Nat) (a : Option Addr) (cap : Nat) (l : List Int) (e : Ending) (w' : World) : Prop :=
  e = .returned (.slice a l.length cap) ∧ w'.ownsRow base T 1 (.slice a l.length cap) l.length (intVals l) ∧ Below base w w'
theorem owns_cut {w : World} {base : Nat} {T : TypeId} {g n m cap : Nat} {xs : List Value} (h : w.ownsRow base T 1 (.slice (some ⟨g, 0, none⟩) n cap) n xs) (hm : m ≤ n) : w.ownsRow base T 1 (.slice (some ⟨g, 0, none⟩) m cap) m (xs.take m) := by
  obtain ⟨h1, h2⟩ := h
  rcases h2 with ⟨hv, _⟩ | ⟨g', cap', cur, hv, hb, hg, hn, hc, hs, ht⟩
  · cases hv
  · simp only [Value.slice.injEq, Option.some.injEq, Addr.mk.injEq, and_true, true_and] at hv
    obtain ⟨rfl, rfl⟩ := hv
    refine ⟨by simp; omega, .inr ⟨g, cap, cur, rfl, hb, hg, by omega, hc, hs, ?_⟩⟩
    rw [← ht, List.take_take]
    congr 1
    omega
theorem setCells_owns {base : Nat} {T : TypeId} {g n cap : Nat} : ∀ (zs : List Value) (o : Nat) (w : World) (xs : List Value), w.ownsRow base T 1 (.slice (some ⟨g, 0, none⟩) n cap) n xs →
    ∃ ys, (w.setCells g o zs).ownsRow base T 1 (.slice (some ⟨g, 0, none⟩) n cap) n ys ∧ ys.take o = xs.take o ∧ w.grownBy (w.setCells g o zs) (some g)
  | [], o, w, xs, h => ⟨xs, h, rfl, ⟨rfl, rfl, rfl, Nat.le_refl _, fun _ _ _ => rfl⟩⟩
  | z :: zs, o, w, xs, h => by
    have hs := h.stored o z
    obtain ⟨ys, h1, h2, h3⟩ := setCells_owns zs (o + 1) _ _ hs.1
    have hg := hs.2
    refine ⟨ys, h1, ?_, ⟨h3.os.trans hg.os, h3.tape.trans hg.tape, h3.output.trans hg.output, Nat.le_trans hg.size h3.size, fun k hk hne => (h3.block k (Nat.lt_of_lt_of_le hk hg.size) hne).trans (hg.block k hk hne)⟩⟩
    have h4 := congrArg (List.take o) h2
    rw [List.take_take, List.take_take, Nat.min_eq_left (by omega), List.take_set_of_le (Nat.le_refl _)] at h4
    exact h4
theorem Deling.done {T : TypeId} {w wr : World} {base g n cap : Nat} {p : Int → Bool} {l : List Int} {j : Nat} (h : Deling T w wr base g n cap p l j) (hj : ¬ j < n) (zs : List Value) (hbase : base ≤ w.heap.size) :
    Deleted T w base (some ⟨g, 0, none⟩) cap (keepZ p l) (.returned (.slice (some ⟨g, 0, none⟩) (keepN p l j) cap)) (wr.setCells g (keepN p l j) zs) := by
  have hbg := h.base
  obtain ⟨xs, ho, ht, hd, hb, rfl⟩ := h
  have hk : keepZ p (l.take j) = keepZ p l := by rw [List.take_of_length_le (by omega)]
  have hkn : keepN p l j = (keepZ p l).length := by unfold keepN; rw [hk]
  obtain ⟨ys, h1, h2, h3⟩ := setCells_owns zs (keepN p l j) wr xs ho
  have h4 := owns_cut h1 (m := keepN p l j) (by rw [hkn]; unfold keepZ; exact List.length_filter_le _ _)
  rw [h2, ht, hk] at h4
  unfold Deleted
  rw [← hkn]
  refine ⟨rfl, h4, hb.trans ⟨h3.os, h3.tape, h3.output, h3.size, fun k hk => h3.block k (by have := hb.size; omega) (by intro e; cases e; omega)⟩⟩
theorem Deling.start {T : TypeId} {w wr : World} {base g cap : Nat} {p : Int → Bool} {l : List Int} {i : Nat} (ho : wr.ownsRow base T 1 (.slice (some ⟨g, 0, none⟩) l.length cap) l.length (intVals l)) (hb : Below base w wr)
    (hi : i < l.length) (hn : noneTo p l i) (hp : p (nthZ l i) = true) : keepN p l (i + 1) = i ∧ Deling T w wr base g l.length cap p l (i + 1) := by
  have hk : ∀ j, j ≤ i → keepZ p (l.take j) = l.take j := by
    intro j
    induction j with
    | zero => intro _; simp [keepZ]
    | succ j ih =>
      intro hj
      rw [keepZ_succ (by omega), ih (by omega), hn j (by omega), List.take_succ_eq_append_getElem (by omega), nthZ_lt (by omega)]
      simp
  have h1 : keepN p l i = i := by unfold keepN; rw [hk i (Nat.le_refl _)]; simp; omega
  refine ⟨by rw [keepN_no hi hp, h1], ?_⟩
  have h2 : Deling T w wr base g l.length cap p l i := ⟨intVals l, ho, by rw [h1, hk i (Nat.le_refl _)]; simp [intVals], by simp [intVals], hb, rfl⟩
  exact h2.skip hi hp
theorem idxZ_cases (p : Int → Bool) (l : List Int) : (idxZ p l = -1 ∧ keepZ p l = l) ∨ ∃ i : Nat, idxZ p l = (i : Nat) ∧ i < l.length ∧ noneTo p l i ∧ p (nthZ l i) = true := by
  unfold idxZ
  cases h : l.findIdx? p
  · left
    rw [List.findIdx?_eq_none_iff] at h
    exact ⟨rfl, by unfold keepZ; rw [List.filter_eq_self]; intro x hx; simp [h x hx]⟩
  · right
    rename_i i
    rw [List.findIdx?_eq_some_iff_getElem] at h
    obtain ⟨hi, hp, hn⟩ := h
    refine ⟨i, rfl, hi, fun j hj => ?_, by rw [nthZ_lt hi]; exact hp⟩
    have := hn j hj
    rw [nthZ_lt (by omega)]
    simpa using this
theorem Tryz.zeroInt (w : World) : (zeroValue 3).run Tryz.prog w = .ok (.int .i64 0) w := by kernel_rfl
end Go.Proofs.YtdhaebbfiaddnaaGreatDoor
namespace Go.Proofs.YtdhaebbfiaddnaaGreatDoor
open Go.RowKit
set_option linter.unusedVariables false
def idxList (m : Nat) : List Int := (List.range m).map Int.ofNat
theorem idxList_len (m : Nat) : (idxList m).length = m := by simp [idxList]
theorem idxList_nth {m j : Nat} (h : j < m) : nthZ (idxList m) j = (j : Nat) := by rw [nthZ_lt (by rw [idxList_len]; exact h)]; simp [idxList]
theorem idxVals_eq (m : Nat) : idxVals m = intVals (idxList m) := by simp [idxVals, intVals, idxList]
/-- a function value that answers p for the elements below m, in every world that is as w below B -/
def PredEl (B : Nat) (g : Nat) (caps : Array Value) (p : Nat → Bool) (m : Nat) (w : World) : Prop :=
  ∀ j, j < m → ∀ W, Below B w W → Calls Tryz.prog g (#[.int .i64 (j : Nat)] ++ caps) W fun e W' => e = .returned (.bool (p j)) ∧ Below W.heap.size W W'
theorem PredEl.later {B : Nat} {g : Nat} {caps : Array Value} {p : Nat → Bool} {m : Nat} {w w1 : World} (h : PredEl B g caps p m w) (hb : Below B w w1) : PredEl B g caps p m w1 :=
  fun j hj W hW => h j hj W (hb.trans hW)
theorem PredEl.mono {B B' : Nat} {g : Nat} {caps : Array Value} {p : Nat → Bool} {m : Nat} {w : World} (h : PredEl B g caps p m w) (hb : B ≤ B') : PredEl B' g caps p m w :=
  fun j hj W hW => h j hj W (hW.mono hb)
/-- the elements of a valid table with a property -/
def thoseL (n : Int) (l : List Int) (p : Nat → Bool) : List Int := if tabB n l then ((List.range n.toNat).filter p).map Int.ofNat else []
theorem keepZ_idx (m : Nat) (p : Nat → Bool) : keepZ (fun x => !p x.toNat) (idxList m) = ((List.range m).filter p).map Int.ofNat := by
  unfold keepZ idxList
  rw [List.filter_map]
  congr 1
  apply List.filter_congr
  intro x _
  simp
theorem notPred_all (B g : Nat) (caps : Array Value) (p : Nat → Bool) (m : Nat) (w w1 : World) (b1 : Nat) (h : PredEl B g caps p m w) (hB : B ≤ w.heap.size) (hb1 : b1 < w1.heap.size) (hw : Below w.heap.size w w1)
    (h1 : w1.cell? ⟨b1, 0, none⟩ = some (.func (.func g) #[] caps)) (eg : ∀ args w, (callFunc g args).run Tryz.prog w = .ok (.enter g args) w) :
    PredInts w1.heap.size 126 #[.pointer (some ⟨b1, 0, none⟩)] (fun x => !p x.toNat) (idxList m) w1 := by
  intro j hj W hW
  rw [idxList_len] at hj
  rw [idxList_nth hj]
  have g1 : W.cell? ⟨b1, 0, none⟩ = some (.func (.func g) #[] caps) := by rw [hW.cell hb1]; exact h1
  have HC := Lib.hid (h j hj W ((hw.mono hB).trans (hW.mono (Nat.le_trans hB hw.size))))
  clear h1 hW hb1 hw h
  go_enter Tryz.func126, Tryz.ntmps126
  go_wp2_with fail
  refine HC.out.mono ?_
  rintro e w2 ⟨rfl, hb2⟩
  go_wp2_with fail
  go_ret
  exact ⟨by simp, hb2⟩
theorem any_idx (m : Nat) (p : Nat → Bool) : (!(idxList m).any fun x => !p x.toNat) = (List.range m).all p := by
  unfold idxList
  rw [List.any_map, List.all_eq_not_any_not]
  congr 2
set_option maxHeartbeats 800000 in
theorem all_any (B g : Nat) (caps : Array Value) (p : Nat → Bool) (m : Nat) (a : Option Addr) (len cap : Nat) (w : World) (hm : m ≤ 1000) (h : PredEl B g caps p m w) (hB : B ≤ w.heap.size)
    (eg : ∀ args w, (callFunc g args).run Tryz.prog w = .ok (.enter g args) w) :
    Calls Tryz.prog 89 #[.agg #[.int .i64 m, .slice a len cap], .func (.func g) #[] caps] w fun e w' => e = .returned (.bool ((List.range m).all p)) ∧ Below w.heap.size w w' := by
  have HP := Lib.hid h
  have HA := Lib.hid (any_idx m p)
  clear h
  go_enter Tryz.func89, Tryz.ntmps89
  go_wp2_with fail
  refine (indices_any m _ (by omega)).mono ?_
  rintro e w2 ⟨ai, ci, rfl, ho, hb2⟩
  have hbel : Below w.heap.size w w2 := Below.now (((Below.refl w.heap.size w).alloc (Nat.le_refl _) _).alloc (by simp) _) hb2
  have hc : w2.cell? ⟨w.heap.size + 1, 0, none⟩ = some (.func (.func g) #[] caps) := by rw [hb2.cell (by simp)]; simp
  have hz : w.heap.size + 1 < w2.heap.size := by have := hb2.size; simp at this; omega
  rw [idxVals_eq] at ho
  have HC := containsFuncInts_any 126 #[.pointer (some ⟨w.heap.size + 1, 0, none⟩)] (fun x => !p x.toNat) (idxList m) ai ci w2 (owns_ints (l := idxList m) ho) (by rw [idxList_len]; omega) w2.heap.size (Nat.le_refl _)
    (notPred_all B g caps p m w w2 _ HP.out hB hz hbel hc eg) (enters_of Tryz.func126 (by kernel_rfl) rfl)
  rw [idxList_len] at HC
  have HC' := Lib.hid HC
  clear HC ho hc hb2
  go_wp2_with fail
  refine HC'.out.mono ?_
  rintro e w3 ⟨rfl, hb3⟩
  have hbel3 := Below.now hbel hb3
  clear hb3 hbel
  go_wp2_with fail
  go_ret
  exact ⟨ret_bool HA.out, hbel3⟩
theorem retSl_nil (T : TypeId) (w w' : World) (h : Below w.heap.size w w') : RetSl T 1 0 [] w (.returned (.slice none 0 0)) w' := ⟨none, 0, rfl, World.ownsRow_nil _ _ _ _, h⟩
end Go.Proofs.YtdhaebbfiaddnaaGreatDoor
namespace Go.Proofs.YtdhaebbfiaddnaaGreatDoor
open Go.RowKit
set_option linter.unusedVariables false
/-- the element is a zero -/
def zerB (m : Nat) (ln : List Nat) (z i : Nat) : Bool := decide (tm m ln z i = z) && decide (tm m ln i z = z)
def zeroB (m : Nat) (ln : List Nat) (z : Nat) : Bool := (List.range m).all (zerB m ln z)
def firstZ (l : List Int) : Int := match l with | [] => -1 | x :: _ => x
/-- ZeroOf as a function of plain data -/
def zeroF (n : Int) (l : List Int) : Int := firstZ (thoseL n l (zeroB n.toNat (l.map Int.toNat)))
theorem zerB_of1 {m : Nat} {ln : List Nat} {z i : Nat} (h : (((tm m ln z i : Nat) : Int) == (z : Nat)) = false) : zerB m ln z i = false := by
  simp at h; simp [zerB]; omega
theorem zerB_of2 {m : Nat} {ln : List Nat} {z i : Nat} (h : (((tm m ln z i : Nat) : Int) == (z : Nat)) = true) {b : Bool} (h2 : (((tm m ln i z : Nat) : Int) == (z : Nat)) = b) : zerB m ln z i = b := by
  cases b <;> simp at h h2 <;> simp [zerB] <;> omega
theorem ownsInts_first {w : World} {base : Nat} {T : TypeId} {a : Option Addr} {n cap : Nat} {l : List Int} (h : w.ownsRow base T 1 (.slice a n cap) n (intVals l)) (hl : 0 < l.length) : ∃ g, a = some ⟨g, 0, none⟩ ∧ w.cell? ⟨g, 0, none⟩ = some (.int .i64 (nthZ l 0)) := by
  have h1 := h.1
  rcases h.2 with ⟨hv, h0⟩ | ⟨g, cap', cur, hv, _⟩
  · simp [intVals] at h1; omega
  · simp only [Value.slice.injEq] at hv
    obtain ⟨rfl, _, rfl⟩ := hv
    exact ⟨g, rfl, by rw [h.cellAt 0 (by simp [intVals] at h1; omega)]; simp [intVals, hl, nthZ_lt hl]⟩
theorem map_toNat (ln : List Nat) : (ln.map Int.ofNat).map Int.toNat = ln := by rw [List.map_map]; exact List.map_id'' (fun x => rfl) ln
end Go.Proofs.YtdhaebbfiaddnaaGreatDoor
namespace Go.Proofs.YtdhaebbfiaddnaaGreatDoor
open Go.RowKit
set_option linter.unusedVariables false
def unB (m : Nat) (ln : List Nat) (i k : Nat) : Bool := !(decide (tm m ln i k = 0) && decide (tm m ln k i = 0))
def isUnit (m : Nat) (ln : List Nat) (i : Nat) : Bool := !(List.range m).all (unB m ln i)
def regB (m : Nat) (ln : List Nat) (i x : Nat) : Bool := !decide (tm m ln (tm m ln i x) i = i)
def isReg (m : Nat) (ln : List Nat) (i : Nat) : Bool := !(List.range m).all (regB m ln i)
def cenB (m : Nat) (ln : List Nat) (i k : Nat) : Bool := decide (tm m ln i k = tm m ln k i)
def isCen (m : Nat) (ln : List Nat) (i : Nat) : Bool := (List.range m).all (cenB m ln i)
theorem unB_of1 {m : Nat} {ln : List Nat} {i k : Nat} (h : (((tm m ln i k : Nat) : Int) != 0) = true) : unB m ln i k = true := by
  simp at h; simp [unB, h]
theorem unB_of2 {m : Nat} {ln : List Nat} {i k : Nat} (h : (((tm m ln i k : Nat) : Int) != 0) = false) {b : Bool} (h2 : (((tm m ln k i : Nat) : Int) != 0) = b) : unB m ln i k = b := by
  cases b <;> simp at h h2 <;> simp [unB, h, h2]
theorem regB_of {m : Nat} {ln : List Nat} {i k : Nat} {b : Bool} (h2 : (((tm m ln (tm m ln i k) i : Nat) : Int) != (i : Nat)) = b) : regB m ln i k = b := by
  cases b <;> simp at h2 <;> simp [regB] <;> omega
theorem cenB_of {m : Nat} {ln : List Nat} {i k : Nat} {b : Bool} (h2 : (((tm m ln i k : Nat) : Int) == ((tm m ln k i : Nat) : Int)) = b) : cenB m ln i k = b := by
  cases b <;> simp at h2 <;> simp [cenB] <;> omega
/-- UnitsOf as a function of plain data -/
def unitsOfF (n : Int) (l : List Int) : List Int := thoseL n l (isUnit n.toNat (l.map Int.toNat))
/-- RegularOf as a function of plain data -/
def regularOfF (n : Int) (l : List Int) : List Int := thoseL n l (isReg n.toNat (l.map Int.toNat))
end Go.Proofs.YtdhaebbfiaddnaaGreatDoor
namespace Go.Proofs.YtdhaebbfiaddnaaGreatDoor
open Go.RowKit
set_option linter.unusedVariables false
def boolVals (m : Nat) (f : Nat → Bool) : List Value := (List.range m).map fun j => Value.bool (f j)
theorem boolVals_len (m : Nat) (f : Nat → Bool) : (boolVals m f).length = m := by simp [boolVals]
theorem boolVals_at {m j : Nat} {f : Nat → Bool} (h : j < m) : (boolVals m f)[j]? = some (.bool (f j)) := by simp [boolVals, h]
theorem boolVals_congr {m : Nat} {f g : Nat → Bool} (h : ∀ j, j < m → f j = g j) : boolVals m f = boolVals m g := by
  unfold boolVals
  apply List.map_congr_left
  intro j hj
  rw [h j (List.mem_range.1 hj)]
/-- a row of m bools of the call's own, in block g -/
def BoolRow (T : TypeId) (w : World) (base g m : Nat) (f : Nat → Bool) : Prop := w.ownsRow base T 1 (.slice (some ⟨g, 0, none⟩) m m) m (boolVals m f)
theorem BoolRow.cell {T : TypeId} {w : World} {base g m : Nat} {f : Nat → Bool} (h : BoolRow T w base g m f) {j : Nat} (hj : j < m) : w.cell? ⟨g, j, none⟩ = some (.bool (f j)) := by
  have := World.ownsRow.cellAt h j (by omega)
  rw [this, boolVals_at hj]
theorem BoolRow.frozen {T : TypeId} {w : World} {base g m : Nat} {f : Nat → Bool} (h : BoolRow T w base g m f) (j : Nat) : w.frozen? ⟨g, j, none⟩ = false := World.ownsRow.frozenAt h j
theorem BoolRow.range {T : TypeId} {w : World} {base g m : Nat} {f : Nat → Bool} (h : BoolRow T w base g m f) : base ≤ g ∧ g < w.heap.size := World.ownsRow.lt h g rfl
theorem BoolRow.later {T : TypeId} {w w' : World} {base g m : Nat} {f : Nat → Bool} (h : BoolRow T w base g m f) (hb : Below w.heap.size w w') : BoolRow T w' base g m f := owns_later h hb
theorem BoolRow.congr {T : TypeId} {w : World} {base g m : Nat} {f f' : Nat → Bool} (h : BoolRow T w base g m f) (hf : ∀ j, j < m → f j = f' j) : BoolRow T w base g m f' := by
  unfold BoolRow; rw [← boolVals_congr hf]; exact h
theorem BoolRow.store {T : TypeId} {w : World} {base g m : Nat} {f : Nat → Bool} (h : BoolRow T w base g m f) (i : Nat) (v : Bool) : BoolRow T (w.setCell ⟨g, i, none⟩ (.bool v)) base g m (fun j => if j = i then v else f j) := by
  have hs := (World.ownsRow.stored h i (.bool v)).1
  have e : (boolVals m f).set i (.bool v) = boolVals m (fun j => if j = i then v else f j) := by
    apply List.ext_getElem?
    intro j
    rw [List.getElem?_set, boolVals_len]
    by_cases hj : j < m
    · rw [boolVals_at (f := fun j => if j = i then v else f j) hj]
      by_cases e : i = j
      · subst e; simp [hj]
      · rw [if_neg e, boolVals_at hj, if_neg (by omega)]
    · rw [List.getElem?_eq_none (l := boolVals m fun j => if j = i then v else f j) (by rw [boolVals_len]; omega)]
      by_cases e : i = j
      · subst e; simp [hj]
      · rw [if_neg e, List.getElem?_eq_none (by rw [boolVals_len]; omega)]
  unfold BoolRow
  rw [← e]
  exact hs
theorem BoolRow.start (w : World) (T : TypeId) (cs : Array Value) (m : Nat) (hs : cs.toList = boolVals m fun _ => false) (hn : m ≤ maxLen) : BoolRow T (w.alloc (.cells cs T)) w.heap.size w.heap.size m fun _ => false := by
  have h := World.ownsRow_lit (e := T) (size := 1) w cs m (Nat.le_refl _) hn (by rw [← Array.length_toList, hs, boolVals_len]; omega)
  rw [hs] at h
  exact h
theorem made_bools (m : Nat) : (madeCells #[.bool false] m).toList = boolVals m fun _ => false := by
  rw [toList_madeCells_one]
  apply List.ext_getElem
  · simp [boolVals]
  · intro i h1 h2; simp [boolVals]
theorem BoolRow.ge {T : TypeId} {w : World} {base base' g m : Nat} {f : Nat → Bool} (h : BoolRow T w base g m f) (hb : base' ≤ base) : BoolRow T w base' g m f := owns_mono h hb
end Go.Proofs.YtdhaebbfiaddnaaGreatDoor
namespace Go.Proofs.YtdhaebbfiaddnaaGreatDoor
open Go.RowKit
set_option linter.unusedVariables false
def ivs (q : List Nat) : List Value := intVals (q.map Int.ofNat)
theorem ivs_app (q : List Nat) (y : Nat) : ivs (q ++ [y]) = ivs q ++ [.int .i64 (y : Nat)] := by simp [ivs, intVals]
theorem ivs_len (q : List Nat) : (ivs q).length = q.length := by simp [ivs, intVals]
theorem ivs_get {q : List Nat} {p : Nat} (h : p < q.length) : (ivs q)[p]? = some (.int .i64 ((q.getD p 0 : Nat) : Int)) := by simp [ivs, intVals, h]
theorem mem_ofNat (q : List Nat) (y : Nat) : ((y : Nat) : Int) ∈ q.map Int.ofNat ↔ y ∈ q := by
  rw [List.mem_map]
  exact ⟨fun ⟨a, ha, e⟩ => by rwa [show a = y from Int.ofNat.inj e] at ha, fun h => ⟨y, h, rfl⟩⟩
theorem cont_ivs (q : List Nat) (y : Nat) : (q.map Int.ofNat).contains ((y : Nat) : Int) = q.contains y := by
  rw [Bool.eq_iff_iff, List.contains_iff_mem, List.contains_iff_mem]; exact mem_ofNat q y
theorem owns_some {w : World} {base n : Nat} {T : TypeId} {v : Value} {xs : List Value} (h : w.ownsRow base T 1 v n xs) (hn : 0 < n) : ∃ g cap, v = .slice (some ⟨g, 0, none⟩) n cap := by
  rcases h.2 with ⟨_, h0⟩ | ⟨g, cap, cur, hv, _⟩
  · omega
  · exact ⟨g, cap, hv⟩
theorem nats_cell {w : World} {a : Option Addr} {z : List Nat} (h : NatsIn w a z) {j : Nat} (hj : j < z.length) : ∃ b off, a = some ⟨b, off, none⟩ ∧ ∀ W, Below w.heap.size w W → W.cell? ⟨b, off + j, none⟩ = some (.int .i64 ((z[j] : Nat) : Int)) := by
  obtain ⟨b, off, ha, hb, hc⟩ := IntsIn.cell h (i := j) (by simpa using hj)
  refine ⟨b, off, ha, fun W hW => ?_⟩
  rw [hW.cell hb, hc j (by simpa using hj), nthZ_lt (by simpa using hj)]
  simp
theorem map_toNat' (l : List Nat) : (l.map Int.ofNat).map Int.toNat = l := by rw [List.map_map]; exact List.map_id'' (fun x => rfl) l
theorem Tryz.infoBool : (Tryz.prog.info? 4).map (fun i => (i.zero, i.size, i.bytes)) = some (some (.bool false), 1, 1) := by kernel_rfl
/-- what a call hands back that makes a row of bools -/
def RetBools (m : Nat) (f : Nat → Bool) (w : World) (e : Ending) (w' : World) : Prop :=
  ∃ g, e = .returned (.slice (some ⟨g, 0, none⟩) m m) ∧ BoolRow 4 w' w.heap.size g m f ∧ Below w.heap.size w w'
end Go.Proofs.YtdhaebbfiaddnaaGreatDoor
namespace Go.Proofs.YtdhaebbfiaddnaaGreatDoor
open Go.RowKit
set_option linter.unusedVariables false
/-- the first x of them hold -/
def allN (p : Nat → Bool) (x : Nat) : Bool := (List.range x).all p
theorem allN_zero (p : Nat → Bool) : allN p 0 = true := by simp [allN]
theorem allN_succ (p : Nat → Bool) (x : Nat) : allN p (x + 1) = (allN p x && p x) := by simp [allN, List.range_succ]
theorem zeroF_at {m : Nat} {ln : List Nat} (ht : tabB (m : Nat) (ln.map Int.ofNat) = true) {c : Nat} (hn : ∀ z, z < c → zeroB m ln z = false) (hc : c < m) (hz : zeroB m ln c = true) : zeroF (m : Nat) (ln.map Int.ofNat) = (c : Nat) := by
  unfold zeroF thoseL
  rw [ht, map_toNat]
  simp only [if_true, Int.toNat_natCast]
  have h1 : (List.range m).filter (zeroB m ln) = c :: ((List.range m).drop (c + 1)).filter (zeroB m ln) := by
    have h2 : List.range m = (List.range m).take c ++ (c :: (List.range m).drop (c + 1)) := by
      have hd : (List.range m).drop c = c :: (List.range m).drop (c + 1) := by rw [List.drop_eq_getElem_cons (by simpa using hc)]; simp
      rw [← hd, List.take_append_drop]
    rw [h2, List.filter_append, List.filter_cons, if_pos hz]
    have h3 : ((List.range m).take c).filter (zeroB m ln) = [] := by
      rw [List.filter_eq_nil_iff]
      intro z hz
      rw [List.take_range] at hz
      have := hn z (by have := List.mem_range.1 hz; omega)
      simp [this]
    rw [h3, ← h2]
    simp
  rw [h1]
  rfl
theorem zeroF_none {m : Nat} {ln : List Nat} {c : Nat} (hn : ∀ z, z < c → zeroB m ln z = false) (hc : ¬ c < m) : zeroF (m : Nat) (ln.map Int.ofNat) = -1 := by
  unfold zeroF thoseL
  rw [map_toNat]
  simp only [Int.toNat_natCast]
  have h1 : (List.range m).filter (zeroB m ln) = [] := by
    rw [List.filter_eq_nil_iff]
    intro z hz
    have := hn z (by have := List.mem_range.1 hz; omega)
    simp [this]
  rw [h1]
  split <;> rfl
theorem zeroF_not {n : Int} {l : List Int} (h : tabB n l = false) : zeroF n l = -1 := by unfold zeroF thoseL; rw [h]; rfl
theorem noneZ_succ {p : Nat → Bool} {c : Nat} (h : ∀ z, z < c → p z = false) (hc : p c = false) : ∀ z, z < c + 1 → p z = false := fun z hz => by
  by_cases e : z = c
  · rw [e]; exact hc
  · exact h z (by omega)
end Go.Proofs.YtdhaebbfiaddnaaGreatDoor
namespace Go.Proofs.YtdhaebbfiaddnaaGreatDoor
open Go.RowKit
set_option linter.unusedVariables false
/-- the inverse of an element, or -1 -/
def invB (m : Nat) (ln : List Nat) (i k : Nat) : Bool := decide (tm m ln i k = 0) && decide (tm m ln k i = 0)
def invF (m : Nat) (ln : List Nat) (i : Nat) : Int := match (List.range m).find? (invB m ln i) with | some k => (k : Nat) | none => -1
theorem invB_un (m : Nat) (ln : List Nat) (i k : Nat) : invB m ln i k = !unB m ln i k := by simp [invB, unB]
theorem find_at {m : Nat} {p : Nat → Bool} {k : Nat} (hn : ∀ z, z < k → p z = false) (hk : k < m) (hp : p k = true) : (List.range m).find? p = some k := by
  rw [List.find?_eq_some_iff_getElem]
  refine ⟨hp, k, by simpa using hk, by simp, fun j hj => ?_⟩
  simp [hn j hj]
theorem invF_at {m : Nat} {ln : List Nat} {i k : Nat} (hn : ∀ z, z < k → invB m ln i z = false) (hk : k < m) (hp : invB m ln i k = true) : invF m ln i = (k : Nat) := by
  unfold invF; rw [find_at hn hk hp]
theorem invF_none {m : Nat} {ln : List Nat} {i k : Nat} (hn : ∀ z, z < k → invB m ln i z = false) (hk : ¬ k < m) : invF m ln i = -1 := by
  unfold invF
  have : (List.range m).find? (invB m ln i) = none := by
    rw [List.find?_eq_none]
    intro z hz
    have := hn z (by have := List.mem_range.1 hz; omega)
    simp [this]
  rw [this]
theorem invF_unit (m : Nat) (ln : List Nat) (i : Nat) : decide (0 ≤ invF m ln i) = isUnit m ln i := by
  unfold invF isUnit
  cases h : (List.range m).find? (invB m ln i)
  · rw [List.find?_eq_none] at h
    have : (List.range m).all (unB m ln i) = true := all_range.2 fun k hk => by
      have := h k (List.mem_range.2 hk)
      rw [invB_un] at this
      simpa using this
    rw [this]; rfl
  · rename_i k
    have h1 := List.find?_some h
    have h2 := List.mem_of_find?_eq_some h
    have : (List.range m).all (unB m ln i) = false := all_range_false (List.mem_range.1 h2) (by rw [invB_un] at h1; simpa using h1)
    rw [this]; simp
theorem invF_lt {m : Nat} {ln : List Nat} {i : Nat} : invF m ln i = -1 ∨ ∃ k : Nat, invF m ln i = (k : Nat) ∧ k < m ∧ invB m ln i k = true := by
  unfold invF
  cases h : (List.range m).find? (invB m ln i)
  · left; rfl
  · rename_i k
    right
    exact ⟨k, rfl, List.mem_range.1 (List.mem_of_find?_eq_some h), List.find?_some h⟩
theorem invB_of1 {m : Nat} {ln : List Nat} {i k : Nat} (h : (((tm m ln i k : Nat) : Int) == 0) = false) : invB m ln i k = false := by
  simp at h; simp [invB, h]
theorem invB_of2 {m : Nat} {ln : List Nat} {i k : Nat} (h : (((tm m ln i k : Nat) : Int) == 0) = true) {b : Bool} (h2 : (((tm m ln k i : Nat) : Int) == 0) = b) : invB m ln i k = b := by
  cases b <;> simp at h h2 <;> simp [invB, h, h2]
theorem thoseL_not {n : Int} {l : List Int} {p : Nat → Bool} (h : tabB n l = false) : thoseL n l p = [] := by unfold thoseL; rw [h]; rfl
theorem thoseL_yes {m : Nat} {l : List Int} {p : Nat → Bool} (h : tabB (m : Nat) l = true) : thoseL (m : Nat) l p = listTo p m := by unfold thoseL; rw [h]; rfl
theorem thoseL_len (n : Int) (l : List Int) (p : Nat → Bool) : (thoseL n l p).length ≤ 1000 := by
  cases h : tabB n l
  · rw [thoseL_not h]; simp
  · obtain ⟨m, ln, rfl, rfl, hT⟩ := tabOk_out h
    rw [thoseL_yes h]
    have := listTo_len p m
    have := hT.hi
    omega
theorem unitsOfF_len (n : Int) (l : List Int) : (unitsOfF n l).length ≤ 1000 := thoseL_len _ _ _
theorem regularOfF_len (n : Int) (l : List Int) : (regularOfF n l).length ≤ 1000 := thoseL_len _ _ _
/-- IsGroup as a function of plain data -/
def groupB (n : Int) (l : List Int) : Bool := tabB n l && decide ((((unitsOfF n l).length : Nat) : Int) = n)
theorem groupB_not {n : Int} {l : List Int} (h : tabB n l = false) : groupB n l = false := by simp [groupB, h]
theorem groupB_yes {n : Int} {l : List Int} (h : tabB n l = true) : groupB n l = ((((unitsOfF n l).length : Nat) : Int) == n) := by
  simp only [groupB, h, Bool.true_and]; rfl
end Go.Proofs.YtdhaebbfiaddnaaGreatDoor
namespace Go.Proofs.YtdhaebbfiaddnaaGreatDoor
open Go.RowKit
set_option linter.unusedVariables false
def idemB (m : Nat) (ln : List Nat) (i : Nat) : Bool := decide (tm m ln i i = i)
def idemF (n : Int) (l : List Int) : List Int := thoseL n l (idemB n.toNat (l.map Int.toNat))
theorem idemB_of {m : Nat} {ln : List Nat} {i : Nat} {b : Bool} (h : (((tm m ln i i : Nat) : Int) == ((i : Nat) : Int)) = b) : idemB m ln i = b := by
  cases b <;> simp at h <;> simp [idemB] <;> omega
end Go.Proofs.YtdhaebbfiaddnaaGreatDoor
namespace Go.Proofs.YtdhaebbfiaddnaaGreatDoor
open Go.RowKit
set_option linter.unusedVariables false
/-- a function value that answers p for two elements below m, in every world that is as w below B -/
def PredEl2 (B : Nat) (g : Nat) (caps : Array Value) (p : Nat → Nat → Bool) (m : Nat) (w : World) : Prop :=
  ∀ i k, i < m → k < m → ∀ W, Below B w W → Calls Tryz.prog g (#[.int .i64 (i : Nat), .int .i64 (k : Nat)] ++ caps) W fun e W' => e = .returned (.bool (p i k)) ∧ Below W.heap.size W W'
/-- the elements below c that began a class -/
def numF (p : Nat → Nat → Bool) : Nat → List Nat
  | 0 => []
  | c + 1 => if (numF p c).any (p c) then numF p c else numF p c ++ [c]
/-- the place of the first class, or -1 -/
def numI (p : Nat → Nat → Bool) (F : List Nat) (j : Nat) : Int := match F.findIdx? (p j) with | some i => (i : Nat) | none => -1
/-- the number that is given -/
def numV (p : Nat → Nat → Bool) (F : List Nat) (j : Nat) : Int := if numI p F j < 0 then ((F.length : Nat) : Int) else numI p F j
def numO (p : Nat → Nat → Bool) (c : Nat) : List Int := (List.range c).map fun j => numV p (numF p j) j
theorem numO_zero (p : Nat → Nat → Bool) : numO p 0 = [] := rfl
theorem numO_succ (p : Nat → Nat → Bool) (c : Nat) : numO p (c + 1) = numO p c ++ [numV p (numF p c) c] := by simp [numO, List.range_succ]
theorem numO_len (p : Nat → Nat → Bool) (c : Nat) : (numO p c).length = c := by simp [numO]
theorem numF_lt (p : Nat → Nat → Bool) : ∀ c, ∀ f ∈ numF p c, f < c
  | 0, f, hf => by simp [numF] at hf
  | c + 1, f, hf => by
    unfold numF at hf
    split at hf
    · have := numF_lt p c f hf; omega
    · rcases List.mem_append.1 hf with hf | hf
      · have := numF_lt p c f hf; omega
      · rw [List.mem_singleton.1 hf]; omega
theorem numF_len (p : Nat → Nat → Bool) : ∀ c, (numF p c).length ≤ c
  | 0 => by simp [numF]
  | c + 1 => by
    have := numF_len p c
    unfold numF
    split
    · omega
    · rw [List.length_append]; simp; omega
theorem numI_neg (p : Nat → Nat → Bool) (F : List Nat) (j : Nat) : (numI p F j < 0) ↔ F.any (p j) = false := by
  unfold numI
  cases h : F.findIdx? (p j)
  · rw [List.findIdx?_eq_none_iff] at h
    have : F.any (p j) = false := by rw [List.any_eq_false]; intro x hx; simp [h x hx]
    simp [this]
  · rename_i i
    rw [List.findIdx?_eq_some_iff_getElem] at h
    obtain ⟨hi, hp, _⟩ := h
    have : F.any (p j) = true := by rw [List.any_eq_true]; exact ⟨F[i], List.getElem_mem hi, hp⟩
    simp [this]
theorem numF_succ (p : Nat → Nat → Bool) (c : Nat) : numF p (c + 1) = if (numF p c).any (p c) then numF p c else numF p c ++ [c] := rfl
theorem numF_yes {p : Nat → Nat → Bool} {c : Nat} (h : ¬ numI p (numF p c) c < 0) : numF p (c + 1) = numF p c := by
  rw [numI_neg] at h
  have h2 : (numF p c).any (p c) = true := by cases hh : (numF p c).any (p c) <;> simp_all
  rw [numF_succ, if_pos h2]
theorem numF_no {p : Nat → Nat → Bool} {c : Nat} (h : numI p (numF p c) c < 0) : numF p (c + 1) = numF p c ++ [c] := by
  rw [numI_neg] at h
  rw [numF_succ, if_neg (by simp [h])]
theorem numV_yes {p : Nat → Nat → Bool} {F : List Nat} {j : Nat} (h : ¬ numI p F j < 0) : numV p F j = numI p F j := by unfold numV; rw [if_neg h]
theorem numV_no {p : Nat → Nat → Bool} {F : List Nat} {j : Nat} (h : numI p F j < 0) : numV p F j = ((F.length : Nat) : Int) := by unfold numV; rw [if_pos h]
theorem idxZ_num (p : Nat → Nat → Bool) (F : List Nat) (c : Nat) : idxZ (fun x => p c x.toNat) (F.map Int.ofNat) = numI p F c := by
  unfold idxZ numI
  rw [List.findIdx?_map]
  rfl
theorem below_of_grownN {w wr wr' : World} {own : Option Nat} (h : Below w.heap.size w wr) (hg : wr.grownBy wr' own) (ho : ∀ k, own = some k → w.heap.size ≤ k) : Below w.heap.size w wr' := h.grown hg h.size ho
/-- two lists that are being built, apart from each other -/
def Two (w wr : World) (v : Value) (xs : List Int) (u : Value) (F : List Nat) : Prop :=
  Bld 3 1 w wr v xs.length (intVals xs) ∧ Bld 3 1 w wr u F.length (ivs F) ∧ ∀ k, v.ownBlock = some k → u.ownBlock ≠ some k
theorem Two.later {w wr wr' : World} {v u : Value} {xs : List Int} {F : List Nat} (h : Two w wr v xs u F) (hb : Below wr.heap.size wr wr') : Two w wr' v xs u F := ⟨h.1.later hb, h.2.1.later hb, h.2.2⟩
theorem kept_of {T : TypeId} {w wr wr' : World} {v : Value} {n : Nat} {xs : List Value} {own : Option Nat} (h : Bld T 1 w wr v n xs) (hg : wr.grownBy wr' own) (hne : ∀ k, v.ownBlock = some k → own ≠ some k) (ho : ∀ k, own = some k → w.heap.size ≤ k) : Bld T 1 w wr' v n xs := by
  refine ⟨h.1.kept hg ?_, below_of_grownN h.2 hg ho⟩
  cases hv : v.ownBlock with
  | none => exact .inl rfl
  | some k => exact .inr fun e => hne k hv (e.symm ▸ rfl)
theorem Two.putV {w wr w' : World} {v v' u : Value} {xs : List Int} {F : List Nat} {y : Int} (h : Two w wr v xs u F) (hb : Bld 3 1 w w' v' (xs.length + 1) (intVals xs ++ [.int .i64 y])) (hg : (wr.alloc (.cells #[.int .i64 y] 3)).grownBy w' v.ownBlock)
    (ho : v'.ownBlock = v.ownBlock ∨ v'.ownBlock = some (wr.alloc (.cells #[.int .i64 y] 3)).heap.size) : Two w w' v' (xs ++ [y]) u F := by
  have hal : Below wr.heap.size wr (wr.alloc (.cells #[.int .i64 y] 3)) := (Below.refl _ _).alloc (Nat.le_refl _) _
  refine ⟨?_, kept_of (h.2.1.later hal) hg (fun k hk e => h.2.2 k e hk) (fun k hk => (h.1.1.lt k hk).1), fun k hk e => ?_⟩
  · rw [List.length_append]; unfold intVals at *; rw [List.map_append]; exact hb
  · rcases ho with h1 | h1
    · exact h.2.2 k (h1 ▸ hk) e
    · rw [h1] at hk
      have h2 := Option.some.inj hk
      have h3 := (h.2.1.1.lt k e).2
      simp at h2; omega
theorem Two.putU {w wr w' : World} {v u u' : Value} {xs : List Int} {F : List Nat} {y : Nat} (h : Two w wr v xs u F) (hb : Bld 3 1 w w' u' (F.length + 1) (ivs F ++ [.int .i64 (y : Nat)])) (hg : (wr.alloc (.cells #[.int .i64 (y : Nat)] 3)).grownBy w' u.ownBlock)
    (ho : u'.ownBlock = u.ownBlock ∨ u'.ownBlock = some (wr.alloc (.cells #[.int .i64 (y : Nat)] 3)).heap.size) : Two w w' v xs u' (F ++ [y]) := by
  have hal : Below wr.heap.size wr (wr.alloc (.cells #[.int .i64 (y : Nat)] 3)) := (Below.refl _ _).alloc (Nat.le_refl _) _
  refine ⟨kept_of (h.1.later hal) hg (fun k hk e => h.2.2 k hk e) (fun k hk => (h.2.1.1.lt k hk).1), ?_, fun k hk e => ?_⟩
  · rw [List.length_append, ivs_app]; exact hb
  · rcases ho with h1 | h1
    · exact h.2.2 k hk (h1 ▸ e)
    · rw [h1] at e
      have h2 := Option.some.inj e
      have h3 := (h.1.1.lt k hk).2
      simp at h2; omega
section
variable {p : Nat → Nat → Bool}
theorem numF_pre : ∀ {a b : Nat}, a ≤ b → numF p a <+: numF p b
  | a, 0, h => by
    obtain rfl : a = 0 := by omega
    exact List.prefix_refl _
  | a, b + 1, h => by
    by_cases e : a = b + 1
    · subst e; exact List.prefix_refl _
    · refine (numF_pre (show a ≤ b by omega)).trans ?_
      rw [numF_succ]
      split
      · exact List.prefix_refl _
      · exact List.prefix_append _ _
theorem numI_pre {F F' : List Nat} (h : F <+: F') {j : Nat} (hq : ¬ numI p F j < 0) : numI p F' j = numI p F j := by
  obtain ⟨t, rfl⟩ := h
  unfold numI at *
  cases hf : F.findIdx? (p j)
  · rw [hf] at hq; simp at hq
  · rename_i i
    rw [List.findIdx?_append, hf]; rfl
theorem numI_app {F : List Nat} {c j : Nat} (h : numI p F j < 0) : numI p (F ++ [c]) j = if p j c = true then ((F.length : Nat) : Int) else -1 := by
  unfold numI at *
  cases hf : F.findIdx? (p j)
  · rw [List.findIdx?_append, hf]
    cases hp : p j c
    · simp [List.findIdx?_cons, hp]
    · simp [List.findIdx?_cons, hp]
  · rename_i i
    rw [hf] at h; simp at h; omega
theorem numI_full {m : Nat} (hr : ∀ i, i < m → p i i = true) {j : Nat} (hj : j < m) : numI p (numF p m) j = numV p (numF p j) j := by
  by_cases h : numI p (numF p j) j < 0
  · rw [numV_no h]
    have h1 : numI p (numF p (j + 1)) j = ((numF p j).length : Int) := by rw [numF_no h, numI_app h, if_pos (hr j hj)]
    rw [numI_pre (numF_pre (show j + 1 ≤ m from hj)) (by rw [h1]; omega), h1]
  · rw [numV_yes h]
    exact numI_pre (numF_pre (Nat.le_of_lt hj)) h
theorem numO_full {m : Nat} (hr : ∀ i, i < m → p i i = true) : numO p m = (List.range m).map (numI p (numF p m)) := by
  unfold numO
  apply List.map_congr_left
  intro j hj
  exact (numI_full hr (List.mem_range.1 hj)).symm
end
end Go.Proofs.YtdhaebbfiaddnaaGreatDoor
