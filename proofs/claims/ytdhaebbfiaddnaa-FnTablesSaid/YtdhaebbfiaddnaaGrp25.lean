/-
  IdempotentsOf, of the program and of the reference.
-/
import Derived.Test.YtdhaebbfiaddnaaGrp24
import Derived.Test.YtdhaebbfiaddnaaGrp10
import Derived.Test.YtdhaebbfiaddnaaGrp01
import Derived.Deep.RegionHeld3
namespace Go.Proofs.Ytdhaebbfiaddnaa
open Go.RowKit
set_option linter.unusedVariables false
def idxList (m : Nat) : List Int := (List.range m).map Int.ofNat
theorem idxList_len (m : Nat) : (idxList m).length = m := by simp [idxList]
theorem idxList_nth {m j : Nat} (h : j < m) : nthZ (idxList m) j = (j : Nat) := by rw [nthZ_lt (by rw [idxList_len]; exact h)]; simp [idxList]
theorem idxVals_eq (m : Nat) : idxVals m = intVals (idxList m) := by simp [idxVals, intVals, idxList]
/-- a function value that answers p for the elements below m, in every world that is as w below B -/
def PredEl (B : Nat) (g : Nat) (caps : Array Value) (p : Nat → Bool) (m : Nat) (w : World) : Prop :=
  ∀ j, j < m → ∀ W, Below B w W → Calls Try.prog g (#[.int .i64 (j : Nat)] ++ caps) W fun e W' => e = .returned (.bool (p j)) ∧ Below W.heap.size W W'
theorem PredEl.later {B : Nat} {g : Nat} {caps : Array Value} {p : Nat → Bool} {m : Nat} {w w1 : World} (h : PredEl B g caps p m w) (hb : Below B w w1) : PredEl B g caps p m w1 :=
  fun j hj W hW => h j hj W (hb.trans hW)
theorem PredEl.mono {B B' : Nat} {g : Nat} {caps : Array Value} {p : Nat → Bool} {m : Nat} {w : World} (h : PredEl B g caps p m w) (hb : B ≤ B') : PredEl B' g caps p m w :=
  fun j hj W hW => h j hj W (hW.mono hb)
/-- the elements of a valid table with a property -/
def thoseL (n : Int) (l : List Int) (p : Nat → Bool) : List Int := if tabB n l then ((List.range n.toNat).filter p).map Int.ofNat else []
theorem keepZ_idx (m : Nat) (p : Nat → Bool) : keepZ (fun x => !p x.toNat) (idxList m) = ((List.range m).filter p).map Int.ofNat := by
  unfold keepZ idxList
  rw [List.filter_map]
  congr 1
  apply List.filter_congr
  intro x _
  simp
/-- the closure that those and all hand on -/
theorem notPred_those (B g : Nat) (caps : Array Value) (p : Nat → Bool) (m : Nat) (w w1 : World) (b1 : Nat) (h : PredEl B g caps p m w) (hB : B ≤ w.heap.size) (hb1 : b1 < w1.heap.size) (hw : Below w.heap.size w w1)
    (h1 : w1.cell? ⟨b1, 0, none⟩ = some (.func (.func g) #[] caps)) (eg : ∀ args w, (callFunc g args).run Try.prog w = .ok (.enter g args) w) :
    PredInts w1.heap.size 34 #[.pointer (some ⟨b1, 0, none⟩)] (fun x => !p x.toNat) (idxList m) w1 := by
  intro j hj W hW
  rw [idxList_len] at hj
  rw [idxList_nth hj]
  have g1 : W.cell? ⟨b1, 0, none⟩ = some (.func (.func g) #[] caps) := by rw [hW.cell hb1]; exact h1
  have HC := Lib.hid (h j hj W ((hw.mono hB).trans (hW.mono (Nat.le_trans hB hw.size))))
  clear h1 hW hb1 hw h
  go_enter Try.func34, Try.ntmps34
  go_wp2_with fail
  refine HC.out.mono ?_
  rintro e w2 ⟨rfl, hb2⟩
  go_wp2_with fail
  go_ret
  exact ⟨by simp, hb2⟩
theorem notPred_all (B g : Nat) (caps : Array Value) (p : Nat → Bool) (m : Nat) (w w1 : World) (b1 : Nat) (h : PredEl B g caps p m w) (hB : B ≤ w.heap.size) (hb1 : b1 < w1.heap.size) (hw : Below w.heap.size w w1)
    (h1 : w1.cell? ⟨b1, 0, none⟩ = some (.func (.func g) #[] caps)) (eg : ∀ args w, (callFunc g args).run Try.prog w = .ok (.enter g args) w) :
    PredInts w1.heap.size 37 #[.pointer (some ⟨b1, 0, none⟩)] (fun x => !p x.toNat) (idxList m) w1 := by
  intro j hj W hW
  rw [idxList_len] at hj
  rw [idxList_nth hj]
  have g1 : W.cell? ⟨b1, 0, none⟩ = some (.func (.func g) #[] caps) := by rw [hW.cell hb1]; exact h1
  have HC := Lib.hid (h j hj W ((hw.mono hB).trans (hW.mono (Nat.le_trans hB hw.size))))
  clear h1 hW hb1 hw h
  go_enter Try.func37, Try.ntmps37
  go_wp2_with fail
  refine HC.out.mono ?_
  rintro e w2 ⟨rfl, hb2⟩
  go_wp2_with fail
  go_ret
  exact ⟨by simp, hb2⟩
theorem any_idx (m : Nat) (p : Nat → Bool) : (!(idxList m).any fun x => !p x.toNat) = (List.range m).all p := by
  unfold idxList
  rw [List.any_map, List.all_eq_not_any_not]
  congr 2
set_option maxHeartbeats 800000 in
theorem all_any (B g : Nat) (caps : Array Value) (p : Nat → Bool) (m : Nat) (a : Option Addr) (len cap : Nat) (w : World) (hm : m ≤ 1000) (h : PredEl B g caps p m w) (hB : B ≤ w.heap.size)
    (eg : ∀ args w, (callFunc g args).run Try.prog w = .ok (.enter g args) w) :
    Calls Try.prog 26 #[.agg #[.int .i64 m, .slice a len cap], .func (.func g) #[] caps] w fun e w' => e = .returned (.bool ((List.range m).all p)) ∧ Below w.heap.size w w' := by
  have HP := Lib.hid h
  have HA := Lib.hid (any_idx m p)
  clear h
  go_enter Try.func26, Try.ntmps26
  go_wp2_with fail
  refine (indices_any m _ (by omega)).mono ?_
  rintro e w2 ⟨ai, ci, rfl, ho, hb2⟩
  have hbel : Below w.heap.size w w2 := Below.now (((Below.refl w.heap.size w).alloc (Nat.le_refl _) _).alloc (by simp) _) hb2
  have hc : w2.cell? ⟨w.heap.size + 1, 0, none⟩ = some (.func (.func g) #[] caps) := by rw [hb2.cell (by simp)]; simp
  have hz : w.heap.size + 1 < w2.heap.size := by have := hb2.size; simp at this; omega
  rw [idxVals_eq] at ho
  have HC := containsFuncInts_any 37 #[.pointer (some ⟨w.heap.size + 1, 0, none⟩)] (fun x => !p x.toNat) (idxList m) ai ci w2 (owns_ints (l := idxList m) ho) (by rw [idxList_len]; omega) w2.heap.size (Nat.le_refl _)
    (notPred_all B g caps p m w w2 _ HP.out hB hz hbel hc eg) (enters_of Try.func37 (by kernel_rfl) rfl)
  rw [idxList_len] at HC
  have HC' := Lib.hid HC
  clear HC ho hc hb2
  go_wp2_with fail
  refine HC'.out.mono ?_
  rintro e w3 ⟨rfl, hb3⟩
  have hbel3 := Below.now hbel hb3
  clear hb3 hbel
  go_wp2_with fail
  go_ret
  exact ⟨ret_bool HA.out, hbel3⟩
theorem retSl_nil (T : TypeId) (w w' : World) (h : Below w.heap.size w w') : RetSl T 1 0 [] w (.returned (.slice none 0 0)) w' := ⟨none, 0, rfl, World.ownsRow_nil _ _ _ _, h⟩
set_option maxHeartbeats 800000 in
theorem those_any (n : Int) (l : List Int) (a : Option Addr) (cap : Nat) (w : World) (hl : IntsIn w a l) (hlen : l.length ≤ 2 ^ 47) (B g : Nat) (caps : Array Value) (p : Nat → Bool) (hB : B ≤ w.heap.size)
    (h : tabB n l = true → PredEl B g caps p n.toNat w) (eg : ∀ args w, (callFunc g args).run Try.prog w = .ok (.enter g args) w) :
    Calls Try.prog 22 #[.agg #[.int .i64 n, .slice a l.length cap], .func (.func g) #[] caps] w (RetSl 3 1 (thoseL n l p).length (intVals (thoseL n l p)) w) := by
  have HL := Lib.hid hl
  have HP := Lib.hid h
  clear hl h
  cases ht : tabB n l
  · have F : Hid (∀ w', Below w.heap.size w w' → RetSl 3 1 (thoseL n l p).length (intVals (thoseL n l p)) w (.returned (.slice none 0 0)) w') := fun w' hb => by
      unfold thoseL; rw [ht]; exact retSl_nil _ _ _ hb
    go_enter Try.func22, Try.ntmps22
    go_wp2_with fail
    refine (implTableOk_any n l a cap _ (HL.out.later (((Below.refl _ _).alloc (Nat.le_refl _) _).alloc (by simp) _)) hlen).mono ?_
    rintro e w2 ⟨rfl, hb2⟩
    have hbel : Below w.heap.size w w2 := Below.now (((Below.refl w.heap.size w).alloc (Nat.le_refl _) _).alloc (by simp) _) hb2
    clear hb2
    go_wp2_with fail
    go_ret
    exact F.out _ hbel
  · obtain ⟨m, ln, rfl, hln, hT⟩ := tabOk_out ht
    have hm1 := hT.hi
    have hm0 := hT.lo
    have F : Hid (thoseL (m : Nat) l p = keepZ (fun x => !p x.toNat) (idxList m)) := by
      rw [keepZ_idx]; unfold thoseL; rw [ht]; rfl
    have HPP := Lib.hid (HP.out ht)
    simp only [Int.toNat_natCast] at HPP
    clear hT hln
    go_enter Try.func22, Try.ntmps22
    go_wp2_with fail
    refine (implTableOk_any _ l a cap _ (HL.out.later (((Below.refl _ _).alloc (Nat.le_refl _) _).alloc (by simp) _)) hlen).mono ?_
    rintro e w2 ⟨rfl, hb2⟩
    have hbel : Below w.heap.size w w2 := Below.now (((Below.refl w.heap.size w).alloc (Nat.le_refl _) _).alloc (by simp) _) hb2
    have hc : w2.cell? ⟨w.heap.size + 1, 0, none⟩ = some (.func (.func g) #[] caps) := by rw [hb2.cell (by simp)]; simp
    have hx : w2.cell? ⟨w.heap.size, 0, none⟩ = some (.int .i64 (m : Nat)) := by rw [hb2.cell (by simp; omega)]; simp
    have hz : w.heap.size + 1 < w2.heap.size := by have := hb2.size; simp at this; omega
    clear hb2
    go_wp2_with fail
    refine (indices_any m _ (by omega)).mono ?_
    rintro e w3 ⟨ai, ci, rfl, ho, hb3⟩
    have hbel3 := Below.now hbel hb3
    have hc3 : w3.cell? ⟨w.heap.size + 1, 0, none⟩ = some (.func (.func g) #[] caps) := by rw [hb3.cell hz]; exact hc
    have hz3 : w.heap.size + 1 < w3.heap.size := by have := hb3.size; omega
    have hs3 := hb3.size
    rw [idxVals_eq] at ho
    have HD := deleteFuncInts_any 34 #[.pointer (some ⟨w.heap.size + 1, 0, none⟩)] (fun x => !p x.toNat) (idxList m) ai ci w2.heap.size w3 (by rw [idxList_len]; exact ho) (by rw [idxList_len]; omega) hs3
      (fun j hj W hW => notPred_those B g caps p m w w2 _ HPP.out hB hz hbel hc eg j hj W ((hb3.trans hW).mono (Nat.le_refl _))) (enters_of Try.func34 (by kernel_rfl) rfl)
    rw [idxList_len] at HD
    have HD' := Lib.hid HD
    clear HD ho hc hb3 hc3 hx hbel
    go_wp2_with fail
    refine HD'.out.mono ?_
    rintro e w4 ⟨rfl, ho4, hb4⟩
    have F2 : Hid (RetSl 3 1 (thoseL (m : Nat) l p).length (intVals (thoseL (m : Nat) l p)) w (.returned (.slice ai (keepZ (fun x => !p x.toNat) (idxList m)).length ci)) w4) := by
      rw [F.out]
      exact ⟨_, _, rfl, owns_mono ho4 (by omega), hbel3.trans (hb4.mono (by omega))⟩
    clear ho4 hb4 hbel3
    go_wp2_with fail
    go_ret
    exact F2.out
end Go.Proofs.Ytdhaebbfiaddnaa
namespace Go.Proofs.Ytdhaebbfiaddnaa
open Go.RowKit
set_option linter.unusedVariables false
/-- the element is a zero -/
def zerB (m : Nat) (ln : List Nat) (z i : Nat) : Bool := decide (tm m ln z i = z) && decide (tm m ln i z = z)
def zeroB (m : Nat) (ln : List Nat) (z : Nat) : Bool := (List.range m).all (zerB m ln z)
def firstZ (l : List Int) : Int := match l with | [] => -1 | x :: _ => x
/-- ZeroOf as a function of plain data -/
def zeroF (n : Int) (l : List Int) : Int := firstZ (thoseL n l (zeroB n.toNat (l.map Int.toNat)))
theorem zerB_of1 {m : Nat} {ln : List Nat} {z i : Nat} (h : (((tm m ln z i : Nat) : Int) == (z : Nat)) = false) : zerB m ln z i = false := by
  simp at h; simp [zerB]; omega
theorem zerB_of2 {m : Nat} {ln : List Nat} {z i : Nat} (h : (((tm m ln z i : Nat) : Int) == (z : Nat)) = true) {b : Bool} (h2 : (((tm m ln i z : Nat) : Int) == (z : Nat)) = b) : zerB m ln z i = b := by
  cases b <;> simp at h h2 <;> simp [zerB] <;> omega
theorem ownsInts_first {w : World} {base : Nat} {T : TypeId} {a : Option Addr} {n cap : Nat} {l : List Int} (h : w.ownsRow base T 1 (.slice a n cap) n (intVals l)) (hl : 0 < l.length) : ∃ g, a = some ⟨g, 0, none⟩ ∧ w.cell? ⟨g, 0, none⟩ = some (.int .i64 (nthZ l 0)) := by
  have h1 := h.1
  rcases h.2 with ⟨hv, h0⟩ | ⟨g, cap', cur, hv, _⟩
  · simp [intVals] at h1; omega
  · simp only [Value.slice.injEq] at hv
    obtain ⟨rfl, _, rfl⟩ := hv
    exact ⟨g, rfl, by rw [h.cellAt 0 (by simp [intVals] at h1; omega)]; simp [intVals, hl, nthZ_lt hl]⟩
theorem map_toNat (ln : List Nat) : (ln.map Int.ofNat).map Int.toNat = ln := by rw [List.map_map]; exact List.map_id'' (fun x => rfl) ln
end Go.Proofs.Ytdhaebbfiaddnaa
namespace Go.Proofs.Ytdhaebbfiaddnaa
open Go.RowKit
set_option linter.unusedVariables false
def unB (m : Nat) (ln : List Nat) (i k : Nat) : Bool := !(decide (tm m ln i k = 0) && decide (tm m ln k i = 0))
def isUnit (m : Nat) (ln : List Nat) (i : Nat) : Bool := !(List.range m).all (unB m ln i)
def regB (m : Nat) (ln : List Nat) (i x : Nat) : Bool := !decide (tm m ln (tm m ln i x) i = i)
def isReg (m : Nat) (ln : List Nat) (i : Nat) : Bool := !(List.range m).all (regB m ln i)
def cenB (m : Nat) (ln : List Nat) (i k : Nat) : Bool := decide (tm m ln i k = tm m ln k i)
def isCen (m : Nat) (ln : List Nat) (i : Nat) : Bool := (List.range m).all (cenB m ln i)
theorem unB_of1 {m : Nat} {ln : List Nat} {i k : Nat} (h : (((tm m ln i k : Nat) : Int) != 0) = true) : unB m ln i k = true := by
  simp at h; simp [unB, h]
theorem unB_of2 {m : Nat} {ln : List Nat} {i k : Nat} (h : (((tm m ln i k : Nat) : Int) != 0) = false) {b : Bool} (h2 : (((tm m ln k i : Nat) : Int) != 0) = b) : unB m ln i k = b := by
  cases b <;> simp at h h2 <;> simp [unB, h, h2]
theorem regB_of {m : Nat} {ln : List Nat} {i k : Nat} {b : Bool} (h2 : (((tm m ln (tm m ln i k) i : Nat) : Int) != (i : Nat)) = b) : regB m ln i k = b := by
  cases b <;> simp at h2 <;> simp [regB] <;> omega
theorem cenB_of {m : Nat} {ln : List Nat} {i k : Nat} {b : Bool} (h2 : (((tm m ln i k : Nat) : Int) == ((tm m ln k i : Nat) : Int)) = b) : cenB m ln i k = b := by
  cases b <;> simp at h2 <;> simp [cenB] <;> omega
set_option maxHeartbeats 800000 in
theorem unitsofIn_pred (m : Nat) (ln : List Nat) (a : Option Addr) (len cap bt bz i : Nat) (w : World) (hx0 : w.cell? ⟨bt, 0, none⟩ = some (.int .i64 m)) (hx1 : w.cell? ⟨bt, 1, none⟩ = some (.slice a len cap))
    (hzc : w.cell? ⟨bz, 0, none⟩ = some (.int .i64 (i : Nat))) (hn : NatsIn w a ln) (hT : Tb m ln) (hlen : len = m * m) (hz : i < m) :
    PredEl w.heap.size 27 #[.pointer (some ⟨bt, 0, none⟩), .pointer (some ⟨bz, 0, none⟩)] (unB m ln i) m w := by
  intro k hi W hW
  have k0 : ∀ x, (wide W x).cell? ⟨bt, 0, none⟩ = some (.int .i64 m) := wide_cell (by rw [hW.cell (World.block_lt_of_cell? w _ hx0)]; exact hx0)
  have k1 : ∀ x, (wide W x).cell? ⟨bt, 1, none⟩ = some (.slice a len cap) := wide_cell (by rw [hW.cell (World.block_lt_of_cell? w _ hx1)]; exact hx1)
  have k2 : ∀ x, (wide W x).cell? ⟨bz, 0, none⟩ = some (.int .i64 (i : Nat)) := wide_cell (by rw [hW.cell (World.block_lt_of_cell? w _ hzc)]; exact hzc)
  have HN : Hid (∀ x, NatsIn (wide W x) a ln) := fun x => (hn.later hW).later (below_wide _ _)
  have g0 : W.cell? ⟨bt, 0, none⟩ = some (.int .i64 m) := by rw [hW.cell (World.block_lt_of_cell? w _ hx0)]; exact hx0
  have g1 : W.cell? ⟨bt, 1, none⟩ = some (.slice a len cap) := by rw [hW.cell (World.block_lt_of_cell? w _ hx1)]; exact hx1
  have g2 : W.cell? ⟨bz, 0, none⟩ = some (.int .i64 (i : Nat)) := by rw [hW.cell (World.block_lt_of_cell? w _ hzc)]; exact hzc
  have HN0 := Lib.hid (hn.later hW)
  have HT := Lib.hid hT
  have HL := Lib.hid hlen
  have hik := hT.tm_lt hz hi
  clear hx0 hx1 hzc hn hT hlen hW
  have j0 : ∀ W', Below W.heap.size W W' → W'.cell? ⟨bt, 0, none⟩ = some (.int .i64 m) := fun W' h => (h.cell (World.block_lt_of_cell? _ _ g0)).trans g0
  have j1 : ∀ W', Below W.heap.size W W' → W'.cell? ⟨bt, 1, none⟩ = some (.slice a len cap) := fun W' h => (h.cell (World.block_lt_of_cell? _ _ g1)).trans g1
  have j2 : ∀ W', Below W.heap.size W W' → W'.cell? ⟨bz, 0, none⟩ = some (.int .i64 (i : Nat)) := fun W' h => (h.cell (World.block_lt_of_cell? _ _ g2)).trans g2
  have HN1 : Hid (∀ W', Below W.heap.size W W' → NatsIn W' a ln) := fun W' h => (HN0.out).later h
  have hW0 := Below.refl W.heap.size W
  clear g0 g1 g2 HN0
  cases e1 : (((tm m ln i k : Nat) : Int) != 0)
  rotate_left
  · have F := Lib.hid (unB_of1 e1)
    go_enter Try.func27, Try.ntmps27
    go_wp2_with fail
    refine (implTimes_any m ln a _ _ i k _ (HN1.out _ hW0) HT.out HL.out hz hi).mono ?_
    rintro e w2 ⟨rfl, hb⟩
    replace hW0 := Below.now hW0 hb
    clear hb
    go_wp2_with fail
    go_ret
    exact ⟨ret_bool F.out.symm, hW0⟩
  · have F := Lib.hid (unB_of2 e1 (b := (((tm m ln k i : Nat) : Int) != 0)) rfl)
    go_enter Try.func27, Try.ntmps27
    go_wp2_with fail
    refine (implTimes_any m ln a _ _ i k _ (HN1.out _ hW0) HT.out HL.out hz hi).mono ?_
    rintro e w2 ⟨rfl, hb⟩
    replace hW0 := Below.now hW0 hb
    clear hb
    go_wp2_with fail
    refine (implTimes_any m ln a _ _ k i _ (HN1.out _ hW0) HT.out HL.out hi hz).mono ?_
    rintro e w3 ⟨rfl, hb⟩
    replace hW0 := Below.now hW0 hb
    clear hb
    go_wp2_with fail
    go_ret
    exact ⟨ret_bool F.out.symm, hW0⟩
set_option maxHeartbeats 800000 in
theorem unitsofOut_pred (m : Nat) (ln : List Nat) (a : Option Addr) (len cap bt : Nat) (w : World) (hx0 : w.cell? ⟨bt, 0, none⟩ = some (.int .i64 m)) (hx1 : w.cell? ⟨bt, 1, none⟩ = some (.slice a len cap))
    (hn : NatsIn w a ln) (hT : Tb m ln) (hlen : len = m * m) :
    PredEl w.heap.size 25 #[.pointer (some ⟨bt, 0, none⟩)] (isUnit m ln) m w := by
  intro z hz W hW
  have k0 : W.cell? ⟨bt, 0, none⟩ = some (.int .i64 m) := by rw [hW.cell (World.block_lt_of_cell? w _ hx0)]; exact hx0
  have k1 : W.cell? ⟨bt, 1, none⟩ = some (.slice a len cap) := by rw [hW.cell (World.block_lt_of_cell? w _ hx1)]; exact hx1
  have hb0 : bt < W.heap.size := World.block_lt_of_cell? W _ k0
  have HN := Lib.hid (hn.later hW)
  have HT := Lib.hid hT
  have HL := Lib.hid hlen
  have hm := hT.hi
  clear hx0 hx1 hn hT hlen hW
  go_enter Try.func25, Try.ntmps25
  go_wp2_with fail
  have hbel : Below W.heap.size W (W.alloc (.cells #[.int .i64 (z : Nat)] 3)) := (Below.refl _ _).alloc (Nat.le_refl _) _
  have hp := unitsofIn_pred m ln a len cap bt W.heap.size z (W.alloc (.cells #[.int .i64 (z : Nat)] 3)) (by rw [hbel.cell hb0]; exact k0) (by rw [hbel.cell hb0]; exact k1) (by simp) (HN.out.later hbel) HT.out HL.out hz
  refine (all_any _ _ _ (unB m ln z) m a len cap _ (by omega) hp (Nat.le_refl _) (enters_of Try.func27 (by kernel_rfl) rfl)).mono ?_
  rintro e w2 ⟨rfl, hb2⟩
  have hbel2 := Below.now hbel hb2
  have HB : Hid (isUnit m ln z = !(List.range m).all (unB m ln z)) := rfl
  clear hp hb2 hbel
  generalize (List.range m).all (unB m ln z) = q at *
  go_wp2_with fail
  go_ret
  exact ⟨ret_bool (by rw [HB.out]), hbel2⟩
/-- UnitsOf as a function of plain data -/
def unitsOfF (n : Int) (l : List Int) : List Int := thoseL n l (isUnit n.toNat (l.map Int.toNat))
set_option maxHeartbeats 800000 in
theorem implUnitsOf_any (n : Int) (l : List Int) (a : Option Addr) (cap : Nat) (w : World) (hl : IntsIn w a l) (hlen : l.length ≤ 2 ^ 47) :
    Calls Try.prog 14 #[.agg #[.int .i64 n, .slice a l.length cap]] w (RetSl 3 1 (unitsOfF n l).length (intVals (unitsOfF n l)) w) := by
  have HL := Lib.hid hl
  clear hl
  go_enter Try.func14, Try.ntmps14
  go_wp2_with fail
  have hbel : Below w.heap.size w (w.alloc (.cells #[.int .i64 n, .slice a l.length cap] 25)) := (Below.refl _ _).alloc (Nat.le_refl _) _
  refine (those_any n l a cap _ (HL.out.later hbel) hlen _ _ _ (isUnit n.toNat (l.map Int.toNat)) (Nat.le_refl _) ?_ (enters_of Try.func25 (by kernel_rfl) rfl)).mono ?_
  · intro ht
    obtain ⟨m, ln, rfl, rfl, hT⟩ := tabOk_out ht
    rw [map_toNat]
    exact unitsofOut_pred m ln a (ln.map Int.ofNat).length cap w.heap.size _ (by simp) (by simp) (HL.out.later hbel) hT.toTb (by rw [List.length_map]; exact hT.len)
  rintro e w2 ⟨a2, c2, rfl, ho, hb2⟩
  have F : Hid (RetSl 3 1 (unitsOfF n l).length (intVals (unitsOfF n l)) w (.returned (.slice a2 (unitsOfF n l).length c2)) w2) := ⟨_, _, rfl, owns_mono ho (by simp), Below.now hbel hb2⟩
  have HE : Hid (thoseL n l (isUnit n.toNat (l.map Int.toNat)) = unitsOfF n l) := rfl
  rw [HE.out]
  clear ho hb2 hbel HE
  go_wp2_with fail
  go_ret
  exact F.out
/-- RegularOf as a function of plain data -/
def regularOfF (n : Int) (l : List Int) : List Int := thoseL n l (isReg n.toNat (l.map Int.toNat))
end Go.Proofs.Ytdhaebbfiaddnaa
namespace Go.Proofs.Ytdhaebbfiaddnaa
open Go.RowKit
set_option linter.unusedVariables false
def boolVals (m : Nat) (f : Nat → Bool) : List Value := (List.range m).map fun j => Value.bool (f j)
theorem boolVals_len (m : Nat) (f : Nat → Bool) : (boolVals m f).length = m := by simp [boolVals]
theorem boolVals_at {m j : Nat} {f : Nat → Bool} (h : j < m) : (boolVals m f)[j]? = some (.bool (f j)) := by simp [boolVals, h]
theorem boolVals_congr {m : Nat} {f g : Nat → Bool} (h : ∀ j, j < m → f j = g j) : boolVals m f = boolVals m g := by
  unfold boolVals
  apply List.map_congr_left
  intro j hj
  rw [h j (List.mem_range.1 hj)]
/-- a row of m bools of the call's own, in block g -/
def BoolRow (T : TypeId) (w : World) (base g m : Nat) (f : Nat → Bool) : Prop := w.ownsRow base T 1 (.slice (some ⟨g, 0, none⟩) m m) m (boolVals m f)
theorem BoolRow.cell {T : TypeId} {w : World} {base g m : Nat} {f : Nat → Bool} (h : BoolRow T w base g m f) {j : Nat} (hj : j < m) : w.cell? ⟨g, j, none⟩ = some (.bool (f j)) := by
  have := World.ownsRow.cellAt h j (by omega)
  rw [this, boolVals_at hj]
theorem BoolRow.frozen {T : TypeId} {w : World} {base g m : Nat} {f : Nat → Bool} (h : BoolRow T w base g m f) (j : Nat) : w.frozen? ⟨g, j, none⟩ = false := World.ownsRow.frozenAt h j
theorem BoolRow.range {T : TypeId} {w : World} {base g m : Nat} {f : Nat → Bool} (h : BoolRow T w base g m f) : base ≤ g ∧ g < w.heap.size := World.ownsRow.lt h g rfl
theorem BoolRow.later {T : TypeId} {w w' : World} {base g m : Nat} {f : Nat → Bool} (h : BoolRow T w base g m f) (hb : Below w.heap.size w w') : BoolRow T w' base g m f := owns_later h hb
theorem BoolRow.congr {T : TypeId} {w : World} {base g m : Nat} {f f' : Nat → Bool} (h : BoolRow T w base g m f) (hf : ∀ j, j < m → f j = f' j) : BoolRow T w base g m f' := by
  unfold BoolRow; rw [← boolVals_congr hf]; exact h
theorem BoolRow.store {T : TypeId} {w : World} {base g m : Nat} {f : Nat → Bool} (h : BoolRow T w base g m f) (i : Nat) (v : Bool) : BoolRow T (w.setCell ⟨g, i, none⟩ (.bool v)) base g m (fun j => if j = i then v else f j) := by
  have hs := (World.ownsRow.stored h i (.bool v)).1
  have e : (boolVals m f).set i (.bool v) = boolVals m (fun j => if j = i then v else f j) := by
    apply List.ext_getElem?
    intro j
    rw [List.getElem?_set, boolVals_len]
    by_cases hj : j < m
    · rw [boolVals_at (f := fun j => if j = i then v else f j) hj]
      by_cases e : i = j
      · subst e; simp [hj]
      · rw [if_neg e, boolVals_at hj, if_neg (by omega)]
    · rw [List.getElem?_eq_none (l := boolVals m fun j => if j = i then v else f j) (by rw [boolVals_len]; omega)]
      by_cases e : i = j
      · subst e; simp [hj]
      · rw [if_neg e, List.getElem?_eq_none (by rw [boolVals_len]; omega)]
  unfold BoolRow
  rw [← e]
  exact hs
theorem BoolRow.start (w : World) (T : TypeId) (cs : Array Value) (m : Nat) (hs : cs.toList = boolVals m fun _ => false) (hn : m ≤ maxLen) : BoolRow T (w.alloc (.cells cs T)) w.heap.size w.heap.size m fun _ => false := by
  have h := World.ownsRow_lit (e := T) (size := 1) w cs m (Nat.le_refl _) hn (by rw [← Array.length_toList, hs, boolVals_len]; omega)
  rw [hs] at h
  exact h
theorem made_bools (m : Nat) : (madeCells #[.bool false] m).toList = boolVals m fun _ => false := by
  rw [toList_madeCells_one]
  apply List.ext_getElem
  · simp [boolVals]
  · intro i h1 h2; simp [boolVals]
theorem BoolRow.ge {T : TypeId} {w : World} {base base' g m : Nat} {f : Nat → Bool} (h : BoolRow T w base g m f) (hb : base' ≤ base) : BoolRow T w base' g m f := owns_mono h hb
end Go.Proofs.Ytdhaebbfiaddnaa
namespace Go.Proofs.Ytdhaebbfiaddnaa
open Go.RowKit
set_option linter.unusedVariables false
def ivs (q : List Nat) : List Value := intVals (q.map Int.ofNat)
theorem ivs_app (q : List Nat) (y : Nat) : ivs (q ++ [y]) = ivs q ++ [.int .i64 (y : Nat)] := by simp [ivs, intVals]
theorem ivs_len (q : List Nat) : (ivs q).length = q.length := by simp [ivs, intVals]
theorem ivs_get {q : List Nat} {p : Nat} (h : p < q.length) : (ivs q)[p]? = some (.int .i64 ((q.getD p 0 : Nat) : Int)) := by simp [ivs, intVals, h]
theorem mem_ofNat (q : List Nat) (y : Nat) : ((y : Nat) : Int) ∈ q.map Int.ofNat ↔ y ∈ q := by
  rw [List.mem_map]
  exact ⟨fun ⟨a, ha, e⟩ => by rwa [show a = y from Int.ofNat.inj e] at ha, fun h => ⟨y, h, rfl⟩⟩
theorem cont_ivs (q : List Nat) (y : Nat) : (q.map Int.ofNat).contains ((y : Nat) : Int) = q.contains y := by
  rw [Bool.eq_iff_iff, List.contains_iff_mem, List.contains_iff_mem]; exact mem_ofNat q y
theorem owns_some {w : World} {base n : Nat} {T : TypeId} {v : Value} {xs : List Value} (h : w.ownsRow base T 1 v n xs) (hn : 0 < n) : ∃ g cap, v = .slice (some ⟨g, 0, none⟩) n cap := by
  rcases h.2 with ⟨_, h0⟩ | ⟨g, cap, cur, hv, _⟩
  · omega
  · exact ⟨g, cap, hv⟩
theorem nats_cell {w : World} {a : Option Addr} {z : List Nat} (h : NatsIn w a z) {j : Nat} (hj : j < z.length) : ∃ b off, a = some ⟨b, off, none⟩ ∧ ∀ W, Below w.heap.size w W → W.cell? ⟨b, off + j, none⟩ = some (.int .i64 ((z[j] : Nat) : Int)) := by
  obtain ⟨b, off, ha, hb, hc⟩ := IntsIn.cell h (i := j) (by simpa using hj)
  refine ⟨b, off, ha, fun W hW => ?_⟩
  rw [hW.cell hb, hc j (by simpa using hj), nthZ_lt (by simpa using hj)]
  simp
theorem map_toNat' (l : List Nat) : (l.map Int.ofNat).map Int.toNat = l := by rw [List.map_map]; exact List.map_id'' (fun x => rfl) l
theorem Try.infoBool : (Try.prog.info? 4).map (fun i => (i.zero, i.size, i.bytes)) = some (some (.bool false), 1, 1) := by kernel_rfl
/-- what a call hands back that makes a row of bools -/
def RetBools (m : Nat) (f : Nat → Bool) (w : World) (e : Ending) (w' : World) : Prop :=
  ∃ g, e = .returned (.slice (some ⟨g, 0, none⟩) m m) ∧ BoolRow 4 w' w.heap.size g m f ∧ Below w.heap.size w w'
end Go.Proofs.Ytdhaebbfiaddnaa
namespace Go.Proofs.Ytdhaebbfiaddnaa
open Go.RowKit
set_option linter.unusedVariables false
/-- the first x of them hold -/
def allN (p : Nat → Bool) (x : Nat) : Bool := (List.range x).all p
theorem allN_zero (p : Nat → Bool) : allN p 0 = true := by simp [allN]
theorem allN_succ (p : Nat → Bool) (x : Nat) : allN p (x + 1) = (allN p x && p x) := by simp [allN, List.range_succ]
theorem zeroF_at {m : Nat} {ln : List Nat} (ht : tabB (m : Nat) (ln.map Int.ofNat) = true) {c : Nat} (hn : ∀ z, z < c → zeroB m ln z = false) (hc : c < m) (hz : zeroB m ln c = true) : zeroF (m : Nat) (ln.map Int.ofNat) = (c : Nat) := by
  unfold zeroF thoseL
  rw [ht, map_toNat]
  simp only [if_true, Int.toNat_natCast]
  have h1 : (List.range m).filter (zeroB m ln) = c :: ((List.range m).drop (c + 1)).filter (zeroB m ln) := by
    have h2 : List.range m = (List.range m).take c ++ (c :: (List.range m).drop (c + 1)) := by
      have hd : (List.range m).drop c = c :: (List.range m).drop (c + 1) := by rw [List.drop_eq_getElem_cons (by simpa using hc)]; simp
      rw [← hd, List.take_append_drop]
    rw [h2, List.filter_append, List.filter_cons, if_pos hz]
    have h3 : ((List.range m).take c).filter (zeroB m ln) = [] := by
      rw [List.filter_eq_nil_iff]
      intro z hz
      rw [List.take_range] at hz
      have := hn z (by have := List.mem_range.1 hz; omega)
      simp [this]
    rw [h3, ← h2]
    simp
  rw [h1]
  rfl
theorem zeroF_none {m : Nat} {ln : List Nat} {c : Nat} (hn : ∀ z, z < c → zeroB m ln z = false) (hc : ¬ c < m) : zeroF (m : Nat) (ln.map Int.ofNat) = -1 := by
  unfold zeroF thoseL
  rw [map_toNat]
  simp only [Int.toNat_natCast]
  have h1 : (List.range m).filter (zeroB m ln) = [] := by
    rw [List.filter_eq_nil_iff]
    intro z hz
    have := hn z (by have := List.mem_range.1 hz; omega)
    simp [this]
  rw [h1]
  split <;> rfl
theorem zeroF_not {n : Int} {l : List Int} (h : tabB n l = false) : zeroF n l = -1 := by unfold zeroF thoseL; rw [h]; rfl
theorem noneZ_succ {p : Nat → Bool} {c : Nat} (h : ∀ z, z < c → p z = false) (hc : p c = false) : ∀ z, z < c + 1 → p z = false := fun z hz => by
  by_cases e : z = c
  · rw [e]; exact hc
  · exact h z (by omega)
end Go.Proofs.Ytdhaebbfiaddnaa
namespace Go.Proofs.Ytdhaebbfiaddnaa
open Go.RowKit
set_option linter.unusedVariables false
/-- the inverse of an element, or -1 -/
def invB (m : Nat) (ln : List Nat) (i k : Nat) : Bool := decide (tm m ln i k = 0) && decide (tm m ln k i = 0)
def invF (m : Nat) (ln : List Nat) (i : Nat) : Int := match (List.range m).find? (invB m ln i) with | some k => (k : Nat) | none => -1
theorem invB_un (m : Nat) (ln : List Nat) (i k : Nat) : invB m ln i k = !unB m ln i k := by simp [invB, unB]
theorem find_at {m : Nat} {p : Nat → Bool} {k : Nat} (hn : ∀ z, z < k → p z = false) (hk : k < m) (hp : p k = true) : (List.range m).find? p = some k := by
  rw [List.find?_eq_some_iff_getElem]
  refine ⟨hp, k, by simpa using hk, by simp, fun j hj => ?_⟩
  simp [hn j hj]
theorem invF_at {m : Nat} {ln : List Nat} {i k : Nat} (hn : ∀ z, z < k → invB m ln i z = false) (hk : k < m) (hp : invB m ln i k = true) : invF m ln i = (k : Nat) := by
  unfold invF; rw [find_at hn hk hp]
theorem invF_none {m : Nat} {ln : List Nat} {i k : Nat} (hn : ∀ z, z < k → invB m ln i z = false) (hk : ¬ k < m) : invF m ln i = -1 := by
  unfold invF
  have : (List.range m).find? (invB m ln i) = none := by
    rw [List.find?_eq_none]
    intro z hz
    have := hn z (by have := List.mem_range.1 hz; omega)
    simp [this]
  rw [this]
theorem invF_unit (m : Nat) (ln : List Nat) (i : Nat) : decide (0 ≤ invF m ln i) = isUnit m ln i := by
  unfold invF isUnit
  cases h : (List.range m).find? (invB m ln i)
  · rw [List.find?_eq_none] at h
    have : (List.range m).all (unB m ln i) = true := all_range.2 fun k hk => by
      have := h k (List.mem_range.2 hk)
      rw [invB_un] at this
      simpa using this
    rw [this]; rfl
  · rename_i k
    have h1 := List.find?_some h
    have h2 := List.mem_of_find?_eq_some h
    have : (List.range m).all (unB m ln i) = false := all_range_false (List.mem_range.1 h2) (by rw [invB_un] at h1; simpa using h1)
    rw [this]; simp
theorem invF_lt {m : Nat} {ln : List Nat} {i : Nat} : invF m ln i = -1 ∨ ∃ k : Nat, invF m ln i = (k : Nat) ∧ k < m ∧ invB m ln i k = true := by
  unfold invF
  cases h : (List.range m).find? (invB m ln i)
  · left; rfl
  · rename_i k
    right
    exact ⟨k, rfl, List.mem_range.1 (List.mem_of_find?_eq_some h), List.find?_some h⟩
theorem invB_of1 {m : Nat} {ln : List Nat} {i k : Nat} (h : (((tm m ln i k : Nat) : Int) == 0) = false) : invB m ln i k = false := by
  simp at h; simp [invB, h]
theorem invB_of2 {m : Nat} {ln : List Nat} {i k : Nat} (h : (((tm m ln i k : Nat) : Int) == 0) = true) {b : Bool} (h2 : (((tm m ln k i : Nat) : Int) == 0) = b) : invB m ln i k = b := by
  cases b <;> simp at h h2 <;> simp [invB, h, h2]
theorem thoseL_not {n : Int} {l : List Int} {p : Nat → Bool} (h : tabB n l = false) : thoseL n l p = [] := by unfold thoseL; rw [h]; rfl
theorem thoseL_yes {m : Nat} {l : List Int} {p : Nat → Bool} (h : tabB (m : Nat) l = true) : thoseL (m : Nat) l p = listTo p m := by unfold thoseL; rw [h]; rfl
theorem thoseL_len (n : Int) (l : List Int) (p : Nat → Bool) : (thoseL n l p).length ≤ 1000 := by
  cases h : tabB n l
  · rw [thoseL_not h]; simp
  · obtain ⟨m, ln, rfl, rfl, hT⟩ := tabOk_out h
    rw [thoseL_yes h]
    have := listTo_len p m
    have := hT.hi
    omega
theorem unitsOfF_len (n : Int) (l : List Int) : (unitsOfF n l).length ≤ 1000 := thoseL_len _ _ _
theorem regularOfF_len (n : Int) (l : List Int) : (regularOfF n l).length ≤ 1000 := thoseL_len _ _ _
/-- IsGroup as a function of plain data -/
def groupB (n : Int) (l : List Int) : Bool := tabB n l && decide ((((unitsOfF n l).length : Nat) : Int) = n)
theorem groupB_not {n : Int} {l : List Int} (h : tabB n l = false) : groupB n l = false := by simp [groupB, h]
theorem groupB_yes {n : Int} {l : List Int} (h : tabB n l = true) : groupB n l = ((((unitsOfF n l).length : Nat) : Int) == n) := by
  simp only [groupB, h, Bool.true_and]; rfl
end Go.Proofs.Ytdhaebbfiaddnaa
namespace Go.Proofs.Ytdhaebbfiaddnaa
open Go.RowKit
set_option linter.unusedVariables false
def idemB (m : Nat) (ln : List Nat) (i : Nat) : Bool := decide (tm m ln i i = i)
def idemF (n : Int) (l : List Int) : List Int := thoseL n l (idemB n.toNat (l.map Int.toNat))
theorem idemB_of {m : Nat} {ln : List Nat} {i : Nat} {b : Bool} (h : (((tm m ln i i : Nat) : Int) == ((i : Nat) : Int)) = b) : idemB m ln i = b := by
  cases b <;> simp at h <;> simp [idemB] <;> omega
set_option maxHeartbeats 800000 in
theorem idem_pred (m : Nat) (ln : List Nat) (a : Option Addr) (len cap bt : Nat) (w : World) (hx0 : w.cell? ⟨bt, 0, none⟩ = some (.int .i64 m)) (hx1 : w.cell? ⟨bt, 1, none⟩ = some (.slice a len cap))
    (hn : NatsIn w a ln) (hT : Tb m ln) (hlen : len = m * m) :
    PredEl w.heap.size 23 #[.pointer (some ⟨bt, 0, none⟩)] (idemB m ln) m w := by
  intro z hz W hW
  have k0 : W.cell? ⟨bt, 0, none⟩ = some (.int .i64 m) := by rw [hW.cell (World.block_lt_of_cell? w _ hx0)]; exact hx0
  have k1 : W.cell? ⟨bt, 1, none⟩ = some (.slice a len cap) := by rw [hW.cell (World.block_lt_of_cell? w _ hx1)]; exact hx1
  have HN := Lib.hid (hn.later hW)
  have HT := Lib.hid hT
  have HL := Lib.hid hlen
  clear hx0 hx1 hn hT hlen hW
  go_enter Try.func23, Try.ntmps23
  go_wp2_with fail
  refine (implTimes_any m ln a _ _ z z _ HN.out HT.out HL.out hz hz).mono ?_
  rintro e w2 ⟨rfl, hb2⟩
  cases e1 : (((tm m ln z z : Nat) : Int) == ((z : Nat) : Int))
  · have F := Lib.hid (idemB_of e1)
    go_wp2_with fail
    go_ret
    exact ⟨ret_bool F.out.symm, hb2⟩
  · have F := Lib.hid (idemB_of e1)
    go_wp2_with fail
    go_ret
    exact ⟨ret_bool F.out.symm, hb2⟩
set_option maxHeartbeats 800000 in
theorem implIdempotentsOf_any (n : Int) (l : List Int) (a : Option Addr) (cap : Nat) (w : World) (hl : IntsIn w a l) (hlen : l.length ≤ 2 ^ 47) :
    Calls Try.prog 11 #[.agg #[.int .i64 n, .slice a l.length cap]] w (RetSl 3 1 (idemF n l).length (intVals (idemF n l)) w) := by
  have HL := Lib.hid hl
  clear hl
  go_enter Try.func11, Try.ntmps11
  go_wp2_with fail
  have hbel : Below w.heap.size w (w.alloc (.cells #[.int .i64 n, .slice a l.length cap] 25)) := (Below.refl _ _).alloc (Nat.le_refl _) _
  refine (those_any n l a cap _ (HL.out.later hbel) hlen _ _ _ (idemB n.toNat (l.map Int.toNat)) (Nat.le_refl _) ?_ (enters_of Try.func23 (by kernel_rfl) rfl)).mono ?_
  · intro ht
    obtain ⟨m, ln, rfl, rfl, hT⟩ := tabOk_out ht
    rw [map_toNat]
    exact idem_pred m ln a (ln.map Int.ofNat).length cap w.heap.size _ (by simp) (by simp) (HL.out.later hbel) hT.toTb (by rw [List.length_map]; exact hT.len)
  rintro e w2 ⟨a2, c2, rfl, ho, hb2⟩
  have F : Hid (RetSl 3 1 (idemF n l).length (intVals (idemF n l)) w (.returned (.slice a2 (idemF n l).length c2)) w2) := ⟨_, _, rfl, owns_mono ho (by simp), Below.now hbel hb2⟩
  have HE : Hid (thoseL n l (idemB n.toNat (l.map Int.toNat)) = idemF n l) := rfl
  rw [HE.out]
  clear ho hb2 hbel HE
  go_wp2_with fail
  go_ret
  exact F.out
end Go.Proofs.Ytdhaebbfiaddnaa
